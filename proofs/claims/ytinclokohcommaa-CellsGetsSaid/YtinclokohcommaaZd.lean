/-
  Lemmas of the walk and plain laws, put together. No condition.
-/
import Derived.Test.YtinclokohcommaaZc
namespace Go.Proofs.Ytinclokohcommaa
open Go.RowKit
set_option linter.unusedVariables false
set_option maxRecDepth 100000

abbrev T_Cells : Ty := .row 37
abbrev T_Symbols : Ty := .row 72
abbrev T_Undos : Ty := .row 80
abbrev T_Wakes : Ty := .row 82
abbrev T_Store : Ty := .st 26
abbrev T_Errno : Ty := .int .i64
abbrev T_Cell : Ty := .st 36
abbrev T_Terms : Ty := .row 43
abbrev T_Term : Ty := .st 42
abbrev T_VarCells : Ty := .row 49
abbrev T_VarCell : Ty := .st 48
abbrev T_Symbol : Ty := .st 71
abbrev T_Undo : Ty := .st 79
abbrev T_Wake : Ty := .st 81
def ct_slices_Equal_Cell : Ct := ⟨76, [.val (.row 37), .val (.row 37)], [(.bool, false)], []⟩
theorem enter_slices_Equal_Cell (args : Array Value) (w : World) : (callFunc ct_slices_Equal_Cell.f args).run Try.prog w = .ok (.enter ct_slices_Equal_Cell.f args) w := by kernel_rfl
def ann_slices_Equal_Cell : Ann := ⟨[0, 1, 4, 5, 10, 12, 13, 14, 24], [(4, ⟨[(4, .bool, false), (13, .int .i64, false)], [], [14, 15, 5, 16, 17, 18, 19, 20, 21, 22, 23, 24, 25], []⟩)]⟩
def tree_slices_Equal_Cell : Tree := (.br (.not (.eq (.len (.tok 0)) (.len (.tok 1)))) (.leaf [(.lit (.b .false))]) (.loop 4 2 [(.lit (.b .false)), (.lit (.i 0))] (.br (.lt (.tok 3) (.len (.tok 0))) (.need [(.le (.lit (.i 0)) (.tok 3)), (.lt (.tok 3) (.len (.tok 1))), (.le (.lit (.i 0)) (.tok 3)), (.lt (.tok 3) (.len (.tok 0)))] (.br (.not (.eq (.get (.tok 0) (.tok 3)) (.get (.tok 1) (.tok 3)))) (.leaf [(.lit (.b .false))]) (.need [(.rng .i64 (.add (.tok 3) (.lit (.i 1))))] (.back 4 [(.tok 2), (.add (.tok 3) (.lit (.i 1)))])))) (.leaf [(.lit (.b .true))]))))
set_option maxRecDepth 100000 in
theorem code_slices_Equal_Cell : ∀ cd, Try.f76.body = some cd → treeOf Try.prog [] ann_slices_Equal_Cell ct_slices_Equal_Cell Try.f76 cd = tree_slices_Equal_Cell := by
  intro cd h
  injection h with h
  subst h
  kernel_rfl
theorem fok_slices_Equal_Cell {g : List D → Option (List D)}  (h : ∀ ds outs, WfA ct_slices_Equal_Cell.ars ds → g ds = some outs → tree_slices_Equal_Cell.go (tblS []) (fun o => o = outs) ds fun _ _ => False) : FOk ct_slices_Equal_Cell g :=
  fok_of ann_slices_Equal_Cell Try.f76 _ .nil rfl rfl enter_slices_Equal_Cell (by decide) fun ds outs hw hg => by rw [code_slices_Equal_Cell  _ rfl]; exact h ds outs hw hg

def ct_slices_Equal_Symbol : Ct := ⟨77, [.val (.row 72), .val (.row 72)], [(.bool, false)], []⟩
theorem enter_slices_Equal_Symbol (args : Array Value) (w : World) : (callFunc ct_slices_Equal_Symbol.f args).run Try.prog w = .ok (.enter ct_slices_Equal_Symbol.f args) w := by kernel_rfl
def ann_slices_Equal_Symbol : Ann := ⟨[0, 1, 4, 5, 10, 12, 13, 14, 24], [(4, ⟨[(4, .bool, false), (13, .int .i64, false)], [], [14, 15, 5, 16, 17, 18, 19, 20, 21, 22, 23, 24, 25], []⟩)]⟩
def tree_slices_Equal_Symbol : Tree := (.br (.not (.eq (.len (.tok 0)) (.len (.tok 1)))) (.leaf [(.lit (.b .false))]) (.loop 4 2 [(.lit (.b .false)), (.lit (.i 0))] (.br (.lt (.tok 3) (.len (.tok 0))) (.need [(.le (.lit (.i 0)) (.tok 3)), (.lt (.tok 3) (.len (.tok 1))), (.le (.lit (.i 0)) (.tok 3)), (.lt (.tok 3) (.len (.tok 0)))] (.br (.not (.eq (.get (.tok 0) (.tok 3)) (.get (.tok 1) (.tok 3)))) (.leaf [(.lit (.b .false))]) (.need [(.rng .i64 (.add (.tok 3) (.lit (.i 1))))] (.back 4 [(.tok 2), (.add (.tok 3) (.lit (.i 1)))])))) (.leaf [(.lit (.b .true))]))))
set_option maxRecDepth 100000 in
theorem code_slices_Equal_Symbol : ∀ cd, Try.f77.body = some cd → treeOf Try.prog [] ann_slices_Equal_Symbol ct_slices_Equal_Symbol Try.f77 cd = tree_slices_Equal_Symbol := by
  intro cd h
  injection h with h
  subst h
  kernel_rfl
theorem fok_slices_Equal_Symbol {g : List D → Option (List D)}  (h : ∀ ds outs, WfA ct_slices_Equal_Symbol.ars ds → g ds = some outs → tree_slices_Equal_Symbol.go (tblS []) (fun o => o = outs) ds fun _ _ => False) : FOk ct_slices_Equal_Symbol g :=
  fok_of ann_slices_Equal_Symbol Try.f77 _ .nil rfl rfl enter_slices_Equal_Symbol (by decide) fun ds outs hw hg => by rw [code_slices_Equal_Symbol  _ rfl]; exact h ds outs hw hg

def ct_slices_Equal_Undo : Ct := ⟨78, [.val (.row 80), .val (.row 80)], [(.bool, false)], []⟩
theorem enter_slices_Equal_Undo (args : Array Value) (w : World) : (callFunc ct_slices_Equal_Undo.f args).run Try.prog w = .ok (.enter ct_slices_Equal_Undo.f args) w := by kernel_rfl
def ann_slices_Equal_Undo : Ann := ⟨[0, 1, 4, 5, 10, 12, 13, 14, 24], [(4, ⟨[(4, .bool, false), (13, .int .i64, false)], [], [14, 15, 5, 16, 17, 18, 19, 20, 21, 22, 23, 24, 25], []⟩)]⟩
def tree_slices_Equal_Undo : Tree := (.br (.not (.eq (.len (.tok 0)) (.len (.tok 1)))) (.leaf [(.lit (.b .false))]) (.loop 4 2 [(.lit (.b .false)), (.lit (.i 0))] (.br (.lt (.tok 3) (.len (.tok 0))) (.need [(.le (.lit (.i 0)) (.tok 3)), (.lt (.tok 3) (.len (.tok 1))), (.le (.lit (.i 0)) (.tok 3)), (.lt (.tok 3) (.len (.tok 0)))] (.br (.not (.eq (.get (.tok 0) (.tok 3)) (.get (.tok 1) (.tok 3)))) (.leaf [(.lit (.b .false))]) (.need [(.rng .i64 (.add (.tok 3) (.lit (.i 1))))] (.back 4 [(.tok 2), (.add (.tok 3) (.lit (.i 1)))])))) (.leaf [(.lit (.b .true))]))))
set_option maxRecDepth 100000 in
theorem code_slices_Equal_Undo : ∀ cd, Try.f78.body = some cd → treeOf Try.prog [] ann_slices_Equal_Undo ct_slices_Equal_Undo Try.f78 cd = tree_slices_Equal_Undo := by
  intro cd h
  injection h with h
  subst h
  kernel_rfl
theorem fok_slices_Equal_Undo {g : List D → Option (List D)}  (h : ∀ ds outs, WfA ct_slices_Equal_Undo.ars ds → g ds = some outs → tree_slices_Equal_Undo.go (tblS []) (fun o => o = outs) ds fun _ _ => False) : FOk ct_slices_Equal_Undo g :=
  fok_of ann_slices_Equal_Undo Try.f78 _ .nil rfl rfl enter_slices_Equal_Undo (by decide) fun ds outs hw hg => by rw [code_slices_Equal_Undo  _ rfl]; exact h ds outs hw hg

def ct_slices_Equal_Wake : Ct := ⟨79, [.val (.row 82), .val (.row 82)], [(.bool, false)], []⟩
theorem enter_slices_Equal_Wake (args : Array Value) (w : World) : (callFunc ct_slices_Equal_Wake.f args).run Try.prog w = .ok (.enter ct_slices_Equal_Wake.f args) w := by kernel_rfl
def ann_slices_Equal_Wake : Ann := ⟨[0, 1, 4, 5, 10, 12, 13, 14, 24], [(4, ⟨[(4, .bool, false), (13, .int .i64, false)], [], [14, 15, 5, 16, 17, 18, 19, 20, 21, 22, 23, 24, 25], []⟩)]⟩
def tree_slices_Equal_Wake : Tree := (.br (.not (.eq (.len (.tok 0)) (.len (.tok 1)))) (.leaf [(.lit (.b .false))]) (.loop 4 2 [(.lit (.b .false)), (.lit (.i 0))] (.br (.lt (.tok 3) (.len (.tok 0))) (.need [(.le (.lit (.i 0)) (.tok 3)), (.lt (.tok 3) (.len (.tok 1))), (.le (.lit (.i 0)) (.tok 3)), (.lt (.tok 3) (.len (.tok 0)))] (.br (.not (.eq (.get (.tok 0) (.tok 3)) (.get (.tok 1) (.tok 3)))) (.leaf [(.lit (.b .false))]) (.need [(.rng .i64 (.add (.tok 3) (.lit (.i 1))))] (.back 4 [(.tok 2), (.add (.tok 3) (.lit (.i 1)))])))) (.leaf [(.lit (.b .true))]))))
set_option maxRecDepth 100000 in
theorem code_slices_Equal_Wake : ∀ cd, Try.f79.body = some cd → treeOf Try.prog [] ann_slices_Equal_Wake ct_slices_Equal_Wake Try.f79 cd = tree_slices_Equal_Wake := by
  intro cd h
  injection h with h
  subst h
  kernel_rfl
theorem fok_slices_Equal_Wake {g : List D → Option (List D)}  (h : ∀ ds outs, WfA ct_slices_Equal_Wake.ars ds → g ds = some outs → tree_slices_Equal_Wake.go (tblS []) (fun o => o = outs) ds fun _ _ => False) : FOk ct_slices_Equal_Wake g :=
  fok_of ann_slices_Equal_Wake Try.f79 _ .nil rfl rfl enter_slices_Equal_Wake (by decide) fun ds outs hw hg => by rw [code_slices_Equal_Wake  _ rfl]; exact h ds outs hw hg

def ct_cells_Same : Ct := ⟨36, [.val (.st 26), .val (.st 26)], [(.bool, false)], []⟩
theorem enter_cells_Same (args : Array Value) (w : World) : (callFunc ct_cells_Same.f args).run Try.prog w = .ok (.enter ct_cells_Same.f args) w := by kernel_rfl
def ann_cells_Same : Ann := ⟨[0, 1, 2, 3, 4], []⟩
def tree_cells_Same : Tree := (.need [(.imp (.and (.eq (.fld (.tok 0) 4) (.fld (.tok 1) 4)) (.eq (.fld (.tok 0) 5) (.fld (.tok 1) 5))) (.ok 0 [(.fld (.tok 0) 0), (.fld (.tok 1) 0)])), (.imp (.and (.and (.eq (.fld (.tok 0) 4) (.fld (.tok 1) 4)) (.eq (.fld (.tok 0) 5) (.fld (.tok 1) 5))) (.call 0 0 [(.fld (.tok 0) 0), (.fld (.tok 1) 0)])) (.ok 1 [(.fld (.tok 0) 1), (.fld (.tok 1) 1)])), (.imp (.and (.and (.and (.eq (.fld (.tok 0) 4) (.fld (.tok 1) 4)) (.eq (.fld (.tok 0) 5) (.fld (.tok 1) 5))) (.call 0 0 [(.fld (.tok 0) 0), (.fld (.tok 1) 0)])) (.call 1 0 [(.fld (.tok 0) 1), (.fld (.tok 1) 1)])) (.ok 2 [(.fld (.tok 0) 2), (.fld (.tok 1) 2)])), (.imp (.and (.and (.and (.and (.eq (.fld (.tok 0) 4) (.fld (.tok 1) 4)) (.eq (.fld (.tok 0) 5) (.fld (.tok 1) 5))) (.call 0 0 [(.fld (.tok 0) 0), (.fld (.tok 1) 0)])) (.call 1 0 [(.fld (.tok 0) 1), (.fld (.tok 1) 1)])) (.call 2 0 [(.fld (.tok 0) 2), (.fld (.tok 1) 2)])) (.ok 3 [(.fld (.tok 0) 3), (.fld (.tok 1) 3)]))] (.leaf [(.and (.and (.and (.and (.and (.eq (.fld (.tok 0) 4) (.fld (.tok 1) 4)) (.eq (.fld (.tok 0) 5) (.fld (.tok 1) 5))) (.call 0 0 [(.fld (.tok 0) 0), (.fld (.tok 1) 0)])) (.call 1 0 [(.fld (.tok 0) 1), (.fld (.tok 1) 1)])) (.call 2 0 [(.fld (.tok 0) 2), (.fld (.tok 1) 2)])) (.call 3 0 [(.fld (.tok 0) 3), (.fld (.tok 1) 3)]))]))
set_option maxRecDepth 100000 in
theorem code_cells_Same (g0 g1 g2 g3 : List D → Option (List D)) : ∀ cd, Try.f36.body = some cd → treeOf Try.prog [(ct_slices_Equal_Cell, g0), (ct_slices_Equal_Symbol, g1), (ct_slices_Equal_Undo, g2), (ct_slices_Equal_Wake, g3)] ann_cells_Same ct_cells_Same Try.f36 cd = tree_cells_Same := by
  intro cd h
  injection h with h
  subst h
  kernel_rfl
theorem fok_cells_Same {g0 g1 g2 g3 : List D → Option (List D)} {g : List D → Option (List D)} (h0 : FOk ct_slices_Equal_Cell g0) (h1 : FOk ct_slices_Equal_Symbol g1) (h2 : FOk ct_slices_Equal_Undo g2) (h3 : FOk ct_slices_Equal_Wake g3) (h : ∀ ds outs, WfA ct_cells_Same.ars ds → g ds = some outs → tree_cells_Same.go (tblS [(ct_slices_Equal_Cell, g0), (ct_slices_Equal_Symbol, g1), (ct_slices_Equal_Undo, g2), (ct_slices_Equal_Wake, g3)]) (fun o => o = outs) ds fun _ _ => False) : FOk ct_cells_Same g :=
  fok_of ann_cells_Same Try.f36 _ (.cons h0 (.cons h1 (.cons h2 (.cons h3 .nil)))) rfl rfl enter_cells_Same (by decide) fun ds outs hw hg => by rw [code_cells_Same g0 g1 g2 g3 _ rfl]; exact h ds outs hw hg

def ct_ref30_Same : Ct := ⟨18, [.val (.st 26), .val (.st 26)], [(.bool, false)], []⟩
theorem enter_ref30_Same (args : Array Value) (w : World) : (callFunc ct_ref30_Same.f args).run Try.prog w = .ok (.enter ct_ref30_Same.f args) w := by kernel_rfl
def ann_ref30_Same : Ann := ⟨[0, 1, 2, 3, 4, 5, 6, 7, 8, 56, 61, 74, 79, 92, 97, 110, 115, 128], [(4, ⟨[(4, .bool, false), (5, .int .i64, false)], [], [57, 58, 59, 60, 61, 64, 65, 66, 67, 68, 69, 70, 71, 72, 73, 74, 62, 63], []⟩),
  (9, ⟨[(4, .bool, false), (6, .int .i64, false)], [], [75, 76, 77, 78, 79, 82, 83, 84, 85, 86, 87, 88, 89, 90, 91, 92, 80, 81], []⟩),
  (14, ⟨[(4, .bool, false), (7, .int .i64, false)], [], [93, 94, 95, 96, 97, 100, 101, 102, 103, 104, 105, 106, 107, 108, 109, 110, 98, 99], []⟩),
  (19, ⟨[(4, .bool, false), (8, .int .i64, false)], [], [111, 112, 113, 114, 115, 118, 119, 120, 121, 122, 123, 124, 125, 126, 127, 128, 116, 117], []⟩)]⟩
def tree_ref30_Same : Tree := (.br (.or (.or (.or (.or (.or (.not (.eq (.len (.fld (.tok 0) 0)) (.len (.fld (.tok 1) 0)))) (.not (.eq (.len (.fld (.tok 0) 1)) (.len (.fld (.tok 1) 1))))) (.not (.eq (.len (.fld (.tok 0) 2)) (.len (.fld (.tok 1) 2))))) (.not (.eq (.len (.fld (.tok 0) 3)) (.len (.fld (.tok 1) 3))))) (.not (.eq (.fld (.tok 0) 4) (.fld (.tok 1) 4)))) (.not (.eq (.fld (.tok 0) 5) (.fld (.tok 1) 5)))) (.leaf [(.lit (.b .false))]) (.loop 4 2 [(.lit (.b .false)), (.lit (.i 0))] (.br (.lt (.tok 3) (.len (.fld (.tok 0) 0))) (.need [(.le (.lit (.i 0)) (.tok 3)), (.lt (.tok 3) (.len (.fld (.tok 1) 0))), (.le (.lit (.i 0)) (.tok 3)), (.lt (.tok 3) (.len (.fld (.tok 0) 0)))] (.br (.not (.eq (.get (.fld (.tok 0) 0) (.tok 3)) (.get (.fld (.tok 1) 0) (.tok 3)))) (.leaf [(.lit (.b .false))]) (.need [(.rng .i64 (.add (.tok 3) (.lit (.i 1))))] (.back 4 [(.tok 2), (.add (.tok 3) (.lit (.i 1)))])))) (.loop 9 4 [(.tok 2), (.lit (.i 0))] (.br (.lt (.tok 5) (.len (.fld (.tok 0) 1))) (.need [(.le (.lit (.i 0)) (.tok 5)), (.lt (.tok 5) (.len (.fld (.tok 1) 1))), (.le (.lit (.i 0)) (.tok 5)), (.lt (.tok 5) (.len (.fld (.tok 0) 1)))] (.br (.not (.eq (.get (.fld (.tok 0) 1) (.tok 5)) (.get (.fld (.tok 1) 1) (.tok 5)))) (.leaf [(.lit (.b .false))]) (.need [(.rng .i64 (.add (.tok 5) (.lit (.i 1))))] (.back 9 [(.tok 4), (.add (.tok 5) (.lit (.i 1)))])))) (.loop 14 6 [(.tok 4), (.lit (.i 0))] (.br (.lt (.tok 7) (.len (.fld (.tok 0) 2))) (.need [(.le (.lit (.i 0)) (.tok 7)), (.lt (.tok 7) (.len (.fld (.tok 1) 2))), (.le (.lit (.i 0)) (.tok 7)), (.lt (.tok 7) (.len (.fld (.tok 0) 2)))] (.br (.not (.eq (.get (.fld (.tok 0) 2) (.tok 7)) (.get (.fld (.tok 1) 2) (.tok 7)))) (.leaf [(.lit (.b .false))]) (.need [(.rng .i64 (.add (.tok 7) (.lit (.i 1))))] (.back 14 [(.tok 6), (.add (.tok 7) (.lit (.i 1)))])))) (.loop 19 8 [(.tok 6), (.lit (.i 0))] (.br (.lt (.tok 9) (.len (.fld (.tok 0) 3))) (.need [(.le (.lit (.i 0)) (.tok 9)), (.lt (.tok 9) (.len (.fld (.tok 1) 3))), (.le (.lit (.i 0)) (.tok 9)), (.lt (.tok 9) (.len (.fld (.tok 0) 3)))] (.br (.not (.eq (.get (.fld (.tok 0) 3) (.tok 9)) (.get (.fld (.tok 1) 3) (.tok 9)))) (.leaf [(.lit (.b .false))]) (.need [(.rng .i64 (.add (.tok 9) (.lit (.i 1))))] (.back 19 [(.tok 8), (.add (.tok 9) (.lit (.i 1)))])))) (.leaf [(.lit (.b .true))]))))))))))
set_option maxRecDepth 100000 in
theorem code_ref30_Same : ∀ cd, Try.f18.body = some cd → treeOf Try.prog [] ann_ref30_Same ct_ref30_Same Try.f18 cd = tree_ref30_Same := by
  intro cd h
  injection h with h
  subst h
  kernel_rfl
theorem fok_ref30_Same {g : List D → Option (List D)}  (h : ∀ ds outs, WfA ct_ref30_Same.ars ds → g ds = some outs → tree_ref30_Same.go (tblS []) (fun o => o = outs) ds fun _ _ => False) : FOk ct_ref30_Same g :=
  fok_of ann_ref30_Same Try.f18 _ .nil rfl rfl enter_ref30_Same (by decide) fun ds outs hw hg => by rw [code_ref30_Same  _ rfl]; exact h ds outs hw hg

def ct_cells_New : Ct := ⟨35, [.val (.int .i64)], [(.st 26, true), (.int .i64, false)], []⟩
theorem enter_cells_New (args : Array Value) (w : World) : (callFunc ct_cells_New.f args).run Try.prog w = .ok (.enter ct_cells_New.f args) w := by kernel_rfl
def ann_cells_New : Ann := ⟨[0, 2, 3, 9], []⟩
def tree_cells_New : Tree := (.br (.or (.lt (.tok 0) (.lit (.i 1))) (.lt (.lit (.i 1048576)) (.tok 0))) (.leaf [(.lit (.a [(.r []), (.r []), (.r []), (.r []), (.i 0), (.i 0)])), (.lit (.i 1))]) (.leaf [(.set (.lit (.a [(.r []), (.r []), (.r []), (.r []), (.i 0), (.i 0)])) 5 (.tok 0)), (.lit (.i 0))]))
set_option maxRecDepth 100000 in
theorem code_cells_New : ∀ cd, Try.f35.body = some cd → treeOf Try.prog [] ann_cells_New ct_cells_New Try.f35 cd = tree_cells_New := by
  intro cd h
  injection h with h
  subst h
  kernel_rfl
theorem fok_cells_New {g : List D → Option (List D)}  (h : ∀ ds outs, WfA ct_cells_New.ars ds → g ds = some outs → tree_cells_New.go (tblS []) (fun o => o = outs) ds fun _ _ => False) : FOk ct_cells_New g :=
  fok_of ann_cells_New Try.f35 _ .nil rfl rfl enter_cells_New (by decide) fun ds outs hw hg => by rw [code_cells_New  _ rfl]; exact h ds outs hw hg

def ct_law30_x : Ct := ⟨45, [.val (.int .i64)], [(.st 42, false)], []⟩
theorem enter_law30_x (args : Array Value) (w : World) : (callFunc ct_law30_x.f args).run Try.prog w = .ok (.enter ct_law30_x.f args) w := by kernel_rfl
def ann_law30_x : Ann := ⟨[0, 2], []⟩
def tree_law30_x : Tree := (.leaf [(.set (.lit (.a [(.i 0), (.i 0), (.s ⟨#[]⟩), (.r [])])) 1 (.tok 0))])
set_option maxRecDepth 100000 in
theorem code_law30_x : ∀ cd, Try.f45.body = some cd → treeOf Try.prog [] ann_law30_x ct_law30_x Try.f45 cd = tree_law30_x := by
  intro cd h
  injection h with h
  subst h
  kernel_rfl
theorem fok_law30_x {g : List D → Option (List D)}  (h : ∀ ds outs, WfA ct_law30_x.ars ds → g ds = some outs → tree_law30_x.go (tblS []) (fun o => o = outs) ds fun _ _ => False) : FOk ct_law30_x g :=
  fok_of ann_law30_x Try.f45 _ .nil rfl rfl enter_law30_x (by decide) fun ds outs hw hg => by rw [code_law30_x  _ rfl]; exact h ds outs hw hg

def ct_law30_f : Ct := ⟨34, [.val (.str), .val (.row 43)], [(.st 42, false)], []⟩
theorem enter_law30_f (args : Array Value) (w : World) : (callFunc ct_law30_f.f args).run Try.prog w = .ok (.enter ct_law30_f.f args) w := by kernel_rfl
def ann_law30_f : Ann := ⟨[0, 1, 4], []⟩
def tree_law30_f : Tree := (.leaf [(.set (.set (.set (.lit (.a [(.i 0), (.i 0), (.s ⟨#[]⟩), (.r [])])) 0 (.lit (.i 3))) 2 (.tok 0)) 3 (.tok 1))])
set_option maxRecDepth 100000 in
theorem code_law30_f : ∀ cd, Try.f34.body = some cd → treeOf Try.prog [] ann_law30_f ct_law30_f Try.f34 cd = tree_law30_f := by
  intro cd h
  injection h with h
  subst h
  kernel_rfl
theorem fok_law30_f {g : List D → Option (List D)}  (h : ∀ ds outs, WfA ct_law30_f.ars ds → g ds = some outs → tree_law30_f.go (tblS []) (fun o => o = outs) ds fun _ _ => False) : FOk ct_law30_f g :=
  fok_of ann_law30_f Try.f34 _ .nil rfl rfl enter_law30_f (by decide) fun ds outs hw hg => by rw [code_law30_f  _ rfl]; exact h ds outs hw hg

def ct_cells_find : Ct := ⟨52, [.rref (.st 26), .val (.st 71)], [(.int .i64, false)], []⟩
theorem enter_cells_find (args : Array Value) (w : World) : (callFunc ct_cells_find.f args).run Try.prog w = .ok (.enter ct_cells_find.f args) w := by kernel_rfl
def ann_cells_find : Ann := ⟨[0, 1, 3, 4, 5, 10, 11, 12, 22], [(2, ⟨[(4, .int .i64, false), (11, .int .i64, false)], [], [12, 13, 5, 14, 15, 16, 17, 18, 19, 20, 21, 22, 23, 24], []⟩)]⟩
def tree_cells_find : Tree := (.loop 2 2 [(.lit (.i 0)), (.lit (.i 0))] (.br (.lt (.tok 3) (.len (.fld (.tok 0) 1))) (.need [(.le (.lit (.i 0)) (.tok 3)), (.lt (.tok 3) (.len (.fld (.tok 0) 1)))] (.br (.eq (.get (.fld (.tok 0) 1) (.tok 3)) (.tok 1)) (.leaf [(.tok 3)]) (.need [(.rng .i64 (.add (.tok 3) (.lit (.i 1))))] (.back 2 [(.tok 2), (.add (.tok 3) (.lit (.i 1)))])))) (.leaf [(.lit (.i (-1)))])))
set_option maxRecDepth 100000 in
theorem code_cells_find : ∀ cd, Try.f52.body = some cd → treeOf Try.prog [] ann_cells_find ct_cells_find Try.f52 cd = tree_cells_find := by
  intro cd h
  injection h with h
  subst h
  kernel_rfl
theorem fok_cells_find {g : List D → Option (List D)}  (h : ∀ ds outs, WfA ct_cells_find.ars ds → g ds = some outs → tree_cells_find.go (tblS []) (fun o => o = outs) ds fun _ _ => False) : FOk ct_cells_find g :=
  fok_of ann_cells_find Try.f52 _ .nil rfl rfl enter_cells_find (by decide) fun ds outs hw hg => by rw [code_cells_find  _ rfl]; exact h ds outs hw hg

def ct_cells_Symbol : Ct := ⟨16, [.ref (.st 26), .val (.str), .val (.int .i64)], [(.int .i64, false), (.int .i64, false)], []⟩
theorem enter_cells_Symbol (args : Array Value) (w : World) : (callFunc ct_cells_Symbol.f args).run Try.prog w = .ok (.enter ct_cells_Symbol.f args) w := by kernel_rfl
def ann_cells_Symbol : Ann := ⟨[0, 1, 2, 6, 7, 8, 9, 24, 32, 39], []⟩
def tree_cells_Symbol : Tree := (.br (.or (.or (.lt (.lit (.i 100)) (.slen (.tok 1))) (.lt (.tok 2) (.lit (.i 0)))) (.lt (.lit (.i 8)) (.tok 2))) (.leaf [(.lit (.i 0)), (.lit (.i 1)), (.tok 0)]) (.need [(.ok 0 [(.tok 0), (.mk [(.tok 1), (.tok 2)])])] (.br (.le (.lit (.i 0)) (.call 0 0 [(.tok 0), (.mk [(.tok 1), (.tok 2)])])) (.leaf [(.call 0 0 [(.tok 0), (.mk [(.tok 1), (.tok 2)])]), (.lit (.i 0)), (.tok 0)]) (.br (.le (.lit (.i 1048576)) (.len (.fld (.tok 0) 1))) (.leaf [(.lit (.i 0)), (.lit (.i 13)), (.tok 0)]) (.need [(.le (.add (.len (.fld (.tok 0) 1)) (.lit (.i 1))) (.lit (.i 5864062014634)))] (.need [(.rng .i64 (.sub (.len (.fld (.set (.tok 0) 1 (.app (.fld (.tok 0) 1) (.row [(.mk [(.tok 1), (.tok 2)])]))) 1)) (.lit (.i 1))))] (.leaf [(.sub (.len (.fld (.set (.tok 0) 1 (.app (.fld (.tok 0) 1) (.row [(.mk [(.tok 1), (.tok 2)])]))) 1)) (.lit (.i 1))), (.lit (.i 0)), (.set (.tok 0) 1 (.app (.fld (.tok 0) 1) (.row [(.mk [(.tok 1), (.tok 2)])])))])))))))
set_option maxRecDepth 100000 in
theorem code_cells_Symbol (g0 : List D → Option (List D)) : ∀ cd, Try.f16.body = some cd → treeOf Try.prog [(ct_cells_find, g0)] ann_cells_Symbol ct_cells_Symbol Try.f16 cd = tree_cells_Symbol := by
  intro cd h
  injection h with h
  subst h
  kernel_rfl
theorem fok_cells_Symbol {g0 : List D → Option (List D)} {g : List D → Option (List D)} (h0 : FOk ct_cells_find g0) (h : ∀ ds outs, WfA ct_cells_Symbol.ars ds → g ds = some outs → tree_cells_Symbol.go (tblS [(ct_cells_find, g0)]) (fun o => o = outs) ds fun _ _ => False) : FOk ct_cells_Symbol g :=
  fok_of ann_cells_Symbol Try.f16 _ (.cons h0 .nil) rfl rfl enter_cells_Symbol (by decide) fun ds outs hw hg => by rw [code_cells_Symbol g0 _ rfl]; exact h ds outs hw hg

def ct_cmp_isNaN_int64 : Ct := ⟨111, [.val (.int .i64)], [(.bool, false)], []⟩
theorem enter_cmp_isNaN_int64 (args : Array Value) (w : World) : (callFunc ct_cmp_isNaN_int64.f args).run Try.prog w = .ok (.enter ct_cmp_isNaN_int64.f args) w := by kernel_rfl
def ann_cmp_isNaN_int64 : Ann := ⟨[0, 2], []⟩
def tree_cmp_isNaN_int64 : Tree := (.leaf [(.not (.eq (.tok 0) (.tok 0)))])
set_option maxRecDepth 100000 in
theorem code_cmp_isNaN_int64 : ∀ cd, Try.f111.body = some cd → treeOf Try.prog [] ann_cmp_isNaN_int64 ct_cmp_isNaN_int64 Try.f111 cd = tree_cmp_isNaN_int64 := by
  intro cd h
  injection h with h
  subst h
  kernel_rfl
theorem fok_cmp_isNaN_int64 {g : List D → Option (List D)}  (h : ∀ ds outs, WfA ct_cmp_isNaN_int64.ars ds → g ds = some outs → tree_cmp_isNaN_int64.go (tblS []) (fun o => o = outs) ds fun _ _ => False) : FOk ct_cmp_isNaN_int64 g :=
  fok_of ann_cmp_isNaN_int64 Try.f111 _ .nil rfl rfl enter_cmp_isNaN_int64 (by decide) fun ds outs hw hg => by rw [code_cmp_isNaN_int64  _ rfl]; exact h ds outs hw hg

def ct_cmp_Compare_int64 : Ct := ⟨98, [.val (.int .i64), .val (.int .i64)], [(.int .i64, false)], []⟩
theorem enter_cmp_Compare_int64 (args : Array Value) (w : World) : (callFunc ct_cmp_Compare_int64.f args).run Try.prog w = .ok (.enter ct_cmp_Compare_int64.f args) w := by kernel_rfl
def ann_cmp_Compare_int64 : Ann := ⟨[0, 1, 4, 5, 6, 11, 12, 13, 16, 19], []⟩
def tree_cmp_Compare_int64 : Tree := (.need [(.ok 0 [(.tok 0)])] (.need [(.ok 0 [(.tok 1)])] (.br (.call 0 0 [(.tok 0)]) (.br (.call 0 0 [(.tok 1)]) (.leaf [(.lit (.i 0))]) (.leaf [(.lit (.i (-1)))])) (.br (.call 0 0 [(.tok 1)]) (.leaf [(.lit (.i 1))]) (.br (.lt (.tok 0) (.tok 1)) (.leaf [(.lit (.i (-1)))]) (.br (.lt (.tok 1) (.tok 0)) (.leaf [(.lit (.i 1))]) (.leaf [(.lit (.i 0))])))))))
set_option maxRecDepth 100000 in
theorem code_cmp_Compare_int64 (g0 : List D → Option (List D)) : ∀ cd, Try.f98.body = some cd → treeOf Try.prog [(ct_cmp_isNaN_int64, g0)] ann_cmp_Compare_int64 ct_cmp_Compare_int64 Try.f98 cd = tree_cmp_Compare_int64 := by
  intro cd h
  injection h with h
  subst h
  kernel_rfl
theorem fok_cmp_Compare_int64 {g0 : List D → Option (List D)} {g : List D → Option (List D)} (h0 : FOk ct_cmp_isNaN_int64 g0) (h : ∀ ds outs, WfA ct_cmp_Compare_int64.ars ds → g ds = some outs → tree_cmp_Compare_int64.go (tblS [(ct_cmp_isNaN_int64, g0)]) (fun o => o = outs) ds fun _ _ => False) : FOk ct_cmp_Compare_int64 g :=
  fok_of ann_cmp_Compare_int64 Try.f98 _ (.cons h0 .nil) rfl rfl enter_cmp_Compare_int64 (by decide) fun ds outs hw hg => by rw [code_cmp_Compare_int64 g0 _ rfl]; exact h ds outs hw hg

def ct_cells_byVar : Ct := ⟨60, [.val (.st 48), .val (.int .i64)], [(.int .i64, false)], []⟩
theorem enter_cells_byVar (args : Array Value) (w : World) : (callFunc ct_cells_byVar.f args).run Try.prog w = .ok (.enter ct_cells_byVar.f args) w := by kernel_rfl
def ann_cells_byVar : Ann := ⟨[0, 1, 2, 4], []⟩
def tree_cells_byVar : Tree := (.need [(.ok 0 [(.fld (.tok 0) 0), (.tok 1)])] (.leaf [(.call 0 0 [(.fld (.tok 0) 0), (.tok 1)])]))
set_option maxRecDepth 100000 in
theorem code_cells_byVar (g0 : List D → Option (List D)) : ∀ cd, Try.f60.body = some cd → treeOf Try.prog [(ct_cmp_Compare_int64, g0)] ann_cells_byVar ct_cells_byVar Try.f60 cd = tree_cells_byVar := by
  intro cd h
  injection h with h
  subst h
  kernel_rfl
theorem fok_cells_byVar {g0 : List D → Option (List D)} {g : List D → Option (List D)} (h0 : FOk ct_cmp_Compare_int64 g0) (h : ∀ ds outs, WfA ct_cells_byVar.ars ds → g ds = some outs → tree_cells_byVar.go (tblS [(ct_cmp_Compare_int64, g0)]) (fun o => o = outs) ds fun _ _ => False) : FOk ct_cells_byVar g :=
  fok_of ann_cells_byVar Try.f60 _ (.cons h0 .nil) rfl rfl enter_cells_byVar (by decide) fun ds outs hw hg => by rw [code_cells_byVar g0 _ rfl]; exact h ds outs hw hg

def ct_slices_BinarySearchFunc_VarCell : Ct := ⟨59, [.val (.row 49), .val (.int .i64), .fn 60 []], [(.int .i64, false), (.bool, false)], []⟩
theorem enter_slices_BinarySearchFunc_VarCell (args : Array Value) (w : World) : (callFunc ct_slices_BinarySearchFunc_VarCell.f args).run Try.prog w = .ok (.enter ct_slices_BinarySearchFunc_VarCell.f args) w := by kernel_rfl
def ann_slices_BinarySearchFunc_VarCell : Ann := ⟨[0, 1, 2, 6, 7, 8, 9, 10, 11, 17, 31], [(3, ⟨[(9, .int .i64, false), (10, .int .i64, false)], [], [15, 16, 17, 18, 19, 20, 21, 22, 23, 11, 24, 25, 26, 27, 28, 29, 30, 31, 32, 33, 34], []⟩)]⟩
def tree_slices_BinarySearchFunc_VarCell : Tree := (.loop 3 2 [(.lit (.i 0)), (.len (.tok 0))] (.br (.lt (.tok 2) (.tok 3)) (.need [(.rng .i64 (.add (.tok 2) (.tok 3))), (.rng .u64 (.add (.tok 2) (.tok 3))), (.rng .u64 (.fn 8 [(.add (.tok 2) (.tok 3)), (.lit (.i 1))])), (.rng .i64 (.fn 8 [(.add (.tok 2) (.tok 3)), (.lit (.i 1))]))] (.need [(.le (.lit (.i 0)) (.fn 8 [(.add (.tok 2) (.tok 3)), (.lit (.i 1))])), (.lt (.fn 8 [(.add (.tok 2) (.tok 3)), (.lit (.i 1))]) (.len (.tok 0))), (.ok 0 [(.get (.tok 0) (.fn 8 [(.add (.tok 2) (.tok 3)), (.lit (.i 1))])), (.tok 1)])] (.br (.lt (.call 0 0 [(.get (.tok 0) (.fn 8 [(.add (.tok 2) (.tok 3)), (.lit (.i 1))])), (.tok 1)]) (.lit (.i 0))) (.need [(.rng .i64 (.add (.fn 8 [(.add (.tok 2) (.tok 3)), (.lit (.i 1))]) (.lit (.i 1))))] (.back 3 [(.add (.fn 8 [(.add (.tok 2) (.tok 3)), (.lit (.i 1))]) (.lit (.i 1))), (.tok 3)])) (.back 3 [(.tok 2), (.fn 8 [(.add (.tok 2) (.tok 3)), (.lit (.i 1))])])))) (.need [(.imp (.lt (.tok 2) (.len (.tok 0))) (.le (.lit (.i 0)) (.tok 2))), (.imp (.lt (.tok 2) (.len (.tok 0))) (.lt (.tok 2) (.len (.tok 0)))), (.imp (.lt (.tok 2) (.len (.tok 0))) (.ok 0 [(.get (.tok 0) (.tok 2)), (.tok 1)]))] (.leaf [(.tok 2), (.and (.lt (.tok 2) (.len (.tok 0))) (.eq (.call 0 0 [(.get (.tok 0) (.tok 2)), (.tok 1)]) (.lit (.i 0))))]))))
set_option maxRecDepth 100000 in
theorem code_slices_BinarySearchFunc_VarCell (g0 : List D → Option (List D)) : ∀ cd, Try.f59.body = some cd → treeOf Try.prog [(ct_cells_byVar, g0)] ann_slices_BinarySearchFunc_VarCell ct_slices_BinarySearchFunc_VarCell Try.f59 cd = tree_slices_BinarySearchFunc_VarCell := by
  intro cd h
  injection h with h
  subst h
  kernel_rfl
theorem fok_slices_BinarySearchFunc_VarCell {g0 : List D → Option (List D)} {g : List D → Option (List D)} (h0 : FOk ct_cells_byVar g0) (h : ∀ ds outs, WfA ct_slices_BinarySearchFunc_VarCell.ars ds → g ds = some outs → tree_slices_BinarySearchFunc_VarCell.go (tblS [(ct_cells_byVar, g0)]) (fun o => o = outs) ds fun _ _ => False) : FOk ct_slices_BinarySearchFunc_VarCell g :=
  fok_of ann_slices_BinarySearchFunc_VarCell Try.f59 _ (.cons h0 .nil) rfl rfl enter_slices_BinarySearchFunc_VarCell (by decide) fun ds outs hw hg => by rw [code_slices_BinarySearchFunc_VarCell g0 _ rfl]; exact h ds outs hw hg

def ct_cells_kept : Ct := ⟨61, [.val (.st 36)], [(.st 36, false)], []⟩
theorem enter_cells_kept (args : Array Value) (w : World) : (callFunc ct_cells_kept.f args).run Try.prog w = .ok (.enter ct_cells_kept.f args) w := by kernel_rfl
def ann_cells_kept : Ann := ⟨[0, 1, 2, 5], []⟩
def tree_cells_kept : Tree := (.br (.eq (.fld (.tok 0) 0) (.lit (.i 5))) (.leaf [(.set (.tok 0) 0 (.lit (.i 0)))]) (.leaf [(.tok 0)]))
set_option maxRecDepth 100000 in
theorem code_cells_kept : ∀ cd, Try.f61.body = some cd → treeOf Try.prog [] ann_cells_kept ct_cells_kept Try.f61 cd = tree_cells_kept := by
  intro cd h
  injection h with h
  subst h
  kernel_rfl
theorem fok_cells_kept {g : List D → Option (List D)}  (h : ∀ ds outs, WfA ct_cells_kept.ars ds → g ds = some outs → tree_cells_kept.go (tblS []) (fun o => o = outs) ds fun _ _ => False) : FOk ct_cells_kept g :=
  fok_of ann_cells_kept Try.f61 _ .nil rfl rfl enter_cells_kept (by decide) fun ds outs hw hg => by rw [code_cells_kept  _ rfl]; exact h ds outs hw hg

def ct_cells_Fresh : Ct := ⟨19, [.ref (.st 26)], [(.st 36, false), (.int .i64, false)], []⟩
theorem enter_cells_Fresh (args : Array Value) (w : World) : (callFunc ct_cells_Fresh.f args).run Try.prog w = .ok (.enter ct_cells_Fresh.f args) w := by kernel_rfl
def ann_cells_Fresh : Ann := ⟨[0, 2, 3, 5, 16], []⟩
def tree_cells_Fresh : Tree := (.br (.le (.fld (.tok 0) 5) (.len (.fld (.tok 0) 0))) (.leaf [(.lit (.a [(.i 0), (.i 0)])), (.lit (.i 13)), (.tok 0)]) (.need [(.le (.add (.len (.fld (.tok 0) 0)) (.lit (.i 1))) (.lit (.i 8796093021952)))] (.leaf [(.mk [(.lit (.i 0)), (.len (.fld (.tok 0) 0))]), (.lit (.i 0)), (.set (.tok 0) 0 (.app (.fld (.tok 0) 0) (.row [(.mk [(.lit (.i 0)), (.len (.fld (.tok 0) 0))])])))])))
set_option maxRecDepth 100000 in
theorem code_cells_Fresh : ∀ cd, Try.f19.body = some cd → treeOf Try.prog [] ann_cells_Fresh ct_cells_Fresh Try.f19 cd = tree_cells_Fresh := by
  intro cd h
  injection h with h
  subst h
  kernel_rfl
theorem fok_cells_Fresh {g : List D → Option (List D)}  (h : ∀ ds outs, WfA ct_cells_Fresh.ars ds → g ds = some outs → tree_cells_Fresh.go (tblS []) (fun o => o = outs) ds fun _ _ => False) : FOk ct_cells_Fresh g :=
  fok_of ann_cells_Fresh Try.f19 _ .nil rfl rfl enter_cells_Fresh (by decide) fun ds outs hw hg => by rw [code_cells_Fresh  _ rfl]; exact h ds outs hw hg

def ct_slices_Insert_VarCell : Ct := ⟨62, [.own (.row 49), .val (.int .i64), .val (.row 49)], [(.row 49, true)], []⟩
theorem enter_slices_Insert_VarCell (args : Array Value) (w : World) : (callFunc ct_slices_Insert_VarCell.f args).run Try.prog w = .ok (.enter ct_slices_Insert_VarCell.f args) w := by kernel_rfl
def ann_slices_Insert_VarCell : Ann := ⟨[0, 1, 2, 6, 7, 8, 9, 16, 22, 31, 68], []⟩
def tree_slices_Insert_VarCell : Tree := (.need [(.le (.lit (.i 0)) (.tok 1)), (.le (.tok 1) (.len (.tok 0)))] (.br (.eq (.len (.tok 2)) (.lit (.i 0))) (.leaf [(.tok 0)]) (.br (.eq (.tok 1) (.len (.tok 0))) (.need [(.le (.add (.len (.tok 0)) (.len (.tok 2))) (.lit (.i 5864062014634)))] (.leaf [(.app (.tok 0) (.tok 2))])) (.bad 8004))))
set_option maxRecDepth 100000 in
theorem code_slices_Insert_VarCell : ∀ cd, Try.f62.body = some cd → treeOf Try.prog [] ann_slices_Insert_VarCell ct_slices_Insert_VarCell Try.f62 cd = tree_slices_Insert_VarCell := by
  intro cd h
  injection h with h
  subst h
  kernel_rfl
theorem fok_slices_Insert_VarCell {g : List D → Option (List D)}  (h : ∀ ds outs, WfA ct_slices_Insert_VarCell.ars ds → g ds = some outs → tree_slices_Insert_VarCell.go (tblS []) (fun o => o = outs) ds fun _ _ => False) : FOk ct_slices_Insert_VarCell g :=
  fok_of ann_slices_Insert_VarCell Try.f62 _ .nil rfl rfl enter_slices_Insert_VarCell (by decide) fun ds outs hw hg => by rw [code_slices_Insert_VarCell  _ rfl]; exact h ds outs hw hg

def ct_cells_Put_1 : Ct := ⟨58, [.val (.st 42), .val (.int .i64), .cell 34 5, .ref (.row 49), .cell 89 6], [(.st 36, false)], [(.cell 2, .ref (.st 26)), (.cell 4, .fn 58 [2, 3, 4])]⟩
theorem enter_cells_Put_1 (args : Array Value) (w : World) : (callFunc ct_cells_Put_1.f args).run Try.prog w = .ok (.enter ct_cells_Put_1.f args) w := by kernel_rfl
def ann_cells_Put_1 : Ann := ⟨[0, 1, 2, 3, 4, 5, 7, 8, 10, 11, 12, 13, 15, 16, 17, 18, 19, 21, 22, 27, 38, 47, 57, 110, 111, 112, 113], [(21, ⟨[(112, .int .i64, false)], [3, 100000], [113, 114, 115, 116, 17, 16, 117, 118, 119, 120, 18, 121, 122, 123, 124, 19, 125, 126, 127, 128, 129, 130, 131, 132], []⟩)]⟩
def tree_cells_Put_1 : Tree := (.br (.eq (.fld (.tok 0) 0) (.lit (.i 1))) (.leaf [(.mk [(.lit (.i 1)), (.fld (.tok 0) 1)]), (.tok 2), (.tok 3)]) (.br (.eq (.fld (.tok 0) 0) (.lit (.i 2))) (.need [(.ok 1 [(.tok 3), (.fld (.tok 0) 2), (.lit (.i 0))])] (.leaf [(.mk [(.lit (.i 2)), (.call 1 0 [(.tok 3), (.fld (.tok 0) 2), (.lit (.i 0))])]), (.tok 2), (.call 1 2 [(.tok 3), (.fld (.tok 0) 2), (.lit (.i 0))])])) (.br (.eq (.fld (.tok 0) 0) (.lit (.i 0))) (.need [(.ok 2 [(.tok 2), (.fld (.tok 0) 1)])] (.br (.call 2 1 [(.tok 2), (.fld (.tok 0) 1)]) (.need [(.le (.lit (.i 0)) (.call 2 0 [(.tok 2), (.fld (.tok 0) 1)])), (.lt (.call 2 0 [(.tok 2), (.fld (.tok 0) 1)]) (.len (.tok 2))), (.ok 3 [(.fld (.get (.tok 2) (.call 2 0 [(.tok 2), (.fld (.tok 0) 1)])) 1)])] (.leaf [(.call 3 0 [(.fld (.get (.tok 2) (.call 2 0 [(.tok 2), (.fld (.tok 0) 1)])) 1)]), (.tok 2), (.tok 3)])) (.br (.lt (.tok 1) (.lit (.i 0))) (.need [(.ok 4 [(.tok 3)])] (.need [(.ok 5 [(.tok 2), (.call 2 0 [(.tok 2), (.fld (.tok 0) 1)]), (.row [(.mk [(.fld (.tok 0) 1), (.call 4 0 [(.tok 3)])])])])] (.leaf [(.call 4 0 [(.tok 3)]), (.call 5 0 [(.tok 2), (.call 2 0 [(.tok 2), (.fld (.tok 0) 1)]), (.row [(.mk [(.fld (.tok 0) 1), (.call 4 0 [(.tok 3)])])])]), (.call 4 2 [(.tok 3)])]))) (.need [(.ok 5 [(.tok 2), (.call 2 0 [(.tok 2), (.fld (.tok 0) 1)]), (.row [(.mk [(.fld (.tok 0) 1), (.mk [(.lit (.i 0)), (.tok 1)])])])])] (.leaf [(.mk [(.lit (.i 0)), (.tok 1)]), (.call 5 0 [(.tok 2), (.call 2 0 [(.tok 2), (.fld (.tok 0) 1)]), (.row [(.mk [(.fld (.tok 0) 1), (.mk [(.lit (.i 0)), (.tok 1)])])])]), (.tok 3)]))))) (.need [(.ok 1 [(.tok 3), (.fld (.tok 0) 2), (.len (.fld (.tok 0) 3))])] (.need [(.le (.add (.len (.fld (.call 1 2 [(.tok 3), (.fld (.tok 0) 2), (.len (.fld (.tok 0) 3))]) 0)) (.lit (.i 1))) (.lit (.i 8796093021952)))] (.need [(.le (.lit (.i 0)) (.len (.fld (.tok 0) 3))), (.le (.len (.fld (.tok 0) 3)) (.lit (.i 16777216))), (.le (.add (.len (.fld (.set (.call 1 2 [(.tok 3), (.fld (.tok 0) 2), (.len (.fld (.tok 0) 3))]) 0 (.app (.fld (.call 1 2 [(.tok 3), (.fld (.tok 0) 2), (.len (.fld (.tok 0) 3))]) 0) (.row [(.mk [(.lit (.i 4)), (.call 1 0 [(.tok 3), (.fld (.tok 0) 2), (.len (.fld (.tok 0) 3))])])]))) 0)) (.len (.fld (.tok 0) 3))) (.lit (.i 8796093021952)))] (.loop 21 4 [(.lit (.i 0)), (.tok 2), (.set (.set (.call 1 2 [(.tok 3), (.fld (.tok 0) 2), (.len (.fld (.tok 0) 3))]) 0 (.app (.fld (.call 1 2 [(.tok 3), (.fld (.tok 0) 2), (.len (.fld (.tok 0) 3))]) 0) (.row [(.mk [(.lit (.i 4)), (.call 1 0 [(.tok 3), (.fld (.tok 0) 2), (.len (.fld (.tok 0) 3))])])]))) 0 (.app (.fld (.set (.call 1 2 [(.tok 3), (.fld (.tok 0) 2), (.len (.fld (.tok 0) 3))]) 0 (.app (.fld (.call 1 2 [(.tok 3), (.fld (.tok 0) 2), (.len (.fld (.tok 0) 3))]) 0) (.row [(.mk [(.lit (.i 4)), (.call 1 0 [(.tok 3), (.fld (.tok 0) 2), (.len (.fld (.tok 0) 3))])])]))) 0) (.rep (.len (.fld (.tok 0) 3)) (.lit (.a [(.i 0), (.i 0)])))))] (.br (.lt (.tok 4) (.len (.fld (.tok 0) 3))) (.need [(.le (.lit (.i 0)) (.tok 4)), (.lt (.tok 4) (.len (.fld (.tok 0) 3)))] (.need [(.rng .i64 (.add (.len (.fld (.call 1 2 [(.tok 3), (.fld (.tok 0) 2), (.len (.fld (.tok 0) 3))]) 0)) (.lit (.i 1)))), (.rng .i64 (.add (.add (.len (.fld (.call 1 2 [(.tok 3), (.fld (.tok 0) 2), (.len (.fld (.tok 0) 3))]) 0)) (.lit (.i 1))) (.tok 4)))] (.need [(.ok 0 [(.get (.fld (.tok 0) 3) (.tok 4)), (.add (.add (.len (.fld (.call 1 2 [(.tok 3), (.fld (.tok 0) 2), (.len (.fld (.tok 0) 3))]) 0)) (.lit (.i 1))) (.tok 4)), (.tok 5), (.tok 6)])] (.need [(.le (.lit (.i 0)) (.add (.add (.len (.fld (.call 1 2 [(.tok 3), (.fld (.tok 0) 2), (.len (.fld (.tok 0) 3))]) 0)) (.lit (.i 1))) (.tok 4))), (.lt (.add (.add (.len (.fld (.call 1 2 [(.tok 3), (.fld (.tok 0) 2), (.len (.fld (.tok 0) 3))]) 0)) (.lit (.i 1))) (.tok 4)) (.len (.fld (.call 0 2 [(.get (.fld (.tok 0) 3) (.tok 4)), (.add (.add (.len (.fld (.call 1 2 [(.tok 3), (.fld (.tok 0) 2), (.len (.fld (.tok 0) 3))]) 0)) (.lit (.i 1))) (.tok 4)), (.tok 5), (.tok 6)]) 0)))] (.need [(.rng .i64 (.add (.tok 4) (.lit (.i 1))))] (.back 21 [(.add (.tok 4) (.lit (.i 1))), (.call 0 1 [(.get (.fld (.tok 0) 3) (.tok 4)), (.add (.add (.len (.fld (.call 1 2 [(.tok 3), (.fld (.tok 0) 2), (.len (.fld (.tok 0) 3))]) 0)) (.lit (.i 1))) (.tok 4)), (.tok 5), (.tok 6)]), (.set (.call 0 2 [(.get (.fld (.tok 0) 3) (.tok 4)), (.add (.add (.len (.fld (.call 1 2 [(.tok 3), (.fld (.tok 0) 2), (.len (.fld (.tok 0) 3))]) 0)) (.lit (.i 1))) (.tok 4)), (.tok 5), (.tok 6)]) 0 (.put (.fld (.call 0 2 [(.get (.fld (.tok 0) 3) (.tok 4)), (.add (.add (.len (.fld (.call 1 2 [(.tok 3), (.fld (.tok 0) 2), (.len (.fld (.tok 0) 3))]) 0)) (.lit (.i 1))) (.tok 4)), (.tok 5), (.tok 6)]) 0) (.add (.add (.len (.fld (.call 1 2 [(.tok 3), (.fld (.tok 0) 2), (.len (.fld (.tok 0) 3))]) 0)) (.lit (.i 1))) (.tok 4)) (.call 0 0 [(.get (.fld (.tok 0) 3) (.tok 4)), (.add (.add (.len (.fld (.call 1 2 [(.tok 3), (.fld (.tok 0) 2), (.len (.fld (.tok 0) 3))]) 0)) (.lit (.i 1))) (.tok 4)), (.tok 5), (.tok 6)])))])))))) (.leaf [(.mk [(.lit (.i 3)), (.len (.fld (.call 1 2 [(.tok 3), (.fld (.tok 0) 2), (.len (.fld (.tok 0) 3))]) 0))]), (.tok 5), (.tok 6)])))))))))
set_option maxRecDepth 100000 in
theorem code_cells_Put_1 (g0 g1 g2 g3 g4 g5 : List D → Option (List D)) : ∀ cd, Try.f58.body = some cd → treeOf Try.prog [(ct_cells_Put_1, g0), (ct_cells_Symbol, g1), (ct_slices_BinarySearchFunc_VarCell, g2), (ct_cells_kept, g3), (ct_cells_Fresh, g4), (ct_slices_Insert_VarCell, g5)] ann_cells_Put_1 ct_cells_Put_1 Try.f58 cd = tree_cells_Put_1 := by
  intro cd h
  injection h with h
  subst h
  kernel_rfl
theorem fok_cells_Put_1 {g0 g1 g2 g3 g4 g5 : List D → Option (List D)} {g : List D → Option (List D)} (h0 : FOk ct_cells_Put_1 g0) (h1 : FOk ct_cells_Symbol g1) (h2 : FOk ct_slices_BinarySearchFunc_VarCell g2) (h3 : FOk ct_cells_kept g3) (h4 : FOk ct_cells_Fresh g4) (h5 : FOk ct_slices_Insert_VarCell g5) (h : ∀ ds outs, WfA ct_cells_Put_1.ars ds → g ds = some outs → tree_cells_Put_1.go (tblS [(ct_cells_Put_1, g0), (ct_cells_Symbol, g1), (ct_slices_BinarySearchFunc_VarCell, g2), (ct_cells_kept, g3), (ct_cells_Fresh, g4), (ct_slices_Insert_VarCell, g5)]) (fun o => o = outs) ds fun _ _ => False) : FOk ct_cells_Put_1 g :=
  fok_of ann_cells_Put_1 Try.f58 _ (.cons h0 (.cons h1 (.cons h2 (.cons h3 (.cons h4 (.cons h5 .nil)))))) rfl rfl enter_cells_Put_1 (by decide) fun ds outs hw hg => by rw [code_cells_Put_1 g0 g1 g2 g3 g4 g5 _ rfl]; exact h ds outs hw hg

def ct_term_Size_1 : Ct := ⟨110, [.val (.st 42), .ref (.int .i64), .cell 116 3], [], [(.cell 2, .fn 110 [1, 2])]⟩
theorem enter_term_Size_1 (args : Array Value) (w : World) : (callFunc ct_term_Size_1.f args).run Try.prog w = .ok (.enter ct_term_Size_1.f args) w := by kernel_rfl
def ann_term_Size_1 : Ann := ⟨[0, 1, 2, 3, 4, 15], [(3, ⟨[(4, .int .i64, false)], [1], [7, 8, 9, 10, 11, 12, 13, 14, 15, 18, 19, 20, 21, 22, 23, 24, 16, 17], []⟩)]⟩
def tree_term_Size_1 : Tree := (.need [(.rng .i64 (.sub (.tok 1) (.lit (.i 1))))] (.loop 3 2 [(.lit (.i 0)), (.sub (.tok 1) (.lit (.i 1)))] (.br (.and (.lt (.tok 2) (.len (.fld (.tok 0) 3))) (.lt (.lit (.i 0)) (.tok 3))) (.need [(.ok 0 [(.get (.fld (.tok 0) 3) (.tok 2)), (.tok 3)]), (.le (.lit (.i 0)) (.tok 2)), (.lt (.tok 2) (.len (.fld (.tok 0) 3)))] (.need [(.rng .i64 (.add (.tok 2) (.lit (.i 1))))] (.back 3 [(.add (.tok 2) (.lit (.i 1))), (.call 0 0 [(.get (.fld (.tok 0) 3) (.tok 2)), (.tok 3)])]))) (.leaf [(.tok 3)]))))
set_option maxRecDepth 100000 in
theorem code_term_Size_1 (g0 : List D → Option (List D)) : ∀ cd, Try.f110.body = some cd → treeOf Try.prog [(ct_term_Size_1, g0)] ann_term_Size_1 ct_term_Size_1 Try.f110 cd = tree_term_Size_1 := by
  intro cd h
  injection h with h
  subst h
  kernel_rfl
theorem fok_term_Size_1 {g0 : List D → Option (List D)} {g : List D → Option (List D)} (h0 : FOk ct_term_Size_1 g0) (h : ∀ ds outs, WfA ct_term_Size_1.ars ds → g ds = some outs → tree_term_Size_1.go (tblS [(ct_term_Size_1, g0)]) (fun o => o = outs) ds fun _ _ => False) : FOk ct_term_Size_1 g :=
  fok_of ann_term_Size_1 Try.f110 _ (.cons h0 .nil) rfl rfl enter_term_Size_1 (by decide) fun ds outs hw hg => by rw [code_term_Size_1 g0 _ rfl]; exact h ds outs hw hg

def ct_term_Size : Ct := ⟨95, [.val (.st 42)], [(.int .i64, false)], []⟩
theorem enter_term_Size (args : Array Value) (w : World) : (callFunc ct_term_Size.f args).run Try.prog w = .ok (.enter ct_term_Size.f args) w := by kernel_rfl
def ann_term_Size : Ann := ⟨[0, 1, 2, 3, 4], []⟩
def tree_term_Size : Tree := (.need [(.ok 0 [(.tok 0), (.lit (.i 2001))])] (.need [(.rng .i64 (.sub (.lit (.i 2001)) (.call 0 0 [(.tok 0), (.lit (.i 2001))])))] (.leaf [(.sub (.lit (.i 2001)) (.call 0 0 [(.tok 0), (.lit (.i 2001))]))])))
set_option maxRecDepth 100000 in
theorem code_term_Size (g0 : List D → Option (List D)) : ∀ cd, Try.f95.body = some cd → treeOf Try.prog [(ct_term_Size_1, g0)] ann_term_Size ct_term_Size Try.f95 cd = tree_term_Size := by
  intro cd h
  injection h with h
  subst h
  kernel_rfl
theorem fok_term_Size {g0 : List D → Option (List D)} {g : List D → Option (List D)} (h0 : FOk ct_term_Size_1 g0) (h : ∀ ds outs, WfA ct_term_Size.ars ds → g ds = some outs → tree_term_Size.go (tblS [(ct_term_Size_1, g0)]) (fun o => o = outs) ds fun _ _ => False) : FOk ct_term_Size g :=
  fok_of ann_term_Size Try.f95 _ (.cons h0 .nil) rfl rfl enter_term_Size (by decide) fun ds outs hw hg => by rw [code_term_Size g0 _ rfl]; exact h ds outs hw hg

def ct_term_fits : Ct := ⟨96, [.val (.st 42)], [(.bool, false)], []⟩
theorem enter_term_fits (args : Array Value) (w : World) : (callFunc ct_term_fits.f args).run Try.prog w = .ok (.enter ct_term_fits.f args) w := by kernel_rfl
def ann_term_fits : Ann := ⟨[0, 1, 2, 3, 4, 6, 7, 28, 39, 56, 86], [(12, ⟨[(3, .bool, false), (4, .int .i64, false)], [], [79, 80, 81, 82, 83, 84, 85, 86, 89, 90, 91, 92, 93, 94, 87, 88], []⟩)]⟩
def tree_term_fits : Tree := (.br (.eq (.fld (.tok 0) 0) (.lit (.i 0))) (.loop 12 1 [(.and (.and (.and (.le (.lit (.i 0)) (.fld (.tok 0) 1)) (.le (.fld (.tok 0) 1) (.lit (.i 1099511627776)))) (.eq (.fld (.tok 0) 2) (.lit (.s ⟨#[]⟩)))) (.eq (.len (.fld (.tok 0) 3)) (.lit (.i 0)))), (.lit (.i 0))] (.br (.and (.lt (.tok 2) (.len (.fld (.tok 0) 3))) (.tok 1)) (.need [(.le (.lit (.i 0)) (.tok 2)), (.lt (.tok 2) (.len (.fld (.tok 0) 3))), (.ok 0 [(.get (.fld (.tok 0) 3) (.tok 2))])] (.need [(.rng .i64 (.add (.tok 2) (.lit (.i 1))))] (.back 12 [(.call 0 0 [(.get (.fld (.tok 0) 3) (.tok 2))]), (.add (.tok 2) (.lit (.i 1)))]))) (.leaf [(.tok 1)]))) (.br (.eq (.fld (.tok 0) 0) (.lit (.i 1))) (.loop 12 1 [(.and (.eq (.fld (.tok 0) 2) (.lit (.s ⟨#[]⟩))) (.eq (.len (.fld (.tok 0) 3)) (.lit (.i 0)))), (.lit (.i 0))] (.br (.and (.lt (.tok 2) (.len (.fld (.tok 0) 3))) (.tok 1)) (.need [(.le (.lit (.i 0)) (.tok 2)), (.lt (.tok 2) (.len (.fld (.tok 0) 3))), (.ok 0 [(.get (.fld (.tok 0) 3) (.tok 2))])] (.need [(.rng .i64 (.add (.tok 2) (.lit (.i 1))))] (.back 12 [(.call 0 0 [(.get (.fld (.tok 0) 3) (.tok 2))]), (.add (.tok 2) (.lit (.i 1)))]))) (.leaf [(.tok 1)]))) (.br (.eq (.fld (.tok 0) 0) (.lit (.i 2))) (.loop 12 1 [(.and (.and (.eq (.fld (.tok 0) 1) (.lit (.i 0))) (.le (.slen (.fld (.tok 0) 2)) (.lit (.i 100)))) (.eq (.len (.fld (.tok 0) 3)) (.lit (.i 0)))), (.lit (.i 0))] (.br (.and (.lt (.tok 2) (.len (.fld (.tok 0) 3))) (.tok 1)) (.need [(.le (.lit (.i 0)) (.tok 2)), (.lt (.tok 2) (.len (.fld (.tok 0) 3))), (.ok 0 [(.get (.fld (.tok 0) 3) (.tok 2))])] (.need [(.rng .i64 (.add (.tok 2) (.lit (.i 1))))] (.back 12 [(.call 0 0 [(.get (.fld (.tok 0) 3) (.tok 2))]), (.add (.tok 2) (.lit (.i 1)))]))) (.leaf [(.tok 1)]))) (.br (.eq (.fld (.tok 0) 0) (.lit (.i 3))) (.loop 12 1 [(.and (.and (.and (.eq (.fld (.tok 0) 1) (.lit (.i 0))) (.le (.slen (.fld (.tok 0) 2)) (.lit (.i 100)))) (.lt (.lit (.i 0)) (.len (.fld (.tok 0) 3)))) (.le (.len (.fld (.tok 0) 3)) (.lit (.i 8)))), (.lit (.i 0))] (.br (.and (.lt (.tok 2) (.len (.fld (.tok 0) 3))) (.tok 1)) (.need [(.le (.lit (.i 0)) (.tok 2)), (.lt (.tok 2) (.len (.fld (.tok 0) 3))), (.ok 0 [(.get (.fld (.tok 0) 3) (.tok 2))])] (.need [(.rng .i64 (.add (.tok 2) (.lit (.i 1))))] (.back 12 [(.call 0 0 [(.get (.fld (.tok 0) 3) (.tok 2))]), (.add (.tok 2) (.lit (.i 1)))]))) (.leaf [(.tok 1)]))) (.loop 12 1 [(.lit (.b .false)), (.lit (.i 0))] (.br (.and (.lt (.tok 2) (.len (.fld (.tok 0) 3))) (.tok 1)) (.need [(.le (.lit (.i 0)) (.tok 2)), (.lt (.tok 2) (.len (.fld (.tok 0) 3))), (.ok 0 [(.get (.fld (.tok 0) 3) (.tok 2))])] (.need [(.rng .i64 (.add (.tok 2) (.lit (.i 1))))] (.back 12 [(.call 0 0 [(.get (.fld (.tok 0) 3) (.tok 2))]), (.add (.tok 2) (.lit (.i 1)))]))) (.leaf [(.tok 1)])))))))
set_option maxRecDepth 100000 in
theorem code_term_fits (g0 : List D → Option (List D)) : ∀ cd, Try.f96.body = some cd → treeOf Try.prog [(ct_term_fits, g0)] ann_term_fits ct_term_fits Try.f96 cd = tree_term_fits := by
  intro cd h
  injection h with h
  subst h
  kernel_rfl
theorem fok_term_fits {g0 : List D → Option (List D)} {g : List D → Option (List D)} (h0 : FOk ct_term_fits g0) (h : ∀ ds outs, WfA ct_term_fits.ars ds → g ds = some outs → tree_term_fits.go (tblS [(ct_term_fits, g0)]) (fun o => o = outs) ds fun _ _ => False) : FOk ct_term_fits g :=
  fok_of ann_term_fits Try.f96 _ (.cons h0 .nil) rfl rfl enter_term_fits (by decide) fun ds outs hw hg => by rw [code_term_fits g0 _ rfl]; exact h ds outs hw hg

def ct_term_Valid : Ct := ⟨54, [.val (.st 42)], [(.bool, false)], []⟩
theorem enter_term_Valid (args : Array Value) (w : World) : (callFunc ct_term_Valid.f args).run Try.prog w = .ok (.enter ct_term_Valid.f args) w := by kernel_rfl
def ann_term_Valid : Ann := ⟨[0, 1, 2], []⟩
def tree_term_Valid : Tree := (.need [(.ok 0 [(.tok 0)]), (.imp (.le (.call 0 0 [(.tok 0)]) (.lit (.i 2000))) (.ok 1 [(.tok 0)]))] (.leaf [(.and (.le (.call 0 0 [(.tok 0)]) (.lit (.i 2000))) (.call 1 0 [(.tok 0)]))]))
set_option maxRecDepth 100000 in
theorem code_term_Valid (g0 g1 : List D → Option (List D)) : ∀ cd, Try.f54.body = some cd → treeOf Try.prog [(ct_term_Size, g0), (ct_term_fits, g1)] ann_term_Valid ct_term_Valid Try.f54 cd = tree_term_Valid := by
  intro cd h
  injection h with h
  subst h
  kernel_rfl
theorem fok_term_Valid {g0 g1 : List D → Option (List D)} {g : List D → Option (List D)} (h0 : FOk ct_term_Size g0) (h1 : FOk ct_term_fits g1) (h : ∀ ds outs, WfA ct_term_Valid.ars ds → g ds = some outs → tree_term_Valid.go (tblS [(ct_term_Size, g0), (ct_term_fits, g1)]) (fun o => o = outs) ds fun _ _ => False) : FOk ct_term_Valid g :=
  fok_of ann_term_Valid Try.f54 _ (.cons h0 (.cons h1 .nil)) rfl rfl enter_term_Valid (by decide) fun ds outs hw hg => by rw [code_term_Valid g0 g1 _ rfl]; exact h ds outs hw hg

def ct_cells_arity : Ct := ⟨67, [.val (.st 26), .val (.int .i64)], [(.int .i64, false)], []⟩
theorem enter_cells_arity (args : Array Value) (w : World) : (callFunc ct_cells_arity.f args).run Try.prog w = .ok (.enter ct_cells_arity.f args) w := by kernel_rfl
def ann_cells_arity : Ann := ⟨[0, 1, 2, 4, 13], []⟩
def tree_cells_arity : Tree := (.br (.or (.lt (.tok 1) (.lit (.i 0))) (.le (.len (.fld (.tok 0) 1)) (.tok 1))) (.leaf [(.lit (.i (-1)))]) (.need [(.le (.lit (.i 0)) (.tok 1)), (.lt (.tok 1) (.len (.fld (.tok 0) 1)))] (.leaf [(.fld (.get (.fld (.tok 0) 1) (.tok 1)) 1)])))
set_option maxRecDepth 100000 in
theorem code_cells_arity : ∀ cd, Try.f67.body = some cd → treeOf Try.prog [] ann_cells_arity ct_cells_arity Try.f67 cd = tree_cells_arity := by
  intro cd h
  injection h with h
  subst h
  kernel_rfl
theorem fok_cells_arity {g : List D → Option (List D)}  (h : ∀ ds outs, WfA ct_cells_arity.ars ds → g ds = some outs → tree_cells_arity.go (tblS []) (fun o => o = outs) ds fun _ _ => False) : FOk ct_cells_arity g :=
  fok_of ann_cells_arity Try.f67 _ .nil rfl rfl enter_cells_arity (by decide) fun ds outs hw hg => by rw [code_cells_arity  _ rfl]; exact h ds outs hw hg

def ct_cells_tag : Ct := ⟨69, [.val (.st 26), .val (.int .i64)], [(.int .i64, false)], []⟩
theorem enter_cells_tag (args : Array Value) (w : World) : (callFunc ct_cells_tag.f args).run Try.prog w = .ok (.enter ct_cells_tag.f args) w := by kernel_rfl
def ann_cells_tag : Ann := ⟨[0, 1, 2, 4, 13], []⟩
def tree_cells_tag : Tree := (.br (.or (.lt (.tok 1) (.lit (.i 0))) (.le (.len (.fld (.tok 0) 0)) (.tok 1))) (.leaf [(.lit (.i (-1)))]) (.need [(.le (.lit (.i 0)) (.tok 1)), (.lt (.tok 1) (.len (.fld (.tok 0) 0)))] (.leaf [(.fld (.get (.fld (.tok 0) 0) (.tok 1)) 0)])))
set_option maxRecDepth 100000 in
theorem code_cells_tag : ∀ cd, Try.f69.body = some cd → treeOf Try.prog [] ann_cells_tag ct_cells_tag Try.f69 cd = tree_cells_tag := by
  intro cd h
  injection h with h
  subst h
  kernel_rfl
theorem fok_cells_tag {g : List D → Option (List D)}  (h : ∀ ds outs, WfA ct_cells_tag.ars ds → g ds = some outs → tree_cells_tag.go (tblS []) (fun o => o = outs) ds fun _ _ => False) : FOk ct_cells_tag g :=
  fok_of ann_cells_tag Try.f69 _ .nil rfl rfl enter_cells_tag (by decide) fun ds outs hw hg => by rw [code_cells_tag  _ rfl]; exact h ds outs hw hg

def ct_cells_ValidCell : Ct := ⟨38, [.val (.st 26), .val (.st 36)], [(.bool, false)], []⟩
theorem enter_cells_ValidCell (args : Array Value) (w : World) : (callFunc ct_cells_ValidCell.f args).run Try.prog w = .ok (.enter ct_cells_ValidCell.f args) w := by kernel_rfl
def ann_cells_ValidCell : Ann := ⟨[0, 1, 2, 3, 4, 5, 7, 8, 10, 17, 29, 36], []⟩
def tree_cells_ValidCell : Tree := (.br (.eq (.fld (.tok 1) 0) (.lit (.i 1))) (.leaf [(.lit (.b .true))]) (.br (.eq (.fld (.tok 1) 0) (.lit (.i 2))) (.need [(.ok 0 [(.tok 0), (.fld (.tok 1) 1)])] (.leaf [(.eq (.call 0 0 [(.tok 0), (.fld (.tok 1) 1)]) (.lit (.i 0)))])) (.br (.eq (.fld (.tok 1) 0) (.lit (.i 0))) (.need [(.ok 1 [(.tok 0), (.fld (.tok 1) 1)])] (.leaf [(.and (.le (.lit (.i 0)) (.call 1 0 [(.tok 0), (.fld (.tok 1) 1)])) (.not (.eq (.call 1 0 [(.tok 0), (.fld (.tok 1) 1)]) (.lit (.i 4)))))])) (.br (.eq (.fld (.tok 1) 0) (.lit (.i 3))) (.need [(.ok 1 [(.tok 0), (.fld (.tok 1) 1)])] (.leaf [(.eq (.call 1 0 [(.tok 0), (.fld (.tok 1) 1)]) (.lit (.i 4)))])) (.br (.eq (.fld (.tok 1) 0) (.lit (.i 5))) (.need [(.ok 1 [(.tok 0), (.fld (.tok 1) 1)])] (.leaf [(.eq (.call 1 0 [(.tok 0), (.fld (.tok 1) 1)]) (.lit (.i 5)))])) (.leaf [(.lit (.b .false))]))))))
set_option maxRecDepth 100000 in
theorem code_cells_ValidCell (g0 g1 : List D → Option (List D)) : ∀ cd, Try.f38.body = some cd → treeOf Try.prog [(ct_cells_arity, g0), (ct_cells_tag, g1)] ann_cells_ValidCell ct_cells_ValidCell Try.f38 cd = tree_cells_ValidCell := by
  intro cd h
  injection h with h
  subst h
  kernel_rfl
theorem fok_cells_ValidCell {g0 g1 : List D → Option (List D)} {g : List D → Option (List D)} (h0 : FOk ct_cells_arity g0) (h1 : FOk ct_cells_tag g1) (h : ∀ ds outs, WfA ct_cells_ValidCell.ars ds → g ds = some outs → tree_cells_ValidCell.go (tblS [(ct_cells_arity, g0), (ct_cells_tag, g1)]) (fun o => o = outs) ds fun _ _ => False) : FOk ct_cells_ValidCell g :=
  fok_of ann_cells_ValidCell Try.f38 _ (.cons h0 (.cons h1 .nil)) rfl rfl enter_cells_ValidCell (by decide) fun ds outs hw hg => by rw [code_cells_ValidCell g0 g1 _ rfl]; exact h ds outs hw hg

def ct_cells_validVars : Ct := ⟨55, [.val (.st 26), .val (.row 49)], [(.bool, false)], []⟩
theorem enter_cells_validVars (args : Array Value) (w : World) : (callFunc ct_cells_validVars.f args).run Try.prog w = .ok (.enter ct_cells_validVars.f args) w := by kernel_rfl
def ann_cells_validVars : Ann := ⟨[0, 1, 2, 4, 5, 6, 7, 8, 9, 10, 43], [(2, ⟨[(4, .bool, false), (9, .int .i64, false)], [], [10, 11, 12, 13, 6, 5, 14, 15, 16, 17, 18, 19, 20, 21, 22, 23, 24, 25, 26, 27, 28, 29, 30, 31, 32, 33, 34, 35, 36, 37, 38, 39, 40, 41, 42, 43, 44], []⟩)]⟩
def tree_cells_validVars : Tree := (.loop 2 2 [(.lit (.b .false)), (.lit (.i 0))] (.br (.lt (.tok 3) (.len (.tok 1))) (.need [(.le (.lit (.i 0)) (.tok 3)), (.lt (.tok 3) (.len (.tok 1)))] (.need [(.imp (.not (.or (.or (.lt (.fld (.get (.tok 1) (.tok 3)) 0) (.lit (.i 0))) (.lt (.lit (.i 1099511627776)) (.fld (.get (.tok 1) (.tok 3)) 0))) (.and (.lt (.lit (.i 0)) (.tok 3)) (.le (.fld (.get (.tok 1) (.tok 3)) 0) (.fld (.get (.tok 1) (.sub (.tok 3) (.lit (.i 1)))) 0))))) (.ok 0 [(.tok 0), (.fld (.get (.tok 1) (.tok 3)) 1)])), (.imp (.and (.not (.or (.lt (.fld (.get (.tok 1) (.tok 3)) 0) (.lit (.i 0))) (.lt (.lit (.i 1099511627776)) (.fld (.get (.tok 1) (.tok 3)) 0)))) (.lt (.lit (.i 0)) (.tok 3))) (.le (.lit (.i 0)) (.sub (.tok 3) (.lit (.i 1))))), (.imp (.and (.not (.or (.lt (.fld (.get (.tok 1) (.tok 3)) 0) (.lit (.i 0))) (.lt (.lit (.i 1099511627776)) (.fld (.get (.tok 1) (.tok 3)) 0)))) (.lt (.lit (.i 0)) (.tok 3))) (.lt (.sub (.tok 3) (.lit (.i 1))) (.len (.tok 1)))), (.imp (.and (.not (.or (.lt (.fld (.get (.tok 1) (.tok 3)) 0) (.lit (.i 0))) (.lt (.lit (.i 1099511627776)) (.fld (.get (.tok 1) (.tok 3)) 0)))) (.lt (.lit (.i 0)) (.tok 3))) (.le (.lit (.i 0)) (.sub (.tok 3) (.lit (.i 1))))), (.imp (.and (.not (.or (.lt (.fld (.get (.tok 1) (.tok 3)) 0) (.lit (.i 0))) (.lt (.lit (.i 1099511627776)) (.fld (.get (.tok 1) (.tok 3)) 0)))) (.lt (.lit (.i 0)) (.tok 3))) (.lt (.sub (.tok 3) (.lit (.i 1))) (.len (.tok 1)))), (.imp (.and (.not (.or (.lt (.fld (.get (.tok 1) (.tok 3)) 0) (.lit (.i 0))) (.lt (.lit (.i 1099511627776)) (.fld (.get (.tok 1) (.tok 3)) 0)))) (.lt (.lit (.i 0)) (.tok 3))) (.rng .i64 (.sub (.tok 3) (.lit (.i 1))))), (.imp (.and (.not (.or (.lt (.fld (.get (.tok 1) (.tok 3)) 0) (.lit (.i 0))) (.lt (.lit (.i 1099511627776)) (.fld (.get (.tok 1) (.tok 3)) 0)))) (.lt (.lit (.i 0)) (.tok 3))) (.rng .i64 (.sub (.tok 3) (.lit (.i 1))))), (.imp (.and (.not (.or (.lt (.fld (.get (.tok 1) (.tok 3)) 0) (.lit (.i 0))) (.lt (.lit (.i 1099511627776)) (.fld (.get (.tok 1) (.tok 3)) 0)))) (.lt (.lit (.i 0)) (.tok 3))) (.rng .i64 (.sub (.tok 3) (.lit (.i 1)))))] (.br (.or (.or (.or (.lt (.fld (.get (.tok 1) (.tok 3)) 0) (.lit (.i 0))) (.lt (.lit (.i 1099511627776)) (.fld (.get (.tok 1) (.tok 3)) 0))) (.and (.lt (.lit (.i 0)) (.tok 3)) (.le (.fld (.get (.tok 1) (.tok 3)) 0) (.fld (.get (.tok 1) (.sub (.tok 3) (.lit (.i 1)))) 0)))) (.not (.call 0 0 [(.tok 0), (.fld (.get (.tok 1) (.tok 3)) 1)]))) (.leaf [(.lit (.b .false))]) (.need [(.rng .i64 (.add (.tok 3) (.lit (.i 1))))] (.back 2 [(.tok 2), (.add (.tok 3) (.lit (.i 1)))]))))) (.leaf [(.lit (.b .true))])))
set_option maxRecDepth 100000 in
theorem code_cells_validVars (g0 : List D → Option (List D)) : ∀ cd, Try.f55.body = some cd → treeOf Try.prog [(ct_cells_ValidCell, g0)] ann_cells_validVars ct_cells_validVars Try.f55 cd = tree_cells_validVars := by
  intro cd h
  injection h with h
  subst h
  kernel_rfl
theorem fok_cells_validVars {g0 : List D → Option (List D)} {g : List D → Option (List D)} (h0 : FOk ct_cells_ValidCell g0) (h : ∀ ds outs, WfA ct_cells_validVars.ars ds → g ds = some outs → tree_cells_validVars.go (tblS [(ct_cells_ValidCell, g0)]) (fun o => o = outs) ds fun _ _ => False) : FOk ct_cells_validVars g :=
  fok_of ann_cells_validVars Try.f55 _ (.cons h0 .nil) rfl rfl enter_cells_validVars (by decide) fun ds outs hw hg => by rw [code_cells_validVars g0 _ rfl]; exact h ds outs hw hg

def ct_cells_room_1 : Ct := ⟨97, [.val (.st 42), .ref (.map 72 4), .cell 34 5, .ref (.int .i64), .cell 116 6], [], [(.cell 2, .rref (.st 26)), (.cell 4, .fn 97 [1, 2, 3, 4])]⟩
theorem enter_cells_room_1 (args : Array Value) (w : World) : (callFunc ct_cells_room_1.f args).run Try.prog w = .ok (.enter ct_cells_room_1.f args) w := by kernel_rfl
def ann_cells_room_1 : Ann := ⟨[0, 1, 2, 3, 4, 5, 6, 8, 16, 32, 37, 45, 46, 47, 48], [(8, ⟨[(47, .int .i64, false)], [1, 3], [48, 49, 50, 8, 51, 52, 53, 54], []⟩)]⟩
def tree_cells_room_1 : Tree := (.br (.or (.eq (.fld (.tok 0) 0) (.lit (.i 2))) (.eq (.fld (.tok 0) 0) (.lit (.i 3)))) (.need [(.imp (.not (.fn 0 [(.tok 1), (.mk [(.fld (.tok 0) 2), (.len (.fld (.tok 0) 3))]), (.lit (.b .false))])) (.ok 1 [(.tok 3), (.mk [(.fld (.tok 0) 2), (.len (.fld (.tok 0) 3))])]))] (.br (.and (.not (.fn 0 [(.tok 1), (.mk [(.fld (.tok 0) 2), (.len (.fld (.tok 0) 3))]), (.lit (.b .false))])) (.lt (.call 1 0 [(.tok 3), (.mk [(.fld (.tok 0) 2), (.len (.fld (.tok 0) 3))])]) (.lit (.i 0)))) (.br (.eq (.fld (.tok 0) 0) (.lit (.i 3))) (.need [(.rng .i64 (.add (.len (.fld (.tok 0) 3)) (.lit (.i 1)))), (.rng .i64 (.add (.tok 2) (.add (.len (.fld (.tok 0) 3)) (.lit (.i 1)))))] (.loop 8 4 [(.lit (.i 0)), (.fn 2 [(.tok 1), (.mk [(.fld (.tok 0) 2), (.len (.fld (.tok 0) 3))]), (.lit (.b .true))]), (.add (.tok 2) (.add (.len (.fld (.tok 0) 3)) (.lit (.i 1))))] (.br (.lt (.tok 4) (.len (.fld (.tok 0) 3))) (.need [(.le (.lit (.i 0)) (.tok 4)), (.lt (.tok 4) (.len (.fld (.tok 0) 3)))] (.need [(.ok 0 [(.get (.fld (.tok 0) 3) (.tok 4)), (.tok 5), (.tok 6), (.tok 3)])] (.need [(.rng .i64 (.add (.tok 4) (.lit (.i 1))))] (.back 8 [(.add (.tok 4) (.lit (.i 1))), (.call 0 0 [(.get (.fld (.tok 0) 3) (.tok 4)), (.tok 5), (.tok 6), (.tok 3)]), (.call 0 1 [(.get (.fld (.tok 0) 3) (.tok 4)), (.tok 5), (.tok 6), (.tok 3)])])))) (.leaf [(.tok 5), (.tok 6)])))) (.loop 8 4 [(.lit (.i 0)), (.fn 2 [(.tok 1), (.mk [(.fld (.tok 0) 2), (.len (.fld (.tok 0) 3))]), (.lit (.b .true))]), (.tok 2)] (.br (.lt (.tok 4) (.len (.fld (.tok 0) 3))) (.need [(.le (.lit (.i 0)) (.tok 4)), (.lt (.tok 4) (.len (.fld (.tok 0) 3)))] (.need [(.ok 0 [(.get (.fld (.tok 0) 3) (.tok 4)), (.tok 5), (.tok 6), (.tok 3)])] (.need [(.rng .i64 (.add (.tok 4) (.lit (.i 1))))] (.back 8 [(.add (.tok 4) (.lit (.i 1))), (.call 0 0 [(.get (.fld (.tok 0) 3) (.tok 4)), (.tok 5), (.tok 6), (.tok 3)]), (.call 0 1 [(.get (.fld (.tok 0) 3) (.tok 4)), (.tok 5), (.tok 6), (.tok 3)])])))) (.leaf [(.tok 5), (.tok 6)])))) (.br (.eq (.fld (.tok 0) 0) (.lit (.i 3))) (.need [(.rng .i64 (.add (.len (.fld (.tok 0) 3)) (.lit (.i 1)))), (.rng .i64 (.add (.tok 2) (.add (.len (.fld (.tok 0) 3)) (.lit (.i 1)))))] (.loop 8 4 [(.lit (.i 0)), (.tok 1), (.add (.tok 2) (.add (.len (.fld (.tok 0) 3)) (.lit (.i 1))))] (.br (.lt (.tok 4) (.len (.fld (.tok 0) 3))) (.need [(.le (.lit (.i 0)) (.tok 4)), (.lt (.tok 4) (.len (.fld (.tok 0) 3)))] (.need [(.ok 0 [(.get (.fld (.tok 0) 3) (.tok 4)), (.tok 5), (.tok 6), (.tok 3)])] (.need [(.rng .i64 (.add (.tok 4) (.lit (.i 1))))] (.back 8 [(.add (.tok 4) (.lit (.i 1))), (.call 0 0 [(.get (.fld (.tok 0) 3) (.tok 4)), (.tok 5), (.tok 6), (.tok 3)]), (.call 0 1 [(.get (.fld (.tok 0) 3) (.tok 4)), (.tok 5), (.tok 6), (.tok 3)])])))) (.leaf [(.tok 5), (.tok 6)])))) (.loop 8 4 [(.lit (.i 0)), (.tok 1), (.tok 2)] (.br (.lt (.tok 4) (.len (.fld (.tok 0) 3))) (.need [(.le (.lit (.i 0)) (.tok 4)), (.lt (.tok 4) (.len (.fld (.tok 0) 3)))] (.need [(.ok 0 [(.get (.fld (.tok 0) 3) (.tok 4)), (.tok 5), (.tok 6), (.tok 3)])] (.need [(.rng .i64 (.add (.tok 4) (.lit (.i 1))))] (.back 8 [(.add (.tok 4) (.lit (.i 1))), (.call 0 0 [(.get (.fld (.tok 0) 3) (.tok 4)), (.tok 5), (.tok 6), (.tok 3)]), (.call 0 1 [(.get (.fld (.tok 0) 3) (.tok 4)), (.tok 5), (.tok 6), (.tok 3)])])))) (.leaf [(.tok 5), (.tok 6)])))))) (.br (.eq (.fld (.tok 0) 0) (.lit (.i 3))) (.need [(.rng .i64 (.add (.len (.fld (.tok 0) 3)) (.lit (.i 1)))), (.rng .i64 (.add (.tok 2) (.add (.len (.fld (.tok 0) 3)) (.lit (.i 1)))))] (.loop 8 4 [(.lit (.i 0)), (.tok 1), (.add (.tok 2) (.add (.len (.fld (.tok 0) 3)) (.lit (.i 1))))] (.br (.lt (.tok 4) (.len (.fld (.tok 0) 3))) (.need [(.le (.lit (.i 0)) (.tok 4)), (.lt (.tok 4) (.len (.fld (.tok 0) 3)))] (.need [(.ok 0 [(.get (.fld (.tok 0) 3) (.tok 4)), (.tok 5), (.tok 6), (.tok 3)])] (.need [(.rng .i64 (.add (.tok 4) (.lit (.i 1))))] (.back 8 [(.add (.tok 4) (.lit (.i 1))), (.call 0 0 [(.get (.fld (.tok 0) 3) (.tok 4)), (.tok 5), (.tok 6), (.tok 3)]), (.call 0 1 [(.get (.fld (.tok 0) 3) (.tok 4)), (.tok 5), (.tok 6), (.tok 3)])])))) (.leaf [(.tok 5), (.tok 6)])))) (.loop 8 4 [(.lit (.i 0)), (.tok 1), (.tok 2)] (.br (.lt (.tok 4) (.len (.fld (.tok 0) 3))) (.need [(.le (.lit (.i 0)) (.tok 4)), (.lt (.tok 4) (.len (.fld (.tok 0) 3)))] (.need [(.ok 0 [(.get (.fld (.tok 0) 3) (.tok 4)), (.tok 5), (.tok 6), (.tok 3)])] (.need [(.rng .i64 (.add (.tok 4) (.lit (.i 1))))] (.back 8 [(.add (.tok 4) (.lit (.i 1))), (.call 0 0 [(.get (.fld (.tok 0) 3) (.tok 4)), (.tok 5), (.tok 6), (.tok 3)]), (.call 0 1 [(.get (.fld (.tok 0) 3) (.tok 4)), (.tok 5), (.tok 6), (.tok 3)])])))) (.leaf [(.tok 5), (.tok 6)])))))
set_option maxRecDepth 100000 in
theorem code_cells_room_1 (g0 g1 : List D → Option (List D)) : ∀ cd, Try.f97.body = some cd → treeOf Try.prog [(ct_cells_room_1, g0), (ct_cells_find, g1)] ann_cells_room_1 ct_cells_room_1 Try.f97 cd = tree_cells_room_1 := by
  intro cd h
  injection h with h
  subst h
  kernel_rfl
theorem fok_cells_room_1 {g0 g1 : List D → Option (List D)} {g : List D → Option (List D)} (h0 : FOk ct_cells_room_1 g0) (h1 : FOk ct_cells_find g1) (h : ∀ ds outs, WfA ct_cells_room_1.ars ds → g ds = some outs → tree_cells_room_1.go (tblS [(ct_cells_room_1, g0), (ct_cells_find, g1)]) (fun o => o = outs) ds fun _ _ => False) : FOk ct_cells_room_1 g :=
  fok_of ann_cells_room_1 Try.f97 _ (.cons h0 (.cons h1 .nil)) rfl rfl enter_cells_room_1 (by decide) fun ds outs hw hg => by rw [code_cells_room_1 g0 g1 _ rfl]; exact h ds outs hw hg

def ct_cells_room : Ct := ⟨56, [.rref (.st 26), .val (.st 42), .val (.row 49)], [(.bool, false)], []⟩
theorem enter_cells_room (args : Array Value) (w : World) : (callFunc ct_cells_room.f args).run Try.prog w = .ok (.enter ct_cells_room.f args) w := by kernel_rfl
def ann_cells_room : Ann := ⟨[0, 1, 2, 3, 4, 6, 7, 9, 10, 11, 14, 23], []⟩
def tree_cells_room : Tree := (.br (.eq (.fld (.tok 1) 0) (.lit (.i 0))) (.need [(.ok 1 [(.tok 2), (.fld (.tok 1) 1)])] (.br (.not (.call 1 1 [(.tok 2), (.fld (.tok 1) 1)])) (.need [(.rng .i64 (.lit (.i 1)))] (.need [(.ok 0 [(.tok 1), (.lit (.mp [])), (.lit (.i 1)), (.tok 0)])] (.need [(.imp (.le (.call 0 1 [(.tok 1), (.lit (.mp [])), (.lit (.i 1)), (.tok 0)]) (.sub (.fld (.tok 0) 5) (.len (.fld (.tok 0) 0)))) (.rng .i64 (.fn 3 [(.call 0 0 [(.tok 1), (.lit (.mp [])), (.lit (.i 1)), (.tok 0)])]))), (.imp (.le (.call 0 1 [(.tok 1), (.lit (.mp [])), (.lit (.i 1)), (.tok 0)]) (.sub (.fld (.tok 0) 5) (.len (.fld (.tok 0) 0)))) (.rng .i64 (.fn 3 [(.call 0 0 [(.tok 1), (.lit (.mp [])), (.lit (.i 1)), (.tok 0)])]))), (.imp (.le (.call 0 1 [(.tok 1), (.lit (.mp [])), (.lit (.i 1)), (.tok 0)]) (.sub (.fld (.tok 0) 5) (.len (.fld (.tok 0) 0)))) (.rng .i64 (.sub (.lit (.i 1048576)) (.len (.fld (.tok 0) 1))))), (.imp (.le (.call 0 1 [(.tok 1), (.lit (.mp [])), (.lit (.i 1)), (.tok 0)]) (.sub (.fld (.tok 0) 5) (.len (.fld (.tok 0) 0)))) (.rng .i64 (.fn 3 [(.call 0 0 [(.tok 1), (.lit (.mp [])), (.lit (.i 1)), (.tok 0)])]))), (.imp (.le (.call 0 1 [(.tok 1), (.lit (.mp [])), (.lit (.i 1)), (.tok 0)]) (.sub (.fld (.tok 0) 5) (.len (.fld (.tok 0) 0)))) (.rng .i64 (.fn 3 [(.call 0 0 [(.tok 1), (.lit (.mp [])), (.lit (.i 1)), (.tok 0)])]))), (.rng .i64 (.sub (.fld (.tok 0) 5) (.len (.fld (.tok 0) 0))))] (.leaf [(.and (.le (.call 0 1 [(.tok 1), (.lit (.mp [])), (.lit (.i 1)), (.tok 0)]) (.sub (.fld (.tok 0) 5) (.len (.fld (.tok 0) 0)))) (.le (.fn 3 [(.call 0 0 [(.tok 1), (.lit (.mp [])), (.lit (.i 1)), (.tok 0)])]) (.sub (.lit (.i 1048576)) (.len (.fld (.tok 0) 1)))))])))) (.need [(.ok 0 [(.tok 1), (.lit (.mp [])), (.lit (.i 0)), (.tok 0)])] (.need [(.imp (.le (.call 0 1 [(.tok 1), (.lit (.mp [])), (.lit (.i 0)), (.tok 0)]) (.sub (.fld (.tok 0) 5) (.len (.fld (.tok 0) 0)))) (.rng .i64 (.fn 3 [(.call 0 0 [(.tok 1), (.lit (.mp [])), (.lit (.i 0)), (.tok 0)])]))), (.imp (.le (.call 0 1 [(.tok 1), (.lit (.mp [])), (.lit (.i 0)), (.tok 0)]) (.sub (.fld (.tok 0) 5) (.len (.fld (.tok 0) 0)))) (.rng .i64 (.fn 3 [(.call 0 0 [(.tok 1), (.lit (.mp [])), (.lit (.i 0)), (.tok 0)])]))), (.imp (.le (.call 0 1 [(.tok 1), (.lit (.mp [])), (.lit (.i 0)), (.tok 0)]) (.sub (.fld (.tok 0) 5) (.len (.fld (.tok 0) 0)))) (.rng .i64 (.sub (.lit (.i 1048576)) (.len (.fld (.tok 0) 1))))), (.imp (.le (.call 0 1 [(.tok 1), (.lit (.mp [])), (.lit (.i 0)), (.tok 0)]) (.sub (.fld (.tok 0) 5) (.len (.fld (.tok 0) 0)))) (.rng .i64 (.fn 3 [(.call 0 0 [(.tok 1), (.lit (.mp [])), (.lit (.i 0)), (.tok 0)])]))), (.imp (.le (.call 0 1 [(.tok 1), (.lit (.mp [])), (.lit (.i 0)), (.tok 0)]) (.sub (.fld (.tok 0) 5) (.len (.fld (.tok 0) 0)))) (.rng .i64 (.fn 3 [(.call 0 0 [(.tok 1), (.lit (.mp [])), (.lit (.i 0)), (.tok 0)])]))), (.rng .i64 (.sub (.fld (.tok 0) 5) (.len (.fld (.tok 0) 0))))] (.leaf [(.and (.le (.call 0 1 [(.tok 1), (.lit (.mp [])), (.lit (.i 0)), (.tok 0)]) (.sub (.fld (.tok 0) 5) (.len (.fld (.tok 0) 0)))) (.le (.fn 3 [(.call 0 0 [(.tok 1), (.lit (.mp [])), (.lit (.i 0)), (.tok 0)])]) (.sub (.lit (.i 1048576)) (.len (.fld (.tok 0) 1)))))]))))) (.need [(.ok 0 [(.tok 1), (.lit (.mp [])), (.lit (.i 0)), (.tok 0)])] (.need [(.imp (.le (.call 0 1 [(.tok 1), (.lit (.mp [])), (.lit (.i 0)), (.tok 0)]) (.sub (.fld (.tok 0) 5) (.len (.fld (.tok 0) 0)))) (.rng .i64 (.fn 3 [(.call 0 0 [(.tok 1), (.lit (.mp [])), (.lit (.i 0)), (.tok 0)])]))), (.imp (.le (.call 0 1 [(.tok 1), (.lit (.mp [])), (.lit (.i 0)), (.tok 0)]) (.sub (.fld (.tok 0) 5) (.len (.fld (.tok 0) 0)))) (.rng .i64 (.fn 3 [(.call 0 0 [(.tok 1), (.lit (.mp [])), (.lit (.i 0)), (.tok 0)])]))), (.imp (.le (.call 0 1 [(.tok 1), (.lit (.mp [])), (.lit (.i 0)), (.tok 0)]) (.sub (.fld (.tok 0) 5) (.len (.fld (.tok 0) 0)))) (.rng .i64 (.sub (.lit (.i 1048576)) (.len (.fld (.tok 0) 1))))), (.imp (.le (.call 0 1 [(.tok 1), (.lit (.mp [])), (.lit (.i 0)), (.tok 0)]) (.sub (.fld (.tok 0) 5) (.len (.fld (.tok 0) 0)))) (.rng .i64 (.fn 3 [(.call 0 0 [(.tok 1), (.lit (.mp [])), (.lit (.i 0)), (.tok 0)])]))), (.imp (.le (.call 0 1 [(.tok 1), (.lit (.mp [])), (.lit (.i 0)), (.tok 0)]) (.sub (.fld (.tok 0) 5) (.len (.fld (.tok 0) 0)))) (.rng .i64 (.fn 3 [(.call 0 0 [(.tok 1), (.lit (.mp [])), (.lit (.i 0)), (.tok 0)])]))), (.rng .i64 (.sub (.fld (.tok 0) 5) (.len (.fld (.tok 0) 0))))] (.leaf [(.and (.le (.call 0 1 [(.tok 1), (.lit (.mp [])), (.lit (.i 0)), (.tok 0)]) (.sub (.fld (.tok 0) 5) (.len (.fld (.tok 0) 0)))) (.le (.fn 3 [(.call 0 0 [(.tok 1), (.lit (.mp [])), (.lit (.i 0)), (.tok 0)])]) (.sub (.lit (.i 1048576)) (.len (.fld (.tok 0) 1)))))]))))
set_option maxRecDepth 100000 in
theorem code_cells_room (g0 g1 : List D → Option (List D)) : ∀ cd, Try.f56.body = some cd → treeOf Try.prog [(ct_cells_room_1, g0), (ct_slices_BinarySearchFunc_VarCell, g1)] ann_cells_room ct_cells_room Try.f56 cd = tree_cells_room := by
  intro cd h
  injection h with h
  subst h
  kernel_rfl
theorem fok_cells_room {g0 g1 : List D → Option (List D)} {g : List D → Option (List D)} (h0 : FOk ct_cells_room_1 g0) (h1 : FOk ct_slices_BinarySearchFunc_VarCell g1) (h : ∀ ds outs, WfA ct_cells_room.ars ds → g ds = some outs → tree_cells_room.go (tblS [(ct_cells_room_1, g0), (ct_slices_BinarySearchFunc_VarCell, g1)]) (fun o => o = outs) ds fun _ _ => False) : FOk ct_cells_room g :=
  fok_of ann_cells_room Try.f56 _ (.cons h0 (.cons h1 .nil)) rfl rfl enter_cells_room (by decide) fun ds outs hw hg => by rw [code_cells_room g0 g1 _ rfl]; exact h ds outs hw hg

def ct_slices_Clone_VarCell : Ct := ⟨57, [.val (.row 49)], [(.row 49, true)], []⟩
theorem enter_slices_Clone_VarCell (args : Array Value) (w : World) : (callFunc ct_slices_Clone_VarCell.f args).run Try.prog w = .ok (.enter ct_slices_Clone_VarCell.f args) w := by kernel_rfl
def ann_slices_Clone_VarCell : Ann := ⟨[0, 2, 4], []⟩
def tree_slices_Clone_VarCell : Tree := (.amb (.tok 0) .false (.leaf [(.lit (.r []))]) (.need [(.le (.add (.lit (.i 0)) (.len (.tok 0))) (.lit (.i 5864062014634)))] (.leaf [(.app (.row []) (.tok 0))])))
set_option maxRecDepth 100000 in
theorem code_slices_Clone_VarCell : ∀ cd, Try.f57.body = some cd → treeOf Try.prog [] ann_slices_Clone_VarCell ct_slices_Clone_VarCell Try.f57 cd = tree_slices_Clone_VarCell := by
  intro cd h
  injection h with h
  subst h
  kernel_rfl
theorem fok_slices_Clone_VarCell {g : List D → Option (List D)}  (h : ∀ ds outs, WfA ct_slices_Clone_VarCell.ars ds → g ds = some outs → tree_slices_Clone_VarCell.go (tblS []) (fun o => o = outs) ds fun _ _ => False) : FOk ct_slices_Clone_VarCell g :=
  fok_of ann_slices_Clone_VarCell Try.f57 _ .nil rfl rfl enter_slices_Clone_VarCell (by decide) fun ds outs hw hg => by rw [code_slices_Clone_VarCell  _ rfl]; exact h ds outs hw hg

def ct_cells_Put : Ct := ⟨21, [.ref (.st 26), .val (.st 42), .val (.row 49)], [(.st 36, false), (.row 49, false), (.int .i64, false)], []⟩
theorem enter_cells_Put (args : Array Value) (w : World) : (callFunc ct_cells_Put.f args).run Try.prog w = .ok (.enter ct_cells_Put.f args) w := by kernel_rfl
def ann_cells_Put : Ann := ⟨[0, 1, 2, 3, 4, 6, 7, 8, 9, 24, 30], []⟩
def tree_cells_Put : Tree := (.need [(.ok 1 [(.tok 1)]), (.imp (.not (.not (.call 1 0 [(.tok 1)]))) (.ok 2 [(.tok 0), (.tok 2)]))] (.br (.or (.not (.call 1 0 [(.tok 1)])) (.not (.call 2 0 [(.tok 0), (.tok 2)]))) (.leaf [(.lit (.a [(.i 0), (.i 0)])), (.lit (.r [])), (.lit (.i 1)), (.tok 0)]) (.need [(.ok 3 [(.tok 0), (.tok 1), (.tok 2)])] (.br (.not (.call 3 0 [(.tok 0), (.tok 1), (.tok 2)])) (.leaf [(.lit (.a [(.i 0), (.i 0)])), (.lit (.r [])), (.lit (.i 13)), (.tok 0)]) (.need [(.ok 4 [(.tok 2)])] (.need [(.ok 0 [(.tok 1), (.lit (.i (-1))), (.call 4 0 [(.tok 2)]), (.tok 0)])] (.leaf [(.call 0 0 [(.tok 1), (.lit (.i (-1))), (.call 4 0 [(.tok 2)]), (.tok 0)]), (.call 0 1 [(.tok 1), (.lit (.i (-1))), (.call 4 0 [(.tok 2)]), (.tok 0)]), (.lit (.i 0)), (.call 0 2 [(.tok 1), (.lit (.i (-1))), (.call 4 0 [(.tok 2)]), (.tok 0)])])))))))
set_option maxRecDepth 100000 in
theorem code_cells_Put (g0 g1 g2 g3 g4 : List D → Option (List D)) : ∀ cd, Try.f21.body = some cd → treeOf Try.prog [(ct_cells_Put_1, g0), (ct_term_Valid, g1), (ct_cells_validVars, g2), (ct_cells_room, g3), (ct_slices_Clone_VarCell, g4)] ann_cells_Put ct_cells_Put Try.f21 cd = tree_cells_Put := by
  intro cd h
  injection h with h
  subst h
  kernel_rfl
theorem fok_cells_Put {g0 g1 g2 g3 g4 : List D → Option (List D)} {g : List D → Option (List D)} (h0 : FOk ct_cells_Put_1 g0) (h1 : FOk ct_term_Valid g1) (h2 : FOk ct_cells_validVars g2) (h3 : FOk ct_cells_room g3) (h4 : FOk ct_slices_Clone_VarCell g4) (h : ∀ ds outs, WfA ct_cells_Put.ars ds → g ds = some outs → tree_cells_Put.go (tblS [(ct_cells_Put_1, g0), (ct_term_Valid, g1), (ct_cells_validVars, g2), (ct_cells_room, g3), (ct_slices_Clone_VarCell, g4)]) (fun o => o = outs) ds fun _ _ => False) : FOk ct_cells_Put g :=
  fok_of ann_cells_Put Try.f21 _ (.cons h0 (.cons h1 (.cons h2 (.cons h3 (.cons h4 .nil))))) rfl rfl enter_cells_Put (by decide) fun ds outs hw hg => by rw [code_cells_Put g0 g1 g2 g3 g4 _ rfl]; exact h ds outs hw hg

def ct_law30_str : Ct := ⟨44, [.val (.int .i64)], [(.st 36, false)], []⟩
theorem enter_law30_str (args : Array Value) (w : World) : (callFunc ct_law30_str.f args).run Try.prog w = .ok (.enter ct_law30_str.f args) w := by kernel_rfl
def ann_law30_str : Ann := ⟨[0, 2], []⟩
def tree_law30_str : Tree := (.leaf [(.mk [(.lit (.i 3)), (.tok 0)])])
set_option maxRecDepth 100000 in
theorem code_law30_str : ∀ cd, Try.f44.body = some cd → treeOf Try.prog [] ann_law30_str ct_law30_str Try.f44 cd = tree_law30_str := by
  intro cd h
  injection h with h
  subst h
  kernel_rfl
theorem fok_law30_str {g : List D → Option (List D)}  (h : ∀ ds outs, WfA ct_law30_str.ars ds → g ds = some outs → tree_law30_str.go (tblS []) (fun o => o = outs) ds fun _ _ => False) : FOk ct_law30_str g :=
  fok_of ann_law30_str Try.f44 _ .nil rfl rfl enter_law30_str (by decide) fun ds outs hw hg => by rw [code_law30_str  _ rfl]; exact h ds outs hw hg

def ct_law30_ref : Ct := ⟨39, [.val (.int .i64)], [(.st 36, false)], []⟩
theorem enter_law30_ref (args : Array Value) (w : World) : (callFunc ct_law30_ref.f args).run Try.prog w = .ok (.enter ct_law30_ref.f args) w := by kernel_rfl
def ann_law30_ref : Ann := ⟨[0, 2], []⟩
def tree_law30_ref : Tree := (.leaf [(.mk [(.lit (.i 0)), (.tok 0)])])
set_option maxRecDepth 100000 in
theorem code_law30_ref : ∀ cd, Try.f39.body = some cd → treeOf Try.prog [] ann_law30_ref ct_law30_ref Try.f39 cd = tree_law30_ref := by
  intro cd h
  injection h with h
  subst h
  kernel_rfl
theorem fok_law30_ref {g : List D → Option (List D)}  (h : ∀ ds outs, WfA ct_law30_ref.ars ds → g ds = some outs → tree_law30_ref.go (tblS []) (fun o => o = outs) ds fun _ _ => False) : FOk ct_law30_ref g :=
  fok_of ann_law30_ref Try.f39 _ .nil rfl rfl enter_law30_ref (by decide) fun ds outs hw hg => by rw [code_law30_ref  _ rfl]; exact h ds outs hw hg

def ct_law30_vars : Ct := ⟨23, [.val (.row 49), .val (.row 49)], [(.bool, false)], []⟩
theorem enter_law30_vars (args : Array Value) (w : World) : (callFunc ct_law30_vars.f args).run Try.prog w = .ok (.enter ct_law30_vars.f args) w := by kernel_rfl
def ann_law30_vars : Ann := ⟨[0, 1, 4, 5, 10, 14, 25], [(4, ⟨[(4, .bool, false), (5, .int .i64, false)], [], [11, 12, 13, 14, 17, 18, 19, 20, 21, 22, 23, 24, 25, 15, 16], []⟩)]⟩
def tree_law30_vars : Tree := (.br (.not (.eq (.len (.tok 0)) (.len (.tok 1)))) (.leaf [(.lit (.b .false))]) (.loop 4 2 [(.lit (.b .false)), (.lit (.i 0))] (.br (.lt (.tok 3) (.len (.tok 0))) (.need [(.le (.lit (.i 0)) (.tok 3)), (.lt (.tok 3) (.len (.tok 1))), (.le (.lit (.i 0)) (.tok 3)), (.lt (.tok 3) (.len (.tok 0)))] (.br (.not (.eq (.get (.tok 0) (.tok 3)) (.get (.tok 1) (.tok 3)))) (.leaf [(.lit (.b .false))]) (.need [(.rng .i64 (.add (.tok 3) (.lit (.i 1))))] (.back 4 [(.tok 2), (.add (.tok 3) (.lit (.i 1)))])))) (.leaf [(.lit (.b .true))]))))
set_option maxRecDepth 100000 in
theorem code_law30_vars : ∀ cd, Try.f23.body = some cd → treeOf Try.prog [] ann_law30_vars ct_law30_vars Try.f23 cd = tree_law30_vars := by
  intro cd h
  injection h with h
  subst h
  kernel_rfl
theorem fok_law30_vars {g : List D → Option (List D)}  (h : ∀ ds outs, WfA ct_law30_vars.ars ds → g ds = some outs → tree_law30_vars.go (tblS []) (fun o => o = outs) ds fun _ _ => False) : FOk ct_law30_vars g :=
  fok_of ann_law30_vars Try.f23 _ .nil rfl rfl enter_law30_vars (by decide) fun ds outs hw hg => by rw [code_law30_vars  _ rfl]; exact h ds outs hw hg

def ct_cells_Deref : Ct := ⟨26, [.val (.st 26), .val (.st 36)], [(.st 36, false)], []⟩
theorem enter_cells_Deref (args : Array Value) (w : World) : (callFunc ct_cells_Deref.f args).run Try.prog w = .ok (.enter ct_cells_Deref.f args) w := by kernel_rfl
def ann_cells_Deref : Ann := ⟨[0, 1, 2, 3, 4, 8, 12, 13, 14, 34], [(4, ⟨[(13, .int .i64, false)], [3], [14, 15, 16, 17, 18, 19, 20, 21, 22, 23, 24, 25, 26, 27, 28, 29, 30, 31, 32, 33, 34, 35, 36, 37, 38, 39, 40, 41], []⟩)]⟩
def tree_cells_Deref : Tree := (.need [(.ok 0 [(.tok 0), (.tok 1)])] (.br (.not (.call 0 0 [(.tok 0), (.tok 1)])) (.leaf [(.lit (.a [(.i 0), (.i 0)]))]) (.loop 4 2 [(.lit (.i 0)), (.tok 1)] (.br (.lt (.tok 2) (.len (.fld (.tok 0) 0))) (.need [(.imp (.not (.or (.not (.eq (.fld (.tok 3) 0) (.lit (.i 0)))) (.lt (.call 1 0 [(.tok 0), (.fld (.tok 3) 1)]) (.lit (.i 0))))) (.le (.lit (.i 0)) (.fld (.tok 3) 1))), (.imp (.not (.or (.not (.eq (.fld (.tok 3) 0) (.lit (.i 0)))) (.lt (.call 1 0 [(.tok 0), (.fld (.tok 3) 1)]) (.lit (.i 0))))) (.lt (.fld (.tok 3) 1) (.len (.fld (.tok 0) 0)))), (.imp (.not (.or (.not (.eq (.fld (.tok 3) 0) (.lit (.i 0)))) (.lt (.call 1 0 [(.tok 0), (.fld (.tok 3) 1)]) (.lit (.i 0))))) (.le (.lit (.i 0)) (.fld (.tok 3) 1))), (.imp (.not (.or (.not (.eq (.fld (.tok 3) 0) (.lit (.i 0)))) (.lt (.call 1 0 [(.tok 0), (.fld (.tok 3) 1)]) (.lit (.i 0))))) (.lt (.fld (.tok 3) 1) (.len (.fld (.tok 0) 0)))), (.imp (.not (.not (.eq (.fld (.tok 3) 0) (.lit (.i 0))))) (.ok 1 [(.tok 0), (.fld (.tok 3) 1)]))] (.br (.or (.or (.not (.eq (.fld (.tok 3) 0) (.lit (.i 0)))) (.lt (.call 1 0 [(.tok 0), (.fld (.tok 3) 1)]) (.lit (.i 0)))) (.eq (.get (.fld (.tok 0) 0) (.fld (.tok 3) 1)) (.tok 3))) (.leaf [(.tok 3)]) (.need [(.le (.lit (.i 0)) (.fld (.tok 3) 1)), (.lt (.fld (.tok 3) 1) (.len (.fld (.tok 0) 0)))] (.need [(.rng .i64 (.add (.tok 2) (.lit (.i 1))))] (.back 4 [(.add (.tok 2) (.lit (.i 1))), (.get (.fld (.tok 0) 0) (.fld (.tok 3) 1))]))))) (.leaf [(.tok 3)])))))
set_option maxRecDepth 100000 in
theorem code_cells_Deref (g0 g1 : List D → Option (List D)) : ∀ cd, Try.f26.body = some cd → treeOf Try.prog [(ct_cells_ValidCell, g0), (ct_cells_tag, g1)] ann_cells_Deref ct_cells_Deref Try.f26 cd = tree_cells_Deref := by
  intro cd h
  injection h with h
  subst h
  kernel_rfl
theorem fok_cells_Deref {g0 g1 : List D → Option (List D)} {g : List D → Option (List D)} (h0 : FOk ct_cells_ValidCell g0) (h1 : FOk ct_cells_tag g1) (h : ∀ ds outs, WfA ct_cells_Deref.ars ds → g ds = some outs → tree_cells_Deref.go (tblS [(ct_cells_ValidCell, g0), (ct_cells_tag, g1)]) (fun o => o = outs) ds fun _ _ => False) : FOk ct_cells_Deref g :=
  fok_of ann_cells_Deref Try.f26 _ (.cons h0 (.cons h1 .nil)) rfl rfl enter_cells_Deref (by decide) fun ds outs hw hg => by rw [code_cells_Deref g0 g1 _ rfl]; exact h ds outs hw hg

def ct_term_Int : Ct := ⟨66, [.val (.int .i64)], [(.st 42, false)], []⟩
theorem enter_term_Int (args : Array Value) (w : World) : (callFunc ct_term_Int.f args).run Try.prog w = .ok (.enter ct_term_Int.f args) w := by kernel_rfl
def ann_term_Int : Ann := ⟨[0, 2], []⟩
def tree_term_Int : Tree := (.leaf [(.set (.set (.lit (.a [(.i 0), (.i 0), (.s ⟨#[]⟩), (.r [])])) 0 (.lit (.i 1))) 1 (.tok 0))])
set_option maxRecDepth 100000 in
theorem code_term_Int : ∀ cd, Try.f66.body = some cd → treeOf Try.prog [] ann_term_Int ct_term_Int Try.f66 cd = tree_term_Int := by
  intro cd h
  injection h with h
  subst h
  kernel_rfl
theorem fok_term_Int {g : List D → Option (List D)}  (h : ∀ ds outs, WfA ct_term_Int.ars ds → g ds = some outs → tree_term_Int.go (tblS []) (fun o => o = outs) ds fun _ _ => False) : FOk ct_term_Int g :=
  fok_of ann_term_Int Try.f66 _ .nil rfl rfl enter_term_Int (by decide) fun ds outs hw hg => by rw [code_term_Int  _ rfl]; exact h ds outs hw hg

def ct_term_Clone_1 : Ct := ⟨114, [.val (.st 42)], [(.st 42, false)], []⟩
theorem enter_term_Clone_1 (args : Array Value) (w : World) : (callFunc ct_term_Clone_1.f args).run Try.prog w = .ok (.enter ct_term_Clone_1.f args) w := by kernel_rfl
def ann_term_Clone_1 : Ann := ⟨[0, 1, 2], []⟩
def tree_term_Clone_1 : Tree := (.leaf [(.tok 0)])
set_option maxRecDepth 100000 in
theorem code_term_Clone_1 : ∀ cd, Try.f114.body = some cd → treeOf Try.prog [] ann_term_Clone_1 ct_term_Clone_1 Try.f114 cd = tree_term_Clone_1 := by
  intro cd h
  injection h with h
  subst h
  kernel_rfl
theorem fok_term_Clone_1 {g : List D → Option (List D)}  (h : ∀ ds outs, WfA ct_term_Clone_1.ars ds → g ds = some outs → tree_term_Clone_1.go (tblS []) (fun o => o = outs) ds fun _ _ => False) : FOk ct_term_Clone_1 g :=
  fok_of ann_term_Clone_1 Try.f114 _ .nil rfl rfl enter_term_Clone_1 (by decide) fun ds outs hw hg => by rw [code_term_Clone_1  _ rfl]; exact h ds outs hw hg

def ct_term_apply : Ct := ⟨113, [.val (.st 42), .fn 114 []], [(.st 42, false)], []⟩
theorem enter_term_apply (args : Array Value) (w : World) : (callFunc ct_term_apply.f args).run Try.prog w = .ok (.enter ct_term_apply.f args) w := by kernel_rfl
def ann_term_apply : Ann := ⟨[0, 1, 2, 4, 5, 7, 10, 22, 23, 24, 25], [(5, ⟨[(24, .int .i64, false)], [5], [25, 26, 27, 7, 28, 29, 30, 31, 32, 33, 34, 35, 36], []⟩)]⟩
def tree_term_apply : Tree := (.br (.eq (.fld (.tok 0) 0) (.lit (.i 0))) (.need [(.ok 0 [(.tok 0)])] (.leaf [(.call 0 0 [(.tok 0)])])) (.loop 5 1 [(.lit (.i 0)), (.set (.set (.set (.lit (.a [(.i 0), (.i 0), (.s ⟨#[]⟩), (.r [])])) 0 (.fld (.tok 0) 0)) 1 (.fld (.tok 0) 1)) 2 (.fld (.tok 0) 2))] (.br (.lt (.tok 1) (.len (.fld (.tok 0) 3))) (.need [(.le (.lit (.i 0)) (.tok 1)), (.lt (.tok 1) (.len (.fld (.tok 0) 3)))] (.need [(.ok 1 [(.get (.fld (.tok 0) 3) (.tok 1))]), (.le (.add (.len (.fld (.tok 2) 3)) (.lit (.i 1))) (.lit (.i 2513169434843)))] (.need [(.rng .i64 (.add (.tok 1) (.lit (.i 1))))] (.back 5 [(.add (.tok 1) (.lit (.i 1))), (.set (.tok 2) 3 (.app (.fld (.tok 2) 3) (.row [(.call 1 0 [(.get (.fld (.tok 0) 3) (.tok 1))])])))])))) (.leaf [(.tok 2)]))))
set_option maxRecDepth 100000 in
theorem code_term_apply (g0 g1 : List D → Option (List D)) : ∀ cd, Try.f113.body = some cd → treeOf Try.prog [(ct_term_Clone_1, g0), (ct_term_apply, g1)] ann_term_apply ct_term_apply Try.f113 cd = tree_term_apply := by
  intro cd h
  injection h with h
  subst h
  kernel_rfl
theorem fok_term_apply {g0 g1 : List D → Option (List D)} {g : List D → Option (List D)} (h0 : FOk ct_term_Clone_1 g0) (h1 : FOk ct_term_apply g1) (h : ∀ ds outs, WfA ct_term_apply.ars ds → g ds = some outs → tree_term_apply.go (tblS [(ct_term_Clone_1, g0), (ct_term_apply, g1)]) (fun o => o = outs) ds fun _ _ => False) : FOk ct_term_apply g :=
  fok_of ann_term_apply Try.f113 _ (.cons h0 (.cons h1 .nil)) rfl rfl enter_term_apply (by decide) fun ds outs hw hg => by rw [code_term_apply g0 g1 _ rfl]; exact h ds outs hw hg

def ct_term_Clone : Ct := ⟨105, [.val (.st 42)], [(.st 42, false)], []⟩
theorem enter_term_Clone (args : Array Value) (w : World) : (callFunc ct_term_Clone.f args).run Try.prog w = .ok (.enter ct_term_Clone.f args) w := by kernel_rfl
def ann_term_Clone : Ann := ⟨[0, 1, 2, 5], []⟩
def tree_term_Clone : Tree := (.need [(.ok 0 [(.tok 0)])] (.br (.not (.call 0 0 [(.tok 0)])) (.leaf [(.lit (.a [(.i 0), (.i 0), (.s ⟨#[]⟩), (.r [])]))]) (.need [(.ok 1 [(.tok 0)])] (.leaf [(.call 1 0 [(.tok 0)])]))))
set_option maxRecDepth 100000 in
theorem code_term_Clone (g0 g1 : List D → Option (List D)) : ∀ cd, Try.f105.body = some cd → treeOf Try.prog [(ct_term_Valid, g0), (ct_term_apply, g1)] ann_term_Clone ct_term_Clone Try.f105 cd = tree_term_Clone := by
  intro cd h
  injection h with h
  subst h
  kernel_rfl
theorem fok_term_Clone {g0 g1 : List D → Option (List D)} {g : List D → Option (List D)} (h0 : FOk ct_term_Valid g0) (h1 : FOk ct_term_apply g1) (h : ∀ ds outs, WfA ct_term_Clone.ars ds → g ds = some outs → tree_term_Clone.go (tblS [(ct_term_Valid, g0), (ct_term_apply, g1)]) (fun o => o = outs) ds fun _ _ => False) : FOk ct_term_Clone g :=
  fok_of ann_term_Clone Try.f105 _ (.cons h0 (.cons h1 .nil)) rfl rfl enter_term_Clone (by decide) fun ds outs hw hg => by rw [code_term_Clone g0 g1 _ rfl]; exact h ds outs hw hg

def ct_term_Atom : Ct := ⟨68, [.val (.str)], [(.st 42, false)], []⟩
theorem enter_term_Atom (args : Array Value) (w : World) : (callFunc ct_term_Atom.f args).run Try.prog w = .ok (.enter ct_term_Atom.f args) w := by kernel_rfl
def ann_term_Atom : Ann := ⟨[0, 2], []⟩
def tree_term_Atom : Tree := (.need [(.ok 0 [(.set (.set (.lit (.a [(.i 0), (.i 0), (.s ⟨#[]⟩), (.r [])])) 0 (.lit (.i 2))) 2 (.tok 0))])] (.leaf [(.call 0 0 [(.set (.set (.lit (.a [(.i 0), (.i 0), (.s ⟨#[]⟩), (.r [])])) 0 (.lit (.i 2))) 2 (.tok 0))])]))
set_option maxRecDepth 100000 in
theorem code_term_Atom (g0 : List D → Option (List D)) : ∀ cd, Try.f68.body = some cd → treeOf Try.prog [(ct_term_Clone, g0)] ann_term_Atom ct_term_Atom Try.f68 cd = tree_term_Atom := by
  intro cd h
  injection h with h
  subst h
  kernel_rfl
theorem fok_term_Atom {g0 : List D → Option (List D)} {g : List D → Option (List D)} (h0 : FOk ct_term_Clone g0) (h : ∀ ds outs, WfA ct_term_Atom.ars ds → g ds = some outs → tree_term_Atom.go (tblS [(ct_term_Clone, g0)]) (fun o => o = outs) ds fun _ _ => False) : FOk ct_term_Atom g :=
  fok_of ann_term_Atom Try.f68 _ (.cons h0 .nil) rfl rfl enter_term_Atom (by decide) fun ds outs hw hg => by rw [code_term_Atom g0 _ rfl]; exact h ds outs hw hg

def ct_cells_Get_1 : Ct := ⟨65, [.val (.st 36), .ref (.int .i64), .rref (.st 26), .cell 97 4], [(.st 42, false)], [(.cell 3, .fn 65 [1, 2, 3])]⟩
theorem enter_cells_Get_1 (args : Array Value) (w : World) : (callFunc ct_cells_Get_1.f args).run Try.prog w = .ok (.enter ct_cells_Get_1.f args) w := by kernel_rfl
def ann_cells_Get_1 : Ann := ⟨[0, 1, 2, 3, 4, 5, 6, 7, 8, 12, 17, 24, 43, 99], [(13, ⟨[(8, .int .i64, false)], [1, 7], [83, 84, 85, 86, 87, 88, 89, 90, 91, 92, 93, 94, 95, 96, 97, 98, 99, 102, 103, 104, 105, 106, 107, 108, 109, 110, 111, 112, 113, 100, 101], []⟩)]⟩
def tree_cells_Get_1 : Tree := (.need [(.rng .i64 (.sub (.tok 1) (.lit (.i 1))))] (.br (.lt (.sub (.tok 1) (.lit (.i 1))) (.lit (.i 0))) (.leaf [(.lit (.a [(.i 0), (.i 0), (.s ⟨#[]⟩), (.r [])])), (.sub (.tok 1) (.lit (.i 1)))]) (.need [(.ok 1 [(.tok 2), (.tok 0)])] (.br (.eq (.fld (.call 1 0 [(.tok 2), (.tok 0)]) 0) (.lit (.i 1))) (.need [(.ok 2 [(.fld (.call 1 0 [(.tok 2), (.tok 0)]) 1)])] (.leaf [(.call 2 0 [(.fld (.call 1 0 [(.tok 2), (.tok 0)]) 1)]), (.sub (.tok 1) (.lit (.i 1)))])) (.need [(.imp (.eq (.fld (.call 1 0 [(.tok 2), (.tok 0)]) 0) (.lit (.i 2))) (.ok 3 [(.tok 2), (.fld (.call 1 0 [(.tok 2), (.tok 0)]) 1)]))] (.br (.and (.eq (.fld (.call 1 0 [(.tok 2), (.tok 0)]) 0) (.lit (.i 2))) (.le (.lit (.i 0)) (.call 3 0 [(.tok 2), (.fld (.call 1 0 [(.tok 2), (.tok 0)]) 1)]))) (.need [(.le (.lit (.i 0)) (.fld (.call 1 0 [(.tok 2), (.tok 0)]) 1)), (.lt (.fld (.call 1 0 [(.tok 2), (.tok 0)]) 1) (.len (.fld (.tok 2) 1))), (.ok 4 [(.fld (.get (.fld (.tok 2) 1) (.fld (.call 1 0 [(.tok 2), (.tok 0)]) 1)) 0)])] (.leaf [(.call 4 0 [(.fld (.get (.fld (.tok 2) 1) (.fld (.call 1 0 [(.tok 2), (.tok 0)]) 1)) 0)]), (.sub (.tok 1) (.lit (.i 1)))])) (.need [(.imp (.and (.eq (.fld (.call 1 0 [(.tok 2), (.tok 0)]) 0) (.lit (.i 3))) (.eq (.call 5 0 [(.tok 2), (.fld (.call 1 0 [(.tok 2), (.tok 0)]) 1)]) (.lit (.i 4)))) (.ok 3 [(.tok 2), (.fld (.get (.fld (.tok 2) 0) (.fld (.call 1 0 [(.tok 2), (.tok 0)]) 1)) 1)])), (.imp (.and (.eq (.fld (.call 1 0 [(.tok 2), (.tok 0)]) 0) (.lit (.i 3))) (.eq (.call 5 0 [(.tok 2), (.fld (.call 1 0 [(.tok 2), (.tok 0)]) 1)]) (.lit (.i 4)))) (.le (.lit (.i 0)) (.fld (.call 1 0 [(.tok 2), (.tok 0)]) 1))), (.imp (.and (.eq (.fld (.call 1 0 [(.tok 2), (.tok 0)]) 0) (.lit (.i 3))) (.eq (.call 5 0 [(.tok 2), (.fld (.call 1 0 [(.tok 2), (.tok 0)]) 1)]) (.lit (.i 4)))) (.lt (.fld (.call 1 0 [(.tok 2), (.tok 0)]) 1) (.len (.fld (.tok 2) 0)))), (.imp (.eq (.fld (.call 1 0 [(.tok 2), (.tok 0)]) 0) (.lit (.i 3))) (.ok 5 [(.tok 2), (.fld (.call 1 0 [(.tok 2), (.tok 0)]) 1)]))] (.br (.and (.and (.eq (.fld (.call 1 0 [(.tok 2), (.tok 0)]) 0) (.lit (.i 3))) (.eq (.call 5 0 [(.tok 2), (.fld (.call 1 0 [(.tok 2), (.tok 0)]) 1)]) (.lit (.i 4)))) (.le (.lit (.i 0)) (.call 3 0 [(.tok 2), (.fld (.get (.fld (.tok 2) 0) (.fld (.call 1 0 [(.tok 2), (.tok 0)]) 1)) 1)]))) (.need [(.le (.lit (.i 0)) (.fld (.get (.fld (.tok 2) 0) (.fld (.call 1 0 [(.tok 2), (.tok 0)]) 1)) 1)), (.lt (.fld (.get (.fld (.tok 2) 0) (.fld (.call 1 0 [(.tok 2), (.tok 0)]) 1)) 1) (.len (.fld (.tok 2) 1))), (.le (.lit (.i 0)) (.fld (.call 1 0 [(.tok 2), (.tok 0)]) 1)), (.lt (.fld (.call 1 0 [(.tok 2), (.tok 0)]) 1) (.len (.fld (.tok 2) 0)))] (.need [(.rng .i64 (.add (.fld (.call 1 0 [(.tok 2), (.tok 0)]) 1) (.lit (.i 1))))] (.loop 13 3 [(.add (.fld (.call 1 0 [(.tok 2), (.tok 0)]) 1) (.lit (.i 1))), (.sub (.tok 1) (.lit (.i 1))), (.set (.set (.lit (.a [(.i 0), (.i 0), (.s ⟨#[]⟩), (.r [])])) 0 (.lit (.i 3))) 2 (.fld (.get (.fld (.tok 2) 1) (.fld (.get (.fld (.tok 2) 0) (.fld (.call 1 0 [(.tok 2), (.tok 0)]) 1)) 1)) 0))] (.need [(.rng .i64 (.add (.fld (.call 1 0 [(.tok 2), (.tok 0)]) 1) (.fld (.get (.fld (.tok 2) 1) (.fld (.get (.fld (.tok 2) 0) (.fld (.call 1 0 [(.tok 2), (.tok 0)]) 1)) 1)) 1))), (.imp (.le (.tok 3) (.add (.fld (.call 1 0 [(.tok 2), (.tok 0)]) 1) (.fld (.get (.fld (.tok 2) 1) (.fld (.get (.fld (.tok 2) 0) (.fld (.call 1 0 [(.tok 2), (.tok 0)]) 1)) 1)) 1))) (.ok 5 [(.tok 2), (.tok 3)]))] (.br (.and (.and (.le (.tok 3) (.add (.fld (.call 1 0 [(.tok 2), (.tok 0)]) 1) (.fld (.get (.fld (.tok 2) 1) (.fld (.get (.fld (.tok 2) 0) (.fld (.call 1 0 [(.tok 2), (.tok 0)]) 1)) 1)) 1))) (.le (.lit (.i 0)) (.call 5 0 [(.tok 2), (.tok 3)]))) (.le (.lit (.i 0)) (.tok 4))) (.need [(.le (.lit (.i 0)) (.tok 3)), (.lt (.tok 3) (.len (.fld (.tok 2) 0))), (.ok 0 [(.get (.fld (.tok 2) 0) (.tok 3)), (.tok 4), (.tok 2)]), (.le (.add (.len (.fld (.tok 5) 3)) (.lit (.i 1))) (.lit (.i 2513169434843)))] (.need [(.rng .i64 (.add (.tok 3) (.lit (.i 1))))] (.back 13 [(.add (.tok 3) (.lit (.i 1))), (.call 0 1 [(.get (.fld (.tok 2) 0) (.tok 3)), (.tok 4), (.tok 2)]), (.set (.tok 5) 3 (.app (.fld (.tok 5) 3) (.row [(.call 0 0 [(.get (.fld (.tok 2) 0) (.tok 3)), (.tok 4), (.tok 2)])])))]))) (.leaf [(.tok 5), (.tok 4)])))))) (.leaf [(.set (.set (.lit (.a [(.i 0), (.i 0), (.s ⟨#[]⟩), (.r [])])) 0 (.lit (.i 0))) 1 (.fld (.call 1 0 [(.tok 2), (.tok 0)]) 1)), (.sub (.tok 1) (.lit (.i 1)))])))))))))
set_option maxRecDepth 100000 in
theorem code_cells_Get_1 (g0 g1 g2 g3 g4 g5 : List D → Option (List D)) : ∀ cd, Try.f65.body = some cd → treeOf Try.prog [(ct_cells_Get_1, g0), (ct_cells_Deref, g1), (ct_term_Int, g2), (ct_cells_arity, g3), (ct_term_Atom, g4), (ct_cells_tag, g5)] ann_cells_Get_1 ct_cells_Get_1 Try.f65 cd = tree_cells_Get_1 := by
  intro cd h
  injection h with h
  subst h
  kernel_rfl
theorem fok_cells_Get_1 {g0 g1 g2 g3 g4 g5 : List D → Option (List D)} {g : List D → Option (List D)} (h0 : FOk ct_cells_Get_1 g0) (h1 : FOk ct_cells_Deref g1) (h2 : FOk ct_term_Int g2) (h3 : FOk ct_cells_arity g3) (h4 : FOk ct_term_Atom g4) (h5 : FOk ct_cells_tag g5) (h : ∀ ds outs, WfA ct_cells_Get_1.ars ds → g ds = some outs → tree_cells_Get_1.go (tblS [(ct_cells_Get_1, g0), (ct_cells_Deref, g1), (ct_term_Int, g2), (ct_cells_arity, g3), (ct_term_Atom, g4), (ct_cells_tag, g5)]) (fun o => o = outs) ds fun _ _ => False) : FOk ct_cells_Get_1 g :=
  fok_of ann_cells_Get_1 Try.f65 _ (.cons h0 (.cons h1 (.cons h2 (.cons h3 (.cons h4 (.cons h5 .nil)))))) rfl rfl enter_cells_Get_1 (by decide) fun ds outs hw hg => by rw [code_cells_Get_1 g0 g1 g2 g3 g4 g5 _ rfl]; exact h ds outs hw hg

def ct_cells_Get : Ct := ⟨24, [.val (.st 26), .val (.st 36)], [(.st 42, false), (.int .i64, false)], []⟩
theorem enter_cells_Get (args : Array Value) (w : World) : (callFunc ct_cells_Get.f args).run Try.prog w = .ok (.enter ct_cells_Get.f args) w := by kernel_rfl
def ann_cells_Get : Ann := ⟨[0, 1, 2, 3, 4, 5, 6, 7, 11, 18], []⟩
def tree_cells_Get : Tree := (.need [(.ok 1 [(.tok 0), (.tok 1)])] (.br (.not (.call 1 0 [(.tok 0), (.tok 1)])) (.leaf [(.lit (.a [(.i 0), (.i 0), (.s ⟨#[]⟩), (.r [])])), (.lit (.i 1))]) (.need [(.ok 0 [(.tok 1), (.lit (.i 2000)), (.tok 0)])] (.br (.lt (.call 0 1 [(.tok 1), (.lit (.i 2000)), (.tok 0)]) (.lit (.i 0))) (.leaf [(.lit (.a [(.i 0), (.i 0), (.s ⟨#[]⟩), (.r [])])), (.lit (.i 2))]) (.leaf [(.call 0 0 [(.tok 1), (.lit (.i 2000)), (.tok 0)]), (.lit (.i 0))])))))
set_option maxRecDepth 100000 in
theorem code_cells_Get (g0 g1 : List D → Option (List D)) : ∀ cd, Try.f24.body = some cd → treeOf Try.prog [(ct_cells_Get_1, g0), (ct_cells_ValidCell, g1)] ann_cells_Get ct_cells_Get Try.f24 cd = tree_cells_Get := by
  intro cd h
  injection h with h
  subst h
  kernel_rfl
theorem fok_cells_Get {g0 g1 : List D → Option (List D)} {g : List D → Option (List D)} (h0 : FOk ct_cells_Get_1 g0) (h1 : FOk ct_cells_ValidCell g1) (h : ∀ ds outs, WfA ct_cells_Get.ars ds → g ds = some outs → tree_cells_Get.go (tblS [(ct_cells_Get_1, g0), (ct_cells_ValidCell, g1)]) (fun o => o = outs) ds fun _ _ => False) : FOk ct_cells_Get g :=
  fok_of ann_cells_Get Try.f24 _ (.cons h0 (.cons h1 .nil)) rfl rfl enter_cells_Get (by decide) fun ds outs hw hg => by rw [code_cells_Get g0 g1 _ rfl]; exact h ds outs hw hg

def ct_ref03_Count : Ct := ⟨74, [.val (.st 42), .val (.int .i64)], [(.int .i64, false)], []⟩
theorem enter_ref03_Count (args : Array Value) (w : World) : (callFunc ct_ref03_Count.f args).run Try.prog w = .ok (.enter ct_ref03_Count.f args) w := by kernel_rfl
def ann_ref03_Count : Ann := ⟨[0, 1, 2, 4, 5, 6, 16], [(3, ⟨[(5, .int .i64, false), (6, .int .i64, false)], [], [7, 8, 9, 10, 11, 12, 13, 14, 15, 16, 19, 20, 21, 22, 23, 24, 25, 26, 27, 28, 29, 17, 18], []⟩)]⟩
def tree_ref03_Count : Tree := (.loop 3 2 [(.lit (.i 1)), (.lit (.i 0))] (.br (.and (.lt (.tok 3) (.len (.fld (.tok 0) 3))) (.lt (.tok 2) (.tok 1))) (.need [(.le (.lit (.i 0)) (.tok 3)), (.lt (.tok 3) (.len (.fld (.tok 0) 3))), (.rng .i64 (.sub (.tok 1) (.tok 2))), (.ok 0 [(.get (.fld (.tok 0) 3) (.tok 3)), (.sub (.tok 1) (.tok 2))]), (.rng .i64 (.add (.tok 2) (.call 0 0 [(.get (.fld (.tok 0) 3) (.tok 3)), (.sub (.tok 1) (.tok 2))])))] (.need [(.rng .i64 (.add (.tok 3) (.lit (.i 1))))] (.back 3 [(.add (.tok 2) (.call 0 0 [(.get (.fld (.tok 0) 3) (.tok 3)), (.sub (.tok 1) (.tok 2))])), (.add (.tok 3) (.lit (.i 1)))]))) (.leaf [(.tok 2)])))
set_option maxRecDepth 100000 in
theorem code_ref03_Count (g0 : List D → Option (List D)) : ∀ cd, Try.f74.body = some cd → treeOf Try.prog [(ct_ref03_Count, g0)] ann_ref03_Count ct_ref03_Count Try.f74 cd = tree_ref03_Count := by
  intro cd h
  injection h with h
  subst h
  kernel_rfl
theorem fok_ref03_Count {g0 : List D → Option (List D)} {g : List D → Option (List D)} (h0 : FOk ct_ref03_Count g0) (h : ∀ ds outs, WfA ct_ref03_Count.ars ds → g ds = some outs → tree_ref03_Count.go (tblS [(ct_ref03_Count, g0)]) (fun o => o = outs) ds fun _ _ => False) : FOk ct_ref03_Count g :=
  fok_of ann_ref03_Count Try.f74 _ (.cons h0 .nil) rfl rfl enter_ref03_Count (by decide) fun ds outs hw hg => by rw [code_ref03_Count g0 _ rfl]; exact h ds outs hw hg

def ct_ref03_Size : Ct := ⟨30, [.val (.st 42)], [(.int .i64, false)], []⟩
theorem enter_ref03_Size (args : Array Value) (w : World) : (callFunc ct_ref03_Size.f args).run Try.prog w = .ok (.enter ct_ref03_Size.f args) w := by kernel_rfl
def ann_ref03_Size : Ann := ⟨[0, 1, 2], []⟩
def tree_ref03_Size : Tree := (.need [(.ok 0 [(.tok 0), (.lit (.i 2001))])] (.leaf [(.call 0 0 [(.tok 0), (.lit (.i 2001))])]))
set_option maxRecDepth 100000 in
theorem code_ref03_Size (g0 : List D → Option (List D)) : ∀ cd, Try.f30.body = some cd → treeOf Try.prog [(ct_ref03_Count, g0)] ann_ref03_Size ct_ref03_Size Try.f30 cd = tree_ref03_Size := by
  intro cd h
  injection h with h
  subst h
  kernel_rfl
theorem fok_ref03_Size {g0 : List D → Option (List D)} {g : List D → Option (List D)} (h0 : FOk ct_ref03_Count g0) (h : ∀ ds outs, WfA ct_ref03_Size.ars ds → g ds = some outs → tree_ref03_Size.go (tblS [(ct_ref03_Count, g0)]) (fun o => o = outs) ds fun _ _ => False) : FOk ct_ref03_Size g :=
  fok_of ann_ref03_Size Try.f30 _ (.cons h0 .nil) rfl rfl enter_ref03_Size (by decide) fun ds outs hw hg => by rw [code_ref03_Size g0 _ rfl]; exact h ds outs hw hg

def ct_ref03_node : Ct := ⟨106, [.val (.st 42)], [(.bool, false)], []⟩
theorem enter_ref03_node (args : Array Value) (w : World) : (callFunc ct_ref03_node.f args).run Try.prog w = .ok (.enter ct_ref03_node.f args) w := by kernel_rfl
def ann_ref03_node : Ann := ⟨[0, 1, 2, 4, 5, 26, 37, 54], []⟩
def tree_ref03_node : Tree := (.br (.eq (.fld (.tok 0) 0) (.lit (.i 0))) (.leaf [(.and (.and (.and (.le (.lit (.i 0)) (.fld (.tok 0) 1)) (.le (.fld (.tok 0) 1) (.lit (.i 1099511627776)))) (.eq (.fld (.tok 0) 2) (.lit (.s ⟨#[]⟩)))) (.eq (.len (.fld (.tok 0) 3)) (.lit (.i 0))))]) (.br (.eq (.fld (.tok 0) 0) (.lit (.i 1))) (.leaf [(.and (.eq (.fld (.tok 0) 2) (.lit (.s ⟨#[]⟩))) (.eq (.len (.fld (.tok 0) 3)) (.lit (.i 0))))]) (.br (.eq (.fld (.tok 0) 0) (.lit (.i 2))) (.leaf [(.and (.and (.eq (.fld (.tok 0) 1) (.lit (.i 0))) (.le (.slen (.fld (.tok 0) 2)) (.lit (.i 100)))) (.eq (.len (.fld (.tok 0) 3)) (.lit (.i 0))))]) (.br (.eq (.fld (.tok 0) 0) (.lit (.i 3))) (.leaf [(.and (.and (.and (.eq (.fld (.tok 0) 1) (.lit (.i 0))) (.le (.slen (.fld (.tok 0) 2)) (.lit (.i 100)))) (.le (.lit (.i 1)) (.len (.fld (.tok 0) 3)))) (.le (.len (.fld (.tok 0) 3)) (.lit (.i 8))))]) (.leaf [(.lit (.b .false))])))))
set_option maxRecDepth 100000 in
theorem code_ref03_node : ∀ cd, Try.f106.body = some cd → treeOf Try.prog [] ann_ref03_node ct_ref03_node Try.f106 cd = tree_ref03_node := by
  intro cd h
  injection h with h
  subst h
  kernel_rfl
theorem fok_ref03_node {g : List D → Option (List D)}  (h : ∀ ds outs, WfA ct_ref03_node.ars ds → g ds = some outs → tree_ref03_node.go (tblS []) (fun o => o = outs) ds fun _ _ => False) : FOk ct_ref03_node g :=
  fok_of ann_ref03_node Try.f106 _ .nil rfl rfl enter_ref03_node (by decide) fun ds outs hw hg => by rw [code_ref03_node  _ rfl]; exact h ds outs hw hg

def ct_ref03_nodes : Ct := ⟨73, [.val (.st 42)], [(.bool, false)], []⟩
theorem enter_ref03_nodes (args : Array Value) (w : World) : (callFunc ct_ref03_nodes.f args).run Try.prog w = .ok (.enter ct_ref03_nodes.f args) w := by kernel_rfl
def ann_ref03_nodes : Ann := ⟨[0, 1, 2, 3, 6, 11, 20], [(4, ⟨[(2, .bool, false), (3, .int .i64, false)], [], [7, 8, 9, 10, 11, 14, 15, 16, 17, 18, 19, 20, 12, 13], []⟩)]⟩
def tree_ref03_nodes : Tree := (.need [(.ok 0 [(.tok 0)])] (.br (.not (.call 0 0 [(.tok 0)])) (.leaf [(.lit (.b .false))]) (.loop 4 1 [(.lit (.b .false)), (.lit (.i 0))] (.br (.lt (.tok 2) (.len (.fld (.tok 0) 3))) (.need [(.le (.lit (.i 0)) (.tok 2)), (.lt (.tok 2) (.len (.fld (.tok 0) 3))), (.ok 1 [(.get (.fld (.tok 0) 3) (.tok 2))])] (.br (.not (.call 1 0 [(.get (.fld (.tok 0) 3) (.tok 2))])) (.leaf [(.lit (.b .false))]) (.need [(.rng .i64 (.add (.tok 2) (.lit (.i 1))))] (.back 4 [(.tok 1), (.add (.tok 2) (.lit (.i 1)))])))) (.leaf [(.lit (.b .true))])))))
set_option maxRecDepth 100000 in
theorem code_ref03_nodes (g0 g1 : List D → Option (List D)) : ∀ cd, Try.f73.body = some cd → treeOf Try.prog [(ct_ref03_node, g0), (ct_ref03_nodes, g1)] ann_ref03_nodes ct_ref03_nodes Try.f73 cd = tree_ref03_nodes := by
  intro cd h
  injection h with h
  subst h
  kernel_rfl
theorem fok_ref03_nodes {g0 g1 : List D → Option (List D)} {g : List D → Option (List D)} (h0 : FOk ct_ref03_node g0) (h1 : FOk ct_ref03_nodes g1) (h : ∀ ds outs, WfA ct_ref03_nodes.ars ds → g ds = some outs → tree_ref03_nodes.go (tblS [(ct_ref03_node, g0), (ct_ref03_nodes, g1)]) (fun o => o = outs) ds fun _ _ => False) : FOk ct_ref03_nodes g :=
  fok_of ann_ref03_nodes Try.f73 _ (.cons h0 (.cons h1 .nil)) rfl rfl enter_ref03_nodes (by decide) fun ds outs hw hg => by rw [code_ref03_nodes g0 g1 _ rfl]; exact h ds outs hw hg

def ct_ref03_Valid : Ct := ⟨29, [.val (.st 42)], [(.bool, false)], []⟩
theorem enter_ref03_Valid (args : Array Value) (w : World) : (callFunc ct_ref03_Valid.f args).run Try.prog w = .ok (.enter ct_ref03_Valid.f args) w := by kernel_rfl
def ann_ref03_Valid : Ann := ⟨[0, 1, 2], []⟩
def tree_ref03_Valid : Tree := (.need [(.ok 0 [(.tok 0)]), (.imp (.le (.call 0 0 [(.tok 0)]) (.lit (.i 2000))) (.ok 1 [(.tok 0)]))] (.leaf [(.and (.le (.call 0 0 [(.tok 0)]) (.lit (.i 2000))) (.call 1 0 [(.tok 0)]))]))
set_option maxRecDepth 100000 in
theorem code_ref03_Valid (g0 g1 : List D → Option (List D)) : ∀ cd, Try.f29.body = some cd → treeOf Try.prog [(ct_ref03_Size, g0), (ct_ref03_nodes, g1)] ann_ref03_Valid ct_ref03_Valid Try.f29 cd = tree_ref03_Valid := by
  intro cd h
  injection h with h
  subst h
  kernel_rfl
theorem fok_ref03_Valid {g0 g1 : List D → Option (List D)} {g : List D → Option (List D)} (h0 : FOk ct_ref03_Size g0) (h1 : FOk ct_ref03_nodes g1) (h : ∀ ds outs, WfA ct_ref03_Valid.ars ds → g ds = some outs → tree_ref03_Valid.go (tblS [(ct_ref03_Size, g0), (ct_ref03_nodes, g1)]) (fun o => o = outs) ds fun _ _ => False) : FOk ct_ref03_Valid g :=
  fok_of ann_ref03_Valid Try.f29 _ (.cons h0 (.cons h1 .nil)) rfl rfl enter_ref03_Valid (by decide) fun ds outs hw hg => by rw [code_ref03_Valid g0 g1 _ rfl]; exact h ds outs hw hg

def ct_ref03_identical : Ct := ⟨72, [.val (.st 42), .val (.st 42)], [(.bool, false)], []⟩
theorem enter_ref03_identical (args : Array Value) (w : World) : (callFunc ct_ref03_identical.f args).run Try.prog w = .ok (.enter ct_ref03_identical.f args) w := by kernel_rfl
def ann_ref03_identical : Ann := ⟨[0, 1, 2, 3, 4, 5, 33, 38, 52], [(4, ⟨[(4, .bool, false), (5, .int .i64, false)], [], [34, 35, 36, 37, 38, 41, 42, 43, 44, 45, 46, 47, 48, 49, 50, 51, 52, 39, 40], []⟩)]⟩
def tree_ref03_identical : Tree := (.br (.or (.or (.or (.not (.eq (.fld (.tok 0) 0) (.fld (.tok 1) 0))) (.not (.eq (.fld (.tok 0) 1) (.fld (.tok 1) 1)))) (.not (.eq (.fld (.tok 0) 2) (.fld (.tok 1) 2)))) (.not (.eq (.len (.fld (.tok 0) 3)) (.len (.fld (.tok 1) 3))))) (.leaf [(.lit (.b .false))]) (.loop 4 2 [(.lit (.b .false)), (.lit (.i 0))] (.br (.lt (.tok 3) (.len (.fld (.tok 0) 3))) (.need [(.ok 0 [(.get (.fld (.tok 0) 3) (.tok 3)), (.get (.fld (.tok 1) 3) (.tok 3))]), (.le (.lit (.i 0)) (.tok 3)), (.lt (.tok 3) (.len (.fld (.tok 1) 3))), (.le (.lit (.i 0)) (.tok 3)), (.lt (.tok 3) (.len (.fld (.tok 0) 3)))] (.br (.not (.call 0 0 [(.get (.fld (.tok 0) 3) (.tok 3)), (.get (.fld (.tok 1) 3) (.tok 3))])) (.leaf [(.lit (.b .false))]) (.need [(.rng .i64 (.add (.tok 3) (.lit (.i 1))))] (.back 4 [(.tok 2), (.add (.tok 3) (.lit (.i 1)))])))) (.leaf [(.lit (.b .true))]))))
set_option maxRecDepth 100000 in
theorem code_ref03_identical (g0 : List D → Option (List D)) : ∀ cd, Try.f72.body = some cd → treeOf Try.prog [(ct_ref03_identical, g0)] ann_ref03_identical ct_ref03_identical Try.f72 cd = tree_ref03_identical := by
  intro cd h
  injection h with h
  subst h
  kernel_rfl
theorem fok_ref03_identical {g0 : List D → Option (List D)} {g : List D → Option (List D)} (h0 : FOk ct_ref03_identical g0) (h : ∀ ds outs, WfA ct_ref03_identical.ars ds → g ds = some outs → tree_ref03_identical.go (tblS [(ct_ref03_identical, g0)]) (fun o => o = outs) ds fun _ _ => False) : FOk ct_ref03_identical g :=
  fok_of ann_ref03_identical Try.f72 _ (.cons h0 .nil) rfl rfl enter_ref03_identical (by decide) fun ds outs hw hg => by rw [code_ref03_identical g0 _ rfl]; exact h ds outs hw hg

def ct_ref03_Same : Ct := ⟨28, [.val (.st 42), .val (.st 42)], [(.bool, false)], []⟩
theorem enter_ref03_Same (args : Array Value) (w : World) : (callFunc ct_ref03_Same.f args).run Try.prog w = .ok (.enter ct_ref03_Same.f args) w := by kernel_rfl
def ann_ref03_Same : Ann := ⟨[0, 1, 2, 3, 4], []⟩
def tree_ref03_Same : Tree := (.need [(.ok 0 [(.tok 0)]), (.imp (.call 0 0 [(.tok 0)]) (.ok 0 [(.tok 1)])), (.imp (.and (.call 0 0 [(.tok 0)]) (.call 0 0 [(.tok 1)])) (.ok 1 [(.tok 0), (.tok 1)]))] (.leaf [(.and (.and (.call 0 0 [(.tok 0)]) (.call 0 0 [(.tok 1)])) (.call 1 0 [(.tok 0), (.tok 1)]))]))
set_option maxRecDepth 100000 in
theorem code_ref03_Same (g0 g1 : List D → Option (List D)) : ∀ cd, Try.f28.body = some cd → treeOf Try.prog [(ct_ref03_Valid, g0), (ct_ref03_identical, g1)] ann_ref03_Same ct_ref03_Same Try.f28 cd = tree_ref03_Same := by
  intro cd h
  injection h with h
  subst h
  kernel_rfl
theorem fok_ref03_Same {g0 g1 : List D → Option (List D)} {g : List D → Option (List D)} (h0 : FOk ct_ref03_Valid g0) (h1 : FOk ct_ref03_identical g1) (h : ∀ ds outs, WfA ct_ref03_Same.ars ds → g ds = some outs → tree_ref03_Same.go (tblS [(ct_ref03_Valid, g0), (ct_ref03_identical, g1)]) (fun o => o = outs) ds fun _ _ => False) : FOk ct_ref03_Same g :=
  fok_of ann_ref03_Same Try.f28 _ (.cons h0 (.cons h1 .nil)) rfl rfl enter_ref03_Same (by decide) fun ds outs hw hg => by rw [code_ref03_Same g0 g1 _ rfl]; exact h ds outs hw hg

def ct_law30_awake : Ct := ⟨14, [], [(.bool, false)], []⟩
theorem enter_law30_awake (args : Array Value) (w : World) : (callFunc ct_law30_awake.f args).run Try.prog w = .ok (.enter ct_law30_awake.f args) w := by kernel_rfl
def ann_law30_awake : Ann := ⟨[0, 1, 2, 3, 4, 5, 6, 7, 8, 9, 10, 11, 57, 59, 75], [(6, ⟨[(0, .bool, false), (6, .int .i64, false)], [], [58, 59, 62, 63, 64, 65, 66, 67, 68, 69, 70, 71, 72, 73, 74, 75, 60, 61], []⟩)]⟩
def tree_law30_awake : Tree := (.need [(.ok 0 [(.lit (.i 10))])] (.need [(.ok 1 [(.lit (.i 0))]), (.ok 2 [(.lit (.s ⟨#[103]⟩)), (.row [(.call 1 0 [(.lit (.i 0))])])]), (.ok 1 [(.lit (.i 0))]), (.ok 2 [(.lit (.s ⟨#[102]⟩)), (.row [(.call 2 0 [(.lit (.s ⟨#[103]⟩)), (.row [(.call 1 0 [(.lit (.i 0))])])]), (.call 1 0 [(.lit (.i 0))])])]), (.ok 3 [(.call 0 0 [(.lit (.i 10))]), (.call 2 0 [(.lit (.s ⟨#[102]⟩)), (.row [(.call 2 0 [(.lit (.s ⟨#[103]⟩)), (.row [(.call 1 0 [(.lit (.i 0))])])]), (.call 1 0 [(.lit (.i 0))])])]), (.lit (.r []))])] (.need [(.imp (.not (.or (.or (.not (.eq (.call 0 1 [(.lit (.i 10))]) (.lit (.i 0)))) (.not (.eq (.call 3 2 [(.call 0 0 [(.lit (.i 10))]), (.call 2 0 [(.lit (.s ⟨#[102]⟩)), (.row [(.call 2 0 [(.lit (.s ⟨#[103]⟩)), (.row [(.call 1 0 [(.lit (.i 0))])])]), (.call 1 0 [(.lit (.i 0))])])]), (.lit (.r []))]) (.lit (.i 0))))) (.not (.eq (.call 3 0 [(.call 0 0 [(.lit (.i 10))]), (.call 2 0 [(.lit (.s ⟨#[102]⟩)), (.row [(.call 2 0 [(.lit (.s ⟨#[103]⟩)), (.row [(.call 1 0 [(.lit (.i 0))])])]), (.call 1 0 [(.lit (.i 0))])])]), (.lit (.r []))]) (.call 4 0 [(.lit (.i 0))]))))) (.ok 6 [(.call 3 1 [(.call 0 0 [(.lit (.i 10))]), (.call 2 0 [(.lit (.s ⟨#[102]⟩)), (.row [(.call 2 0 [(.lit (.s ⟨#[103]⟩)), (.row [(.call 1 0 [(.lit (.i 0))])])]), (.call 1 0 [(.lit (.i 0))])])]), (.lit (.r []))]), (.row [(.mk [(.lit (.i 0)), (.call 5 0 [(.lit (.i 4))])])])])), (.imp (.not (.or (.or (.not (.eq (.call 0 1 [(.lit (.i 10))]) (.lit (.i 0)))) (.not (.eq (.call 3 2 [(.call 0 0 [(.lit (.i 10))]), (.call 2 0 [(.lit (.s ⟨#[102]⟩)), (.row [(.call 2 0 [(.lit (.s ⟨#[103]⟩)), (.row [(.call 1 0 [(.lit (.i 0))])])]), (.call 1 0 [(.lit (.i 0))])])]), (.lit (.r []))]) (.lit (.i 0))))) (.not (.eq (.call 3 0 [(.call 0 0 [(.lit (.i 10))]), (.call 2 0 [(.lit (.s ⟨#[102]⟩)), (.row [(.call 2 0 [(.lit (.s ⟨#[103]⟩)), (.row [(.call 1 0 [(.lit (.i 0))])])]), (.call 1 0 [(.lit (.i 0))])])]), (.lit (.r []))]) (.call 4 0 [(.lit (.i 0))]))))) (.ok 5 [(.lit (.i 4))])), (.imp (.not (.or (.not (.eq (.call 0 1 [(.lit (.i 10))]) (.lit (.i 0)))) (.not (.eq (.call 3 2 [(.call 0 0 [(.lit (.i 10))]), (.call 2 0 [(.lit (.s ⟨#[102]⟩)), (.row [(.call 2 0 [(.lit (.s ⟨#[103]⟩)), (.row [(.call 1 0 [(.lit (.i 0))])])]), (.call 1 0 [(.lit (.i 0))])])]), (.lit (.r []))]) (.lit (.i 0)))))) (.ok 4 [(.lit (.i 0))]))] (.br (.or (.or (.or (.or (.or (.not (.eq (.call 0 1 [(.lit (.i 10))]) (.lit (.i 0)))) (.not (.eq (.call 3 2 [(.call 0 0 [(.lit (.i 10))]), (.call 2 0 [(.lit (.s ⟨#[102]⟩)), (.row [(.call 2 0 [(.lit (.s ⟨#[103]⟩)), (.row [(.call 1 0 [(.lit (.i 0))])])]), (.call 1 0 [(.lit (.i 0))])])]), (.lit (.r []))]) (.lit (.i 0))))) (.not (.eq (.call 3 0 [(.call 0 0 [(.lit (.i 10))]), (.call 2 0 [(.lit (.s ⟨#[102]⟩)), (.row [(.call 2 0 [(.lit (.s ⟨#[103]⟩)), (.row [(.call 1 0 [(.lit (.i 0))])])]), (.call 1 0 [(.lit (.i 0))])])]), (.lit (.r []))]) (.call 4 0 [(.lit (.i 0))])))) (.not (.call 6 0 [(.call 3 1 [(.call 0 0 [(.lit (.i 10))]), (.call 2 0 [(.lit (.s ⟨#[102]⟩)), (.row [(.call 2 0 [(.lit (.s ⟨#[103]⟩)), (.row [(.call 1 0 [(.lit (.i 0))])])]), (.call 1 0 [(.lit (.i 0))])])]), (.lit (.r []))]), (.row [(.mk [(.lit (.i 0)), (.call 5 0 [(.lit (.i 4))])])])]))) (.not (.eq (.len (.fld (.call 3 3 [(.call 0 0 [(.lit (.i 10))]), (.call 2 0 [(.lit (.s ⟨#[102]⟩)), (.row [(.call 2 0 [(.lit (.s ⟨#[103]⟩)), (.row [(.call 1 0 [(.lit (.i 0))])])]), (.call 1 0 [(.lit (.i 0))])])]), (.lit (.r []))]) 0)) (.lit (.i 5))))) (.not (.eq (.len (.fld (.call 3 3 [(.call 0 0 [(.lit (.i 10))]), (.call 2 0 [(.lit (.s ⟨#[102]⟩)), (.row [(.call 2 0 [(.lit (.s ⟨#[103]⟩)), (.row [(.call 1 0 [(.lit (.i 0))])])]), (.call 1 0 [(.lit (.i 0))])])]), (.lit (.r []))]) 1)) (.lit (.i 2))))) (.leaf [(.lit (.b .false))]) (.loop 6 0 [(.lit (.b .false)), (.lit (.i 0))] (.br (.lt (.tok 1) (.lit (.i 5))) (.need [(.le (.lit (.i 0)) (.tok 1)), (.lt (.tok 1) (.lit (.i 5))), (.ok 5 [(.lit (.i 4))]), (.ok 5 [(.lit (.i 4))]), (.ok 5 [(.lit (.i 4))]), (.ok 4 [(.lit (.i 3))]), (.ok 4 [(.lit (.i 3))]), (.le (.lit (.i 0)) (.tok 1)), (.lt (.tok 1) (.len (.fld (.call 3 3 [(.call 0 0 [(.lit (.i 10))]), (.call 2 0 [(.lit (.s ⟨#[102]⟩)), (.row [(.call 2 0 [(.lit (.s ⟨#[103]⟩)), (.row [(.call 1 0 [(.lit (.i 0))])])]), (.call 1 0 [(.lit (.i 0))])])]), (.lit (.r []))]) 0)))] (.br (.not (.eq (.get (.fld (.call 3 3 [(.call 0 0 [(.lit (.i 10))]), (.call 2 0 [(.lit (.s ⟨#[102]⟩)), (.row [(.call 2 0 [(.lit (.s ⟨#[103]⟩)), (.row [(.call 1 0 [(.lit (.i 0))])])]), (.call 1 0 [(.lit (.i 0))])])]), (.lit (.r []))]) 0) (.tok 1)) (.get (.row [(.mk [(.lit (.i 4)), (.lit (.i 0))]), (.call 4 0 [(.lit (.i 3))]), (.call 5 0 [(.lit (.i 4))]), (.mk [(.lit (.i 4)), (.lit (.i 1))]), (.call 5 0 [(.lit (.i 4))])]) (.tok 1)))) (.leaf [(.lit (.b .false))]) (.need [(.rng .i64 (.add (.tok 1) (.lit (.i 1))))] (.back 6 [(.tok 0), (.add (.tok 1) (.lit (.i 1)))])))) (.need [(.ok 1 [(.lit (.i 1))]), (.ok 3 [(.call 3 3 [(.call 0 0 [(.lit (.i 10))]), (.call 2 0 [(.lit (.s ⟨#[102]⟩)), (.row [(.call 2 0 [(.lit (.s ⟨#[103]⟩)), (.row [(.call 1 0 [(.lit (.i 0))])])]), (.call 1 0 [(.lit (.i 0))])])]), (.lit (.r []))]), (.call 1 0 [(.lit (.i 1))]), (.call 3 1 [(.call 0 0 [(.lit (.i 10))]), (.call 2 0 [(.lit (.s ⟨#[102]⟩)), (.row [(.call 2 0 [(.lit (.s ⟨#[103]⟩)), (.row [(.call 1 0 [(.lit (.i 0))])])]), (.call 1 0 [(.lit (.i 0))])])]), (.lit (.r []))])])] (.need [(.ok 7 [(.call 3 3 [(.call 3 3 [(.call 0 0 [(.lit (.i 10))]), (.call 2 0 [(.lit (.s ⟨#[102]⟩)), (.row [(.call 2 0 [(.lit (.s ⟨#[103]⟩)), (.row [(.call 1 0 [(.lit (.i 0))])])]), (.call 1 0 [(.lit (.i 0))])])]), (.lit (.r []))]), (.call 1 0 [(.lit (.i 1))]), (.call 3 1 [(.call 0 0 [(.lit (.i 10))]), (.call 2 0 [(.lit (.s ⟨#[102]⟩)), (.row [(.call 2 0 [(.lit (.s ⟨#[103]⟩)), (.row [(.call 1 0 [(.lit (.i 0))])])]), (.call 1 0 [(.lit (.i 0))])])]), (.lit (.r []))])]), (.call 4 0 [(.lit (.i 0))])]), (.ok 4 [(.lit (.i 0))]), (.ok 4 [(.lit (.i 0))])] (.need [(.imp (.and (.and (.and (.and (.and (.and (.eq (.call 3 2 [(.call 3 3 [(.call 0 0 [(.lit (.i 10))]), (.call 2 0 [(.lit (.s ⟨#[102]⟩)), (.row [(.call 2 0 [(.lit (.s ⟨#[103]⟩)), (.row [(.call 1 0 [(.lit (.i 0))])])]), (.call 1 0 [(.lit (.i 0))])])]), (.lit (.r []))]), (.call 1 0 [(.lit (.i 1))]), (.call 3 1 [(.call 0 0 [(.lit (.i 10))]), (.call 2 0 [(.lit (.s ⟨#[102]⟩)), (.row [(.call 2 0 [(.lit (.s ⟨#[103]⟩)), (.row [(.call 1 0 [(.lit (.i 0))])])]), (.call 1 0 [(.lit (.i 0))])])]), (.lit (.r []))])]) (.lit (.i 0))) (.eq (.call 3 0 [(.call 3 3 [(.call 0 0 [(.lit (.i 10))]), (.call 2 0 [(.lit (.s ⟨#[102]⟩)), (.row [(.call 2 0 [(.lit (.s ⟨#[103]⟩)), (.row [(.call 1 0 [(.lit (.i 0))])])]), (.call 1 0 [(.lit (.i 0))])])]), (.lit (.r []))]), (.call 1 0 [(.lit (.i 1))]), (.call 3 1 [(.call 0 0 [(.lit (.i 10))]), (.call 2 0 [(.lit (.s ⟨#[102]⟩)), (.row [(.call 2 0 [(.lit (.s ⟨#[103]⟩)), (.row [(.call 1 0 [(.lit (.i 0))])])]), (.call 1 0 [(.lit (.i 0))])])]), (.lit (.r []))])]) (.call 5 0 [(.lit (.i 5))]))) (.call 6 0 [(.call 3 1 [(.call 3 3 [(.call 0 0 [(.lit (.i 10))]), (.call 2 0 [(.lit (.s ⟨#[102]⟩)), (.row [(.call 2 0 [(.lit (.s ⟨#[103]⟩)), (.row [(.call 1 0 [(.lit (.i 0))])])]), (.call 1 0 [(.lit (.i 0))])])]), (.lit (.r []))]), (.call 1 0 [(.lit (.i 1))]), (.call 3 1 [(.call 0 0 [(.lit (.i 10))]), (.call 2 0 [(.lit (.s ⟨#[102]⟩)), (.row [(.call 2 0 [(.lit (.s ⟨#[103]⟩)), (.row [(.call 1 0 [(.lit (.i 0))])])]), (.call 1 0 [(.lit (.i 0))])])]), (.lit (.r []))])]), (.row [(.mk [(.lit (.i 0)), (.call 5 0 [(.lit (.i 4))])]), (.mk [(.lit (.i 1)), (.call 5 0 [(.lit (.i 5))])])])])) (.eq (.call 7 1 [(.call 3 3 [(.call 3 3 [(.call 0 0 [(.lit (.i 10))]), (.call 2 0 [(.lit (.s ⟨#[102]⟩)), (.row [(.call 2 0 [(.lit (.s ⟨#[103]⟩)), (.row [(.call 1 0 [(.lit (.i 0))])])]), (.call 1 0 [(.lit (.i 0))])])]), (.lit (.r []))]), (.call 1 0 [(.lit (.i 1))]), (.call 3 1 [(.call 0 0 [(.lit (.i 10))]), (.call 2 0 [(.lit (.s ⟨#[102]⟩)), (.row [(.call 2 0 [(.lit (.s ⟨#[103]⟩)), (.row [(.call 1 0 [(.lit (.i 0))])])]), (.call 1 0 [(.lit (.i 0))])])]), (.lit (.r []))])]), (.call 4 0 [(.lit (.i 0))])]) (.lit (.i 0)))) (.call 8 0 [(.call 7 0 [(.call 3 3 [(.call 3 3 [(.call 0 0 [(.lit (.i 10))]), (.call 2 0 [(.lit (.s ⟨#[102]⟩)), (.row [(.call 2 0 [(.lit (.s ⟨#[103]⟩)), (.row [(.call 1 0 [(.lit (.i 0))])])]), (.call 1 0 [(.lit (.i 0))])])]), (.lit (.r []))]), (.call 1 0 [(.lit (.i 1))]), (.call 3 1 [(.call 0 0 [(.lit (.i 10))]), (.call 2 0 [(.lit (.s ⟨#[102]⟩)), (.row [(.call 2 0 [(.lit (.s ⟨#[103]⟩)), (.row [(.call 1 0 [(.lit (.i 0))])])]), (.call 1 0 [(.lit (.i 0))])])]), (.lit (.r []))])]), (.call 4 0 [(.lit (.i 0))])]), (.call 2 0 [(.lit (.s ⟨#[102]⟩)), (.row [(.call 2 0 [(.lit (.s ⟨#[103]⟩)), (.row [(.call 1 0 [(.lit (.i 4))])])]), (.call 1 0 [(.lit (.i 4))])])])])) (.eq (.call 9 0 [(.call 3 3 [(.call 3 3 [(.call 0 0 [(.lit (.i 10))]), (.call 2 0 [(.lit (.s ⟨#[102]⟩)), (.row [(.call 2 0 [(.lit (.s ⟨#[103]⟩)), (.row [(.call 1 0 [(.lit (.i 0))])])]), (.call 1 0 [(.lit (.i 0))])])]), (.lit (.r []))]), (.call 1 0 [(.lit (.i 1))]), (.call 3 1 [(.call 0 0 [(.lit (.i 10))]), (.call 2 0 [(.lit (.s ⟨#[102]⟩)), (.row [(.call 2 0 [(.lit (.s ⟨#[103]⟩)), (.row [(.call 1 0 [(.lit (.i 0))])])]), (.call 1 0 [(.lit (.i 0))])])]), (.lit (.r []))])]), (.call 5 0 [(.lit (.i 2))])]) (.call 5 0 [(.lit (.i 4))]))) (.eq (.call 9 0 [(.call 3 3 [(.call 3 3 [(.call 0 0 [(.lit (.i 10))]), (.call 2 0 [(.lit (.s ⟨#[102]⟩)), (.row [(.call 2 0 [(.lit (.s ⟨#[103]⟩)), (.row [(.call 1 0 [(.lit (.i 0))])])]), (.call 1 0 [(.lit (.i 0))])])]), (.lit (.r []))]), (.call 1 0 [(.lit (.i 1))]), (.call 3 1 [(.call 0 0 [(.lit (.i 10))]), (.call 2 0 [(.lit (.s ⟨#[102]⟩)), (.row [(.call 2 0 [(.lit (.s ⟨#[103]⟩)), (.row [(.call 1 0 [(.lit (.i 0))])])]), (.call 1 0 [(.lit (.i 0))])])]), (.lit (.r []))])]), (.call 5 0 [(.lit (.i 1))])]) (.call 4 0 [(.lit (.i 3))]))) (.lit (.b .true))), (.imp (.and (.and (.and (.and (.and (.and (.eq (.call 3 2 [(.call 3 3 [(.call 0 0 [(.lit (.i 10))]), (.call 2 0 [(.lit (.s ⟨#[102]⟩)), (.row [(.call 2 0 [(.lit (.s ⟨#[103]⟩)), (.row [(.call 1 0 [(.lit (.i 0))])])]), (.call 1 0 [(.lit (.i 0))])])]), (.lit (.r []))]), (.call 1 0 [(.lit (.i 1))]), (.call 3 1 [(.call 0 0 [(.lit (.i 10))]), (.call 2 0 [(.lit (.s ⟨#[102]⟩)), (.row [(.call 2 0 [(.lit (.s ⟨#[103]⟩)), (.row [(.call 1 0 [(.lit (.i 0))])])]), (.call 1 0 [(.lit (.i 0))])])]), (.lit (.r []))])]) (.lit (.i 0))) (.eq (.call 3 0 [(.call 3 3 [(.call 0 0 [(.lit (.i 10))]), (.call 2 0 [(.lit (.s ⟨#[102]⟩)), (.row [(.call 2 0 [(.lit (.s ⟨#[103]⟩)), (.row [(.call 1 0 [(.lit (.i 0))])])]), (.call 1 0 [(.lit (.i 0))])])]), (.lit (.r []))]), (.call 1 0 [(.lit (.i 1))]), (.call 3 1 [(.call 0 0 [(.lit (.i 10))]), (.call 2 0 [(.lit (.s ⟨#[102]⟩)), (.row [(.call 2 0 [(.lit (.s ⟨#[103]⟩)), (.row [(.call 1 0 [(.lit (.i 0))])])]), (.call 1 0 [(.lit (.i 0))])])]), (.lit (.r []))])]) (.call 5 0 [(.lit (.i 5))]))) (.call 6 0 [(.call 3 1 [(.call 3 3 [(.call 0 0 [(.lit (.i 10))]), (.call 2 0 [(.lit (.s ⟨#[102]⟩)), (.row [(.call 2 0 [(.lit (.s ⟨#[103]⟩)), (.row [(.call 1 0 [(.lit (.i 0))])])]), (.call 1 0 [(.lit (.i 0))])])]), (.lit (.r []))]), (.call 1 0 [(.lit (.i 1))]), (.call 3 1 [(.call 0 0 [(.lit (.i 10))]), (.call 2 0 [(.lit (.s ⟨#[102]⟩)), (.row [(.call 2 0 [(.lit (.s ⟨#[103]⟩)), (.row [(.call 1 0 [(.lit (.i 0))])])]), (.call 1 0 [(.lit (.i 0))])])]), (.lit (.r []))])]), (.row [(.mk [(.lit (.i 0)), (.call 5 0 [(.lit (.i 4))])]), (.mk [(.lit (.i 1)), (.call 5 0 [(.lit (.i 5))])])])])) (.eq (.call 7 1 [(.call 3 3 [(.call 3 3 [(.call 0 0 [(.lit (.i 10))]), (.call 2 0 [(.lit (.s ⟨#[102]⟩)), (.row [(.call 2 0 [(.lit (.s ⟨#[103]⟩)), (.row [(.call 1 0 [(.lit (.i 0))])])]), (.call 1 0 [(.lit (.i 0))])])]), (.lit (.r []))]), (.call 1 0 [(.lit (.i 1))]), (.call 3 1 [(.call 0 0 [(.lit (.i 10))]), (.call 2 0 [(.lit (.s ⟨#[102]⟩)), (.row [(.call 2 0 [(.lit (.s ⟨#[103]⟩)), (.row [(.call 1 0 [(.lit (.i 0))])])]), (.call 1 0 [(.lit (.i 0))])])]), (.lit (.r []))])]), (.call 4 0 [(.lit (.i 0))])]) (.lit (.i 0)))) (.call 8 0 [(.call 7 0 [(.call 3 3 [(.call 3 3 [(.call 0 0 [(.lit (.i 10))]), (.call 2 0 [(.lit (.s ⟨#[102]⟩)), (.row [(.call 2 0 [(.lit (.s ⟨#[103]⟩)), (.row [(.call 1 0 [(.lit (.i 0))])])]), (.call 1 0 [(.lit (.i 0))])])]), (.lit (.r []))]), (.call 1 0 [(.lit (.i 1))]), (.call 3 1 [(.call 0 0 [(.lit (.i 10))]), (.call 2 0 [(.lit (.s ⟨#[102]⟩)), (.row [(.call 2 0 [(.lit (.s ⟨#[103]⟩)), (.row [(.call 1 0 [(.lit (.i 0))])])]), (.call 1 0 [(.lit (.i 0))])])]), (.lit (.r []))])]), (.call 4 0 [(.lit (.i 0))])]), (.call 2 0 [(.lit (.s ⟨#[102]⟩)), (.row [(.call 2 0 [(.lit (.s ⟨#[103]⟩)), (.row [(.call 1 0 [(.lit (.i 4))])])]), (.call 1 0 [(.lit (.i 4))])])])])) (.eq (.call 9 0 [(.call 3 3 [(.call 3 3 [(.call 0 0 [(.lit (.i 10))]), (.call 2 0 [(.lit (.s ⟨#[102]⟩)), (.row [(.call 2 0 [(.lit (.s ⟨#[103]⟩)), (.row [(.call 1 0 [(.lit (.i 0))])])]), (.call 1 0 [(.lit (.i 0))])])]), (.lit (.r []))]), (.call 1 0 [(.lit (.i 1))]), (.call 3 1 [(.call 0 0 [(.lit (.i 10))]), (.call 2 0 [(.lit (.s ⟨#[102]⟩)), (.row [(.call 2 0 [(.lit (.s ⟨#[103]⟩)), (.row [(.call 1 0 [(.lit (.i 0))])])]), (.call 1 0 [(.lit (.i 0))])])]), (.lit (.r []))])]), (.call 5 0 [(.lit (.i 2))])]) (.call 5 0 [(.lit (.i 4))]))) (.eq (.call 9 0 [(.call 3 3 [(.call 3 3 [(.call 0 0 [(.lit (.i 10))]), (.call 2 0 [(.lit (.s ⟨#[102]⟩)), (.row [(.call 2 0 [(.lit (.s ⟨#[103]⟩)), (.row [(.call 1 0 [(.lit (.i 0))])])]), (.call 1 0 [(.lit (.i 0))])])]), (.lit (.r []))]), (.call 1 0 [(.lit (.i 1))]), (.call 3 1 [(.call 0 0 [(.lit (.i 10))]), (.call 2 0 [(.lit (.s ⟨#[102]⟩)), (.row [(.call 2 0 [(.lit (.s ⟨#[103]⟩)), (.row [(.call 1 0 [(.lit (.i 0))])])]), (.call 1 0 [(.lit (.i 0))])])]), (.lit (.r []))])]), (.call 5 0 [(.lit (.i 1))])]) (.call 4 0 [(.lit (.i 3))]))) (.lt (.lit (.i 1)) (.len (.fld (.call 3 3 [(.call 3 3 [(.call 0 0 [(.lit (.i 10))]), (.call 2 0 [(.lit (.s ⟨#[102]⟩)), (.row [(.call 2 0 [(.lit (.s ⟨#[103]⟩)), (.row [(.call 1 0 [(.lit (.i 0))])])]), (.call 1 0 [(.lit (.i 0))])])]), (.lit (.r []))]), (.call 1 0 [(.lit (.i 1))]), (.call 3 1 [(.call 0 0 [(.lit (.i 10))]), (.call 2 0 [(.lit (.s ⟨#[102]⟩)), (.row [(.call 2 0 [(.lit (.s ⟨#[103]⟩)), (.row [(.call 1 0 [(.lit (.i 0))])])]), (.call 1 0 [(.lit (.i 0))])])]), (.lit (.r []))])]) 1)))), (.imp (.and (.and (.and (.and (.and (.and (.eq (.call 3 2 [(.call 3 3 [(.call 0 0 [(.lit (.i 10))]), (.call 2 0 [(.lit (.s ⟨#[102]⟩)), (.row [(.call 2 0 [(.lit (.s ⟨#[103]⟩)), (.row [(.call 1 0 [(.lit (.i 0))])])]), (.call 1 0 [(.lit (.i 0))])])]), (.lit (.r []))]), (.call 1 0 [(.lit (.i 1))]), (.call 3 1 [(.call 0 0 [(.lit (.i 10))]), (.call 2 0 [(.lit (.s ⟨#[102]⟩)), (.row [(.call 2 0 [(.lit (.s ⟨#[103]⟩)), (.row [(.call 1 0 [(.lit (.i 0))])])]), (.call 1 0 [(.lit (.i 0))])])]), (.lit (.r []))])]) (.lit (.i 0))) (.eq (.call 3 0 [(.call 3 3 [(.call 0 0 [(.lit (.i 10))]), (.call 2 0 [(.lit (.s ⟨#[102]⟩)), (.row [(.call 2 0 [(.lit (.s ⟨#[103]⟩)), (.row [(.call 1 0 [(.lit (.i 0))])])]), (.call 1 0 [(.lit (.i 0))])])]), (.lit (.r []))]), (.call 1 0 [(.lit (.i 1))]), (.call 3 1 [(.call 0 0 [(.lit (.i 10))]), (.call 2 0 [(.lit (.s ⟨#[102]⟩)), (.row [(.call 2 0 [(.lit (.s ⟨#[103]⟩)), (.row [(.call 1 0 [(.lit (.i 0))])])]), (.call 1 0 [(.lit (.i 0))])])]), (.lit (.r []))])]) (.call 5 0 [(.lit (.i 5))]))) (.call 6 0 [(.call 3 1 [(.call 3 3 [(.call 0 0 [(.lit (.i 10))]), (.call 2 0 [(.lit (.s ⟨#[102]⟩)), (.row [(.call 2 0 [(.lit (.s ⟨#[103]⟩)), (.row [(.call 1 0 [(.lit (.i 0))])])]), (.call 1 0 [(.lit (.i 0))])])]), (.lit (.r []))]), (.call 1 0 [(.lit (.i 1))]), (.call 3 1 [(.call 0 0 [(.lit (.i 10))]), (.call 2 0 [(.lit (.s ⟨#[102]⟩)), (.row [(.call 2 0 [(.lit (.s ⟨#[103]⟩)), (.row [(.call 1 0 [(.lit (.i 0))])])]), (.call 1 0 [(.lit (.i 0))])])]), (.lit (.r []))])]), (.row [(.mk [(.lit (.i 0)), (.call 5 0 [(.lit (.i 4))])]), (.mk [(.lit (.i 1)), (.call 5 0 [(.lit (.i 5))])])])])) (.eq (.call 7 1 [(.call 3 3 [(.call 3 3 [(.call 0 0 [(.lit (.i 10))]), (.call 2 0 [(.lit (.s ⟨#[102]⟩)), (.row [(.call 2 0 [(.lit (.s ⟨#[103]⟩)), (.row [(.call 1 0 [(.lit (.i 0))])])]), (.call 1 0 [(.lit (.i 0))])])]), (.lit (.r []))]), (.call 1 0 [(.lit (.i 1))]), (.call 3 1 [(.call 0 0 [(.lit (.i 10))]), (.call 2 0 [(.lit (.s ⟨#[102]⟩)), (.row [(.call 2 0 [(.lit (.s ⟨#[103]⟩)), (.row [(.call 1 0 [(.lit (.i 0))])])]), (.call 1 0 [(.lit (.i 0))])])]), (.lit (.r []))])]), (.call 4 0 [(.lit (.i 0))])]) (.lit (.i 0)))) (.call 8 0 [(.call 7 0 [(.call 3 3 [(.call 3 3 [(.call 0 0 [(.lit (.i 10))]), (.call 2 0 [(.lit (.s ⟨#[102]⟩)), (.row [(.call 2 0 [(.lit (.s ⟨#[103]⟩)), (.row [(.call 1 0 [(.lit (.i 0))])])]), (.call 1 0 [(.lit (.i 0))])])]), (.lit (.r []))]), (.call 1 0 [(.lit (.i 1))]), (.call 3 1 [(.call 0 0 [(.lit (.i 10))]), (.call 2 0 [(.lit (.s ⟨#[102]⟩)), (.row [(.call 2 0 [(.lit (.s ⟨#[103]⟩)), (.row [(.call 1 0 [(.lit (.i 0))])])]), (.call 1 0 [(.lit (.i 0))])])]), (.lit (.r []))])]), (.call 4 0 [(.lit (.i 0))])]), (.call 2 0 [(.lit (.s ⟨#[102]⟩)), (.row [(.call 2 0 [(.lit (.s ⟨#[103]⟩)), (.row [(.call 1 0 [(.lit (.i 4))])])]), (.call 1 0 [(.lit (.i 4))])])])])) (.eq (.call 9 0 [(.call 3 3 [(.call 3 3 [(.call 0 0 [(.lit (.i 10))]), (.call 2 0 [(.lit (.s ⟨#[102]⟩)), (.row [(.call 2 0 [(.lit (.s ⟨#[103]⟩)), (.row [(.call 1 0 [(.lit (.i 0))])])]), (.call 1 0 [(.lit (.i 0))])])]), (.lit (.r []))]), (.call 1 0 [(.lit (.i 1))]), (.call 3 1 [(.call 0 0 [(.lit (.i 10))]), (.call 2 0 [(.lit (.s ⟨#[102]⟩)), (.row [(.call 2 0 [(.lit (.s ⟨#[103]⟩)), (.row [(.call 1 0 [(.lit (.i 0))])])]), (.call 1 0 [(.lit (.i 0))])])]), (.lit (.r []))])]), (.call 5 0 [(.lit (.i 2))])]) (.call 5 0 [(.lit (.i 4))]))) (.eq (.call 9 0 [(.call 3 3 [(.call 3 3 [(.call 0 0 [(.lit (.i 10))]), (.call 2 0 [(.lit (.s ⟨#[102]⟩)), (.row [(.call 2 0 [(.lit (.s ⟨#[103]⟩)), (.row [(.call 1 0 [(.lit (.i 0))])])]), (.call 1 0 [(.lit (.i 0))])])]), (.lit (.r []))]), (.call 1 0 [(.lit (.i 1))]), (.call 3 1 [(.call 0 0 [(.lit (.i 10))]), (.call 2 0 [(.lit (.s ⟨#[102]⟩)), (.row [(.call 2 0 [(.lit (.s ⟨#[103]⟩)), (.row [(.call 1 0 [(.lit (.i 0))])])]), (.call 1 0 [(.lit (.i 0))])])]), (.lit (.r []))])]), (.call 5 0 [(.lit (.i 1))])]) (.call 4 0 [(.lit (.i 3))]))) (.lit (.b .true))), (.imp (.and (.and (.and (.and (.and (.and (.eq (.call 3 2 [(.call 3 3 [(.call 0 0 [(.lit (.i 10))]), (.call 2 0 [(.lit (.s ⟨#[102]⟩)), (.row [(.call 2 0 [(.lit (.s ⟨#[103]⟩)), (.row [(.call 1 0 [(.lit (.i 0))])])]), (.call 1 0 [(.lit (.i 0))])])]), (.lit (.r []))]), (.call 1 0 [(.lit (.i 1))]), (.call 3 1 [(.call 0 0 [(.lit (.i 10))]), (.call 2 0 [(.lit (.s ⟨#[102]⟩)), (.row [(.call 2 0 [(.lit (.s ⟨#[103]⟩)), (.row [(.call 1 0 [(.lit (.i 0))])])]), (.call 1 0 [(.lit (.i 0))])])]), (.lit (.r []))])]) (.lit (.i 0))) (.eq (.call 3 0 [(.call 3 3 [(.call 0 0 [(.lit (.i 10))]), (.call 2 0 [(.lit (.s ⟨#[102]⟩)), (.row [(.call 2 0 [(.lit (.s ⟨#[103]⟩)), (.row [(.call 1 0 [(.lit (.i 0))])])]), (.call 1 0 [(.lit (.i 0))])])]), (.lit (.r []))]), (.call 1 0 [(.lit (.i 1))]), (.call 3 1 [(.call 0 0 [(.lit (.i 10))]), (.call 2 0 [(.lit (.s ⟨#[102]⟩)), (.row [(.call 2 0 [(.lit (.s ⟨#[103]⟩)), (.row [(.call 1 0 [(.lit (.i 0))])])]), (.call 1 0 [(.lit (.i 0))])])]), (.lit (.r []))])]) (.call 5 0 [(.lit (.i 5))]))) (.call 6 0 [(.call 3 1 [(.call 3 3 [(.call 0 0 [(.lit (.i 10))]), (.call 2 0 [(.lit (.s ⟨#[102]⟩)), (.row [(.call 2 0 [(.lit (.s ⟨#[103]⟩)), (.row [(.call 1 0 [(.lit (.i 0))])])]), (.call 1 0 [(.lit (.i 0))])])]), (.lit (.r []))]), (.call 1 0 [(.lit (.i 1))]), (.call 3 1 [(.call 0 0 [(.lit (.i 10))]), (.call 2 0 [(.lit (.s ⟨#[102]⟩)), (.row [(.call 2 0 [(.lit (.s ⟨#[103]⟩)), (.row [(.call 1 0 [(.lit (.i 0))])])]), (.call 1 0 [(.lit (.i 0))])])]), (.lit (.r []))])]), (.row [(.mk [(.lit (.i 0)), (.call 5 0 [(.lit (.i 4))])]), (.mk [(.lit (.i 1)), (.call 5 0 [(.lit (.i 5))])])])])) (.eq (.call 7 1 [(.call 3 3 [(.call 3 3 [(.call 0 0 [(.lit (.i 10))]), (.call 2 0 [(.lit (.s ⟨#[102]⟩)), (.row [(.call 2 0 [(.lit (.s ⟨#[103]⟩)), (.row [(.call 1 0 [(.lit (.i 0))])])]), (.call 1 0 [(.lit (.i 0))])])]), (.lit (.r []))]), (.call 1 0 [(.lit (.i 1))]), (.call 3 1 [(.call 0 0 [(.lit (.i 10))]), (.call 2 0 [(.lit (.s ⟨#[102]⟩)), (.row [(.call 2 0 [(.lit (.s ⟨#[103]⟩)), (.row [(.call 1 0 [(.lit (.i 0))])])]), (.call 1 0 [(.lit (.i 0))])])]), (.lit (.r []))])]), (.call 4 0 [(.lit (.i 0))])]) (.lit (.i 0)))) (.call 8 0 [(.call 7 0 [(.call 3 3 [(.call 3 3 [(.call 0 0 [(.lit (.i 10))]), (.call 2 0 [(.lit (.s ⟨#[102]⟩)), (.row [(.call 2 0 [(.lit (.s ⟨#[103]⟩)), (.row [(.call 1 0 [(.lit (.i 0))])])]), (.call 1 0 [(.lit (.i 0))])])]), (.lit (.r []))]), (.call 1 0 [(.lit (.i 1))]), (.call 3 1 [(.call 0 0 [(.lit (.i 10))]), (.call 2 0 [(.lit (.s ⟨#[102]⟩)), (.row [(.call 2 0 [(.lit (.s ⟨#[103]⟩)), (.row [(.call 1 0 [(.lit (.i 0))])])]), (.call 1 0 [(.lit (.i 0))])])]), (.lit (.r []))])]), (.call 4 0 [(.lit (.i 0))])]), (.call 2 0 [(.lit (.s ⟨#[102]⟩)), (.row [(.call 2 0 [(.lit (.s ⟨#[103]⟩)), (.row [(.call 1 0 [(.lit (.i 4))])])]), (.call 1 0 [(.lit (.i 4))])])])])) (.eq (.call 9 0 [(.call 3 3 [(.call 3 3 [(.call 0 0 [(.lit (.i 10))]), (.call 2 0 [(.lit (.s ⟨#[102]⟩)), (.row [(.call 2 0 [(.lit (.s ⟨#[103]⟩)), (.row [(.call 1 0 [(.lit (.i 0))])])]), (.call 1 0 [(.lit (.i 0))])])]), (.lit (.r []))]), (.call 1 0 [(.lit (.i 1))]), (.call 3 1 [(.call 0 0 [(.lit (.i 10))]), (.call 2 0 [(.lit (.s ⟨#[102]⟩)), (.row [(.call 2 0 [(.lit (.s ⟨#[103]⟩)), (.row [(.call 1 0 [(.lit (.i 0))])])]), (.call 1 0 [(.lit (.i 0))])])]), (.lit (.r []))])]), (.call 5 0 [(.lit (.i 2))])]) (.call 5 0 [(.lit (.i 4))]))) (.eq (.call 9 0 [(.call 3 3 [(.call 3 3 [(.call 0 0 [(.lit (.i 10))]), (.call 2 0 [(.lit (.s ⟨#[102]⟩)), (.row [(.call 2 0 [(.lit (.s ⟨#[103]⟩)), (.row [(.call 1 0 [(.lit (.i 0))])])]), (.call 1 0 [(.lit (.i 0))])])]), (.lit (.r []))]), (.call 1 0 [(.lit (.i 1))]), (.call 3 1 [(.call 0 0 [(.lit (.i 10))]), (.call 2 0 [(.lit (.s ⟨#[102]⟩)), (.row [(.call 2 0 [(.lit (.s ⟨#[103]⟩)), (.row [(.call 1 0 [(.lit (.i 0))])])]), (.call 1 0 [(.lit (.i 0))])])]), (.lit (.r []))])]), (.call 5 0 [(.lit (.i 1))])]) (.call 4 0 [(.lit (.i 3))]))) (.lt (.lit (.i 1)) (.len (.fld (.call 3 3 [(.call 3 3 [(.call 0 0 [(.lit (.i 10))]), (.call 2 0 [(.lit (.s ⟨#[102]⟩)), (.row [(.call 2 0 [(.lit (.s ⟨#[103]⟩)), (.row [(.call 1 0 [(.lit (.i 0))])])]), (.call 1 0 [(.lit (.i 0))])])]), (.lit (.r []))]), (.call 1 0 [(.lit (.i 1))]), (.call 3 1 [(.call 0 0 [(.lit (.i 10))]), (.call 2 0 [(.lit (.s ⟨#[102]⟩)), (.row [(.call 2 0 [(.lit (.s ⟨#[103]⟩)), (.row [(.call 1 0 [(.lit (.i 0))])])]), (.call 1 0 [(.lit (.i 0))])])]), (.lit (.r []))])]) 1)))), (.imp (.and (.and (.and (.and (.and (.eq (.call 3 2 [(.call 3 3 [(.call 0 0 [(.lit (.i 10))]), (.call 2 0 [(.lit (.s ⟨#[102]⟩)), (.row [(.call 2 0 [(.lit (.s ⟨#[103]⟩)), (.row [(.call 1 0 [(.lit (.i 0))])])]), (.call 1 0 [(.lit (.i 0))])])]), (.lit (.r []))]), (.call 1 0 [(.lit (.i 1))]), (.call 3 1 [(.call 0 0 [(.lit (.i 10))]), (.call 2 0 [(.lit (.s ⟨#[102]⟩)), (.row [(.call 2 0 [(.lit (.s ⟨#[103]⟩)), (.row [(.call 1 0 [(.lit (.i 0))])])]), (.call 1 0 [(.lit (.i 0))])])]), (.lit (.r []))])]) (.lit (.i 0))) (.eq (.call 3 0 [(.call 3 3 [(.call 0 0 [(.lit (.i 10))]), (.call 2 0 [(.lit (.s ⟨#[102]⟩)), (.row [(.call 2 0 [(.lit (.s ⟨#[103]⟩)), (.row [(.call 1 0 [(.lit (.i 0))])])]), (.call 1 0 [(.lit (.i 0))])])]), (.lit (.r []))]), (.call 1 0 [(.lit (.i 1))]), (.call 3 1 [(.call 0 0 [(.lit (.i 10))]), (.call 2 0 [(.lit (.s ⟨#[102]⟩)), (.row [(.call 2 0 [(.lit (.s ⟨#[103]⟩)), (.row [(.call 1 0 [(.lit (.i 0))])])]), (.call 1 0 [(.lit (.i 0))])])]), (.lit (.r []))])]) (.call 5 0 [(.lit (.i 5))]))) (.call 6 0 [(.call 3 1 [(.call 3 3 [(.call 0 0 [(.lit (.i 10))]), (.call 2 0 [(.lit (.s ⟨#[102]⟩)), (.row [(.call 2 0 [(.lit (.s ⟨#[103]⟩)), (.row [(.call 1 0 [(.lit (.i 0))])])]), (.call 1 0 [(.lit (.i 0))])])]), (.lit (.r []))]), (.call 1 0 [(.lit (.i 1))]), (.call 3 1 [(.call 0 0 [(.lit (.i 10))]), (.call 2 0 [(.lit (.s ⟨#[102]⟩)), (.row [(.call 2 0 [(.lit (.s ⟨#[103]⟩)), (.row [(.call 1 0 [(.lit (.i 0))])])]), (.call 1 0 [(.lit (.i 0))])])]), (.lit (.r []))])]), (.row [(.mk [(.lit (.i 0)), (.call 5 0 [(.lit (.i 4))])]), (.mk [(.lit (.i 1)), (.call 5 0 [(.lit (.i 5))])])])])) (.eq (.call 7 1 [(.call 3 3 [(.call 3 3 [(.call 0 0 [(.lit (.i 10))]), (.call 2 0 [(.lit (.s ⟨#[102]⟩)), (.row [(.call 2 0 [(.lit (.s ⟨#[103]⟩)), (.row [(.call 1 0 [(.lit (.i 0))])])]), (.call 1 0 [(.lit (.i 0))])])]), (.lit (.r []))]), (.call 1 0 [(.lit (.i 1))]), (.call 3 1 [(.call 0 0 [(.lit (.i 10))]), (.call 2 0 [(.lit (.s ⟨#[102]⟩)), (.row [(.call 2 0 [(.lit (.s ⟨#[103]⟩)), (.row [(.call 1 0 [(.lit (.i 0))])])]), (.call 1 0 [(.lit (.i 0))])])]), (.lit (.r []))])]), (.call 4 0 [(.lit (.i 0))])]) (.lit (.i 0)))) (.call 8 0 [(.call 7 0 [(.call 3 3 [(.call 3 3 [(.call 0 0 [(.lit (.i 10))]), (.call 2 0 [(.lit (.s ⟨#[102]⟩)), (.row [(.call 2 0 [(.lit (.s ⟨#[103]⟩)), (.row [(.call 1 0 [(.lit (.i 0))])])]), (.call 1 0 [(.lit (.i 0))])])]), (.lit (.r []))]), (.call 1 0 [(.lit (.i 1))]), (.call 3 1 [(.call 0 0 [(.lit (.i 10))]), (.call 2 0 [(.lit (.s ⟨#[102]⟩)), (.row [(.call 2 0 [(.lit (.s ⟨#[103]⟩)), (.row [(.call 1 0 [(.lit (.i 0))])])]), (.call 1 0 [(.lit (.i 0))])])]), (.lit (.r []))])]), (.call 4 0 [(.lit (.i 0))])]), (.call 2 0 [(.lit (.s ⟨#[102]⟩)), (.row [(.call 2 0 [(.lit (.s ⟨#[103]⟩)), (.row [(.call 1 0 [(.lit (.i 4))])])]), (.call 1 0 [(.lit (.i 4))])])])])) (.eq (.call 9 0 [(.call 3 3 [(.call 3 3 [(.call 0 0 [(.lit (.i 10))]), (.call 2 0 [(.lit (.s ⟨#[102]⟩)), (.row [(.call 2 0 [(.lit (.s ⟨#[103]⟩)), (.row [(.call 1 0 [(.lit (.i 0))])])]), (.call 1 0 [(.lit (.i 0))])])]), (.lit (.r []))]), (.call 1 0 [(.lit (.i 1))]), (.call 3 1 [(.call 0 0 [(.lit (.i 10))]), (.call 2 0 [(.lit (.s ⟨#[102]⟩)), (.row [(.call 2 0 [(.lit (.s ⟨#[103]⟩)), (.row [(.call 1 0 [(.lit (.i 0))])])]), (.call 1 0 [(.lit (.i 0))])])]), (.lit (.r []))])]), (.call 5 0 [(.lit (.i 2))])]) (.call 5 0 [(.lit (.i 4))]))) (.ok 4 [(.lit (.i 3))])), (.imp (.and (.and (.and (.and (.and (.eq (.call 3 2 [(.call 3 3 [(.call 0 0 [(.lit (.i 10))]), (.call 2 0 [(.lit (.s ⟨#[102]⟩)), (.row [(.call 2 0 [(.lit (.s ⟨#[103]⟩)), (.row [(.call 1 0 [(.lit (.i 0))])])]), (.call 1 0 [(.lit (.i 0))])])]), (.lit (.r []))]), (.call 1 0 [(.lit (.i 1))]), (.call 3 1 [(.call 0 0 [(.lit (.i 10))]), (.call 2 0 [(.lit (.s ⟨#[102]⟩)), (.row [(.call 2 0 [(.lit (.s ⟨#[103]⟩)), (.row [(.call 1 0 [(.lit (.i 0))])])]), (.call 1 0 [(.lit (.i 0))])])]), (.lit (.r []))])]) (.lit (.i 0))) (.eq (.call 3 0 [(.call 3 3 [(.call 0 0 [(.lit (.i 10))]), (.call 2 0 [(.lit (.s ⟨#[102]⟩)), (.row [(.call 2 0 [(.lit (.s ⟨#[103]⟩)), (.row [(.call 1 0 [(.lit (.i 0))])])]), (.call 1 0 [(.lit (.i 0))])])]), (.lit (.r []))]), (.call 1 0 [(.lit (.i 1))]), (.call 3 1 [(.call 0 0 [(.lit (.i 10))]), (.call 2 0 [(.lit (.s ⟨#[102]⟩)), (.row [(.call 2 0 [(.lit (.s ⟨#[103]⟩)), (.row [(.call 1 0 [(.lit (.i 0))])])]), (.call 1 0 [(.lit (.i 0))])])]), (.lit (.r []))])]) (.call 5 0 [(.lit (.i 5))]))) (.call 6 0 [(.call 3 1 [(.call 3 3 [(.call 0 0 [(.lit (.i 10))]), (.call 2 0 [(.lit (.s ⟨#[102]⟩)), (.row [(.call 2 0 [(.lit (.s ⟨#[103]⟩)), (.row [(.call 1 0 [(.lit (.i 0))])])]), (.call 1 0 [(.lit (.i 0))])])]), (.lit (.r []))]), (.call 1 0 [(.lit (.i 1))]), (.call 3 1 [(.call 0 0 [(.lit (.i 10))]), (.call 2 0 [(.lit (.s ⟨#[102]⟩)), (.row [(.call 2 0 [(.lit (.s ⟨#[103]⟩)), (.row [(.call 1 0 [(.lit (.i 0))])])]), (.call 1 0 [(.lit (.i 0))])])]), (.lit (.r []))])]), (.row [(.mk [(.lit (.i 0)), (.call 5 0 [(.lit (.i 4))])]), (.mk [(.lit (.i 1)), (.call 5 0 [(.lit (.i 5))])])])])) (.eq (.call 7 1 [(.call 3 3 [(.call 3 3 [(.call 0 0 [(.lit (.i 10))]), (.call 2 0 [(.lit (.s ⟨#[102]⟩)), (.row [(.call 2 0 [(.lit (.s ⟨#[103]⟩)), (.row [(.call 1 0 [(.lit (.i 0))])])]), (.call 1 0 [(.lit (.i 0))])])]), (.lit (.r []))]), (.call 1 0 [(.lit (.i 1))]), (.call 3 1 [(.call 0 0 [(.lit (.i 10))]), (.call 2 0 [(.lit (.s ⟨#[102]⟩)), (.row [(.call 2 0 [(.lit (.s ⟨#[103]⟩)), (.row [(.call 1 0 [(.lit (.i 0))])])]), (.call 1 0 [(.lit (.i 0))])])]), (.lit (.r []))])]), (.call 4 0 [(.lit (.i 0))])]) (.lit (.i 0)))) (.call 8 0 [(.call 7 0 [(.call 3 3 [(.call 3 3 [(.call 0 0 [(.lit (.i 10))]), (.call 2 0 [(.lit (.s ⟨#[102]⟩)), (.row [(.call 2 0 [(.lit (.s ⟨#[103]⟩)), (.row [(.call 1 0 [(.lit (.i 0))])])]), (.call 1 0 [(.lit (.i 0))])])]), (.lit (.r []))]), (.call 1 0 [(.lit (.i 1))]), (.call 3 1 [(.call 0 0 [(.lit (.i 10))]), (.call 2 0 [(.lit (.s ⟨#[102]⟩)), (.row [(.call 2 0 [(.lit (.s ⟨#[103]⟩)), (.row [(.call 1 0 [(.lit (.i 0))])])]), (.call 1 0 [(.lit (.i 0))])])]), (.lit (.r []))])]), (.call 4 0 [(.lit (.i 0))])]), (.call 2 0 [(.lit (.s ⟨#[102]⟩)), (.row [(.call 2 0 [(.lit (.s ⟨#[103]⟩)), (.row [(.call 1 0 [(.lit (.i 4))])])]), (.call 1 0 [(.lit (.i 4))])])])])) (.eq (.call 9 0 [(.call 3 3 [(.call 3 3 [(.call 0 0 [(.lit (.i 10))]), (.call 2 0 [(.lit (.s ⟨#[102]⟩)), (.row [(.call 2 0 [(.lit (.s ⟨#[103]⟩)), (.row [(.call 1 0 [(.lit (.i 0))])])]), (.call 1 0 [(.lit (.i 0))])])]), (.lit (.r []))]), (.call 1 0 [(.lit (.i 1))]), (.call 3 1 [(.call 0 0 [(.lit (.i 10))]), (.call 2 0 [(.lit (.s ⟨#[102]⟩)), (.row [(.call 2 0 [(.lit (.s ⟨#[103]⟩)), (.row [(.call 1 0 [(.lit (.i 0))])])]), (.call 1 0 [(.lit (.i 0))])])]), (.lit (.r []))])]), (.call 5 0 [(.lit (.i 2))])]) (.call 5 0 [(.lit (.i 4))]))) (.ok 9 [(.call 3 3 [(.call 3 3 [(.call 0 0 [(.lit (.i 10))]), (.call 2 0 [(.lit (.s ⟨#[102]⟩)), (.row [(.call 2 0 [(.lit (.s ⟨#[103]⟩)), (.row [(.call 1 0 [(.lit (.i 0))])])]), (.call 1 0 [(.lit (.i 0))])])]), (.lit (.r []))]), (.call 1 0 [(.lit (.i 1))]), (.call 3 1 [(.call 0 0 [(.lit (.i 10))]), (.call 2 0 [(.lit (.s ⟨#[102]⟩)), (.row [(.call 2 0 [(.lit (.s ⟨#[103]⟩)), (.row [(.call 1 0 [(.lit (.i 0))])])]), (.call 1 0 [(.lit (.i 0))])])]), (.lit (.r []))])]), (.call 5 0 [(.lit (.i 1))])])), (.imp (.and (.and (.and (.and (.and (.eq (.call 3 2 [(.call 3 3 [(.call 0 0 [(.lit (.i 10))]), (.call 2 0 [(.lit (.s ⟨#[102]⟩)), (.row [(.call 2 0 [(.lit (.s ⟨#[103]⟩)), (.row [(.call 1 0 [(.lit (.i 0))])])]), (.call 1 0 [(.lit (.i 0))])])]), (.lit (.r []))]), (.call 1 0 [(.lit (.i 1))]), (.call 3 1 [(.call 0 0 [(.lit (.i 10))]), (.call 2 0 [(.lit (.s ⟨#[102]⟩)), (.row [(.call 2 0 [(.lit (.s ⟨#[103]⟩)), (.row [(.call 1 0 [(.lit (.i 0))])])]), (.call 1 0 [(.lit (.i 0))])])]), (.lit (.r []))])]) (.lit (.i 0))) (.eq (.call 3 0 [(.call 3 3 [(.call 0 0 [(.lit (.i 10))]), (.call 2 0 [(.lit (.s ⟨#[102]⟩)), (.row [(.call 2 0 [(.lit (.s ⟨#[103]⟩)), (.row [(.call 1 0 [(.lit (.i 0))])])]), (.call 1 0 [(.lit (.i 0))])])]), (.lit (.r []))]), (.call 1 0 [(.lit (.i 1))]), (.call 3 1 [(.call 0 0 [(.lit (.i 10))]), (.call 2 0 [(.lit (.s ⟨#[102]⟩)), (.row [(.call 2 0 [(.lit (.s ⟨#[103]⟩)), (.row [(.call 1 0 [(.lit (.i 0))])])]), (.call 1 0 [(.lit (.i 0))])])]), (.lit (.r []))])]) (.call 5 0 [(.lit (.i 5))]))) (.call 6 0 [(.call 3 1 [(.call 3 3 [(.call 0 0 [(.lit (.i 10))]), (.call 2 0 [(.lit (.s ⟨#[102]⟩)), (.row [(.call 2 0 [(.lit (.s ⟨#[103]⟩)), (.row [(.call 1 0 [(.lit (.i 0))])])]), (.call 1 0 [(.lit (.i 0))])])]), (.lit (.r []))]), (.call 1 0 [(.lit (.i 1))]), (.call 3 1 [(.call 0 0 [(.lit (.i 10))]), (.call 2 0 [(.lit (.s ⟨#[102]⟩)), (.row [(.call 2 0 [(.lit (.s ⟨#[103]⟩)), (.row [(.call 1 0 [(.lit (.i 0))])])]), (.call 1 0 [(.lit (.i 0))])])]), (.lit (.r []))])]), (.row [(.mk [(.lit (.i 0)), (.call 5 0 [(.lit (.i 4))])]), (.mk [(.lit (.i 1)), (.call 5 0 [(.lit (.i 5))])])])])) (.eq (.call 7 1 [(.call 3 3 [(.call 3 3 [(.call 0 0 [(.lit (.i 10))]), (.call 2 0 [(.lit (.s ⟨#[102]⟩)), (.row [(.call 2 0 [(.lit (.s ⟨#[103]⟩)), (.row [(.call 1 0 [(.lit (.i 0))])])]), (.call 1 0 [(.lit (.i 0))])])]), (.lit (.r []))]), (.call 1 0 [(.lit (.i 1))]), (.call 3 1 [(.call 0 0 [(.lit (.i 10))]), (.call 2 0 [(.lit (.s ⟨#[102]⟩)), (.row [(.call 2 0 [(.lit (.s ⟨#[103]⟩)), (.row [(.call 1 0 [(.lit (.i 0))])])]), (.call 1 0 [(.lit (.i 0))])])]), (.lit (.r []))])]), (.call 4 0 [(.lit (.i 0))])]) (.lit (.i 0)))) (.call 8 0 [(.call 7 0 [(.call 3 3 [(.call 3 3 [(.call 0 0 [(.lit (.i 10))]), (.call 2 0 [(.lit (.s ⟨#[102]⟩)), (.row [(.call 2 0 [(.lit (.s ⟨#[103]⟩)), (.row [(.call 1 0 [(.lit (.i 0))])])]), (.call 1 0 [(.lit (.i 0))])])]), (.lit (.r []))]), (.call 1 0 [(.lit (.i 1))]), (.call 3 1 [(.call 0 0 [(.lit (.i 10))]), (.call 2 0 [(.lit (.s ⟨#[102]⟩)), (.row [(.call 2 0 [(.lit (.s ⟨#[103]⟩)), (.row [(.call 1 0 [(.lit (.i 0))])])]), (.call 1 0 [(.lit (.i 0))])])]), (.lit (.r []))])]), (.call 4 0 [(.lit (.i 0))])]), (.call 2 0 [(.lit (.s ⟨#[102]⟩)), (.row [(.call 2 0 [(.lit (.s ⟨#[103]⟩)), (.row [(.call 1 0 [(.lit (.i 4))])])]), (.call 1 0 [(.lit (.i 4))])])])])) (.eq (.call 9 0 [(.call 3 3 [(.call 3 3 [(.call 0 0 [(.lit (.i 10))]), (.call 2 0 [(.lit (.s ⟨#[102]⟩)), (.row [(.call 2 0 [(.lit (.s ⟨#[103]⟩)), (.row [(.call 1 0 [(.lit (.i 0))])])]), (.call 1 0 [(.lit (.i 0))])])]), (.lit (.r []))]), (.call 1 0 [(.lit (.i 1))]), (.call 3 1 [(.call 0 0 [(.lit (.i 10))]), (.call 2 0 [(.lit (.s ⟨#[102]⟩)), (.row [(.call 2 0 [(.lit (.s ⟨#[103]⟩)), (.row [(.call 1 0 [(.lit (.i 0))])])]), (.call 1 0 [(.lit (.i 0))])])]), (.lit (.r []))])]), (.call 5 0 [(.lit (.i 2))])]) (.call 5 0 [(.lit (.i 4))]))) (.ok 5 [(.lit (.i 1))])), (.imp (.and (.and (.and (.and (.eq (.call 3 2 [(.call 3 3 [(.call 0 0 [(.lit (.i 10))]), (.call 2 0 [(.lit (.s ⟨#[102]⟩)), (.row [(.call 2 0 [(.lit (.s ⟨#[103]⟩)), (.row [(.call 1 0 [(.lit (.i 0))])])]), (.call 1 0 [(.lit (.i 0))])])]), (.lit (.r []))]), (.call 1 0 [(.lit (.i 1))]), (.call 3 1 [(.call 0 0 [(.lit (.i 10))]), (.call 2 0 [(.lit (.s ⟨#[102]⟩)), (.row [(.call 2 0 [(.lit (.s ⟨#[103]⟩)), (.row [(.call 1 0 [(.lit (.i 0))])])]), (.call 1 0 [(.lit (.i 0))])])]), (.lit (.r []))])]) (.lit (.i 0))) (.eq (.call 3 0 [(.call 3 3 [(.call 0 0 [(.lit (.i 10))]), (.call 2 0 [(.lit (.s ⟨#[102]⟩)), (.row [(.call 2 0 [(.lit (.s ⟨#[103]⟩)), (.row [(.call 1 0 [(.lit (.i 0))])])]), (.call 1 0 [(.lit (.i 0))])])]), (.lit (.r []))]), (.call 1 0 [(.lit (.i 1))]), (.call 3 1 [(.call 0 0 [(.lit (.i 10))]), (.call 2 0 [(.lit (.s ⟨#[102]⟩)), (.row [(.call 2 0 [(.lit (.s ⟨#[103]⟩)), (.row [(.call 1 0 [(.lit (.i 0))])])]), (.call 1 0 [(.lit (.i 0))])])]), (.lit (.r []))])]) (.call 5 0 [(.lit (.i 5))]))) (.call 6 0 [(.call 3 1 [(.call 3 3 [(.call 0 0 [(.lit (.i 10))]), (.call 2 0 [(.lit (.s ⟨#[102]⟩)), (.row [(.call 2 0 [(.lit (.s ⟨#[103]⟩)), (.row [(.call 1 0 [(.lit (.i 0))])])]), (.call 1 0 [(.lit (.i 0))])])]), (.lit (.r []))]), (.call 1 0 [(.lit (.i 1))]), (.call 3 1 [(.call 0 0 [(.lit (.i 10))]), (.call 2 0 [(.lit (.s ⟨#[102]⟩)), (.row [(.call 2 0 [(.lit (.s ⟨#[103]⟩)), (.row [(.call 1 0 [(.lit (.i 0))])])]), (.call 1 0 [(.lit (.i 0))])])]), (.lit (.r []))])]), (.row [(.mk [(.lit (.i 0)), (.call 5 0 [(.lit (.i 4))])]), (.mk [(.lit (.i 1)), (.call 5 0 [(.lit (.i 5))])])])])) (.eq (.call 7 1 [(.call 3 3 [(.call 3 3 [(.call 0 0 [(.lit (.i 10))]), (.call 2 0 [(.lit (.s ⟨#[102]⟩)), (.row [(.call 2 0 [(.lit (.s ⟨#[103]⟩)), (.row [(.call 1 0 [(.lit (.i 0))])])]), (.call 1 0 [(.lit (.i 0))])])]), (.lit (.r []))]), (.call 1 0 [(.lit (.i 1))]), (.call 3 1 [(.call 0 0 [(.lit (.i 10))]), (.call 2 0 [(.lit (.s ⟨#[102]⟩)), (.row [(.call 2 0 [(.lit (.s ⟨#[103]⟩)), (.row [(.call 1 0 [(.lit (.i 0))])])]), (.call 1 0 [(.lit (.i 0))])])]), (.lit (.r []))])]), (.call 4 0 [(.lit (.i 0))])]) (.lit (.i 0)))) (.call 8 0 [(.call 7 0 [(.call 3 3 [(.call 3 3 [(.call 0 0 [(.lit (.i 10))]), (.call 2 0 [(.lit (.s ⟨#[102]⟩)), (.row [(.call 2 0 [(.lit (.s ⟨#[103]⟩)), (.row [(.call 1 0 [(.lit (.i 0))])])]), (.call 1 0 [(.lit (.i 0))])])]), (.lit (.r []))]), (.call 1 0 [(.lit (.i 1))]), (.call 3 1 [(.call 0 0 [(.lit (.i 10))]), (.call 2 0 [(.lit (.s ⟨#[102]⟩)), (.row [(.call 2 0 [(.lit (.s ⟨#[103]⟩)), (.row [(.call 1 0 [(.lit (.i 0))])])]), (.call 1 0 [(.lit (.i 0))])])]), (.lit (.r []))])]), (.call 4 0 [(.lit (.i 0))])]), (.call 2 0 [(.lit (.s ⟨#[102]⟩)), (.row [(.call 2 0 [(.lit (.s ⟨#[103]⟩)), (.row [(.call 1 0 [(.lit (.i 4))])])]), (.call 1 0 [(.lit (.i 4))])])])])) (.ok 5 [(.lit (.i 4))])), (.imp (.and (.and (.and (.and (.eq (.call 3 2 [(.call 3 3 [(.call 0 0 [(.lit (.i 10))]), (.call 2 0 [(.lit (.s ⟨#[102]⟩)), (.row [(.call 2 0 [(.lit (.s ⟨#[103]⟩)), (.row [(.call 1 0 [(.lit (.i 0))])])]), (.call 1 0 [(.lit (.i 0))])])]), (.lit (.r []))]), (.call 1 0 [(.lit (.i 1))]), (.call 3 1 [(.call 0 0 [(.lit (.i 10))]), (.call 2 0 [(.lit (.s ⟨#[102]⟩)), (.row [(.call 2 0 [(.lit (.s ⟨#[103]⟩)), (.row [(.call 1 0 [(.lit (.i 0))])])]), (.call 1 0 [(.lit (.i 0))])])]), (.lit (.r []))])]) (.lit (.i 0))) (.eq (.call 3 0 [(.call 3 3 [(.call 0 0 [(.lit (.i 10))]), (.call 2 0 [(.lit (.s ⟨#[102]⟩)), (.row [(.call 2 0 [(.lit (.s ⟨#[103]⟩)), (.row [(.call 1 0 [(.lit (.i 0))])])]), (.call 1 0 [(.lit (.i 0))])])]), (.lit (.r []))]), (.call 1 0 [(.lit (.i 1))]), (.call 3 1 [(.call 0 0 [(.lit (.i 10))]), (.call 2 0 [(.lit (.s ⟨#[102]⟩)), (.row [(.call 2 0 [(.lit (.s ⟨#[103]⟩)), (.row [(.call 1 0 [(.lit (.i 0))])])]), (.call 1 0 [(.lit (.i 0))])])]), (.lit (.r []))])]) (.call 5 0 [(.lit (.i 5))]))) (.call 6 0 [(.call 3 1 [(.call 3 3 [(.call 0 0 [(.lit (.i 10))]), (.call 2 0 [(.lit (.s ⟨#[102]⟩)), (.row [(.call 2 0 [(.lit (.s ⟨#[103]⟩)), (.row [(.call 1 0 [(.lit (.i 0))])])]), (.call 1 0 [(.lit (.i 0))])])]), (.lit (.r []))]), (.call 1 0 [(.lit (.i 1))]), (.call 3 1 [(.call 0 0 [(.lit (.i 10))]), (.call 2 0 [(.lit (.s ⟨#[102]⟩)), (.row [(.call 2 0 [(.lit (.s ⟨#[103]⟩)), (.row [(.call 1 0 [(.lit (.i 0))])])]), (.call 1 0 [(.lit (.i 0))])])]), (.lit (.r []))])]), (.row [(.mk [(.lit (.i 0)), (.call 5 0 [(.lit (.i 4))])]), (.mk [(.lit (.i 1)), (.call 5 0 [(.lit (.i 5))])])])])) (.eq (.call 7 1 [(.call 3 3 [(.call 3 3 [(.call 0 0 [(.lit (.i 10))]), (.call 2 0 [(.lit (.s ⟨#[102]⟩)), (.row [(.call 2 0 [(.lit (.s ⟨#[103]⟩)), (.row [(.call 1 0 [(.lit (.i 0))])])]), (.call 1 0 [(.lit (.i 0))])])]), (.lit (.r []))]), (.call 1 0 [(.lit (.i 1))]), (.call 3 1 [(.call 0 0 [(.lit (.i 10))]), (.call 2 0 [(.lit (.s ⟨#[102]⟩)), (.row [(.call 2 0 [(.lit (.s ⟨#[103]⟩)), (.row [(.call 1 0 [(.lit (.i 0))])])]), (.call 1 0 [(.lit (.i 0))])])]), (.lit (.r []))])]), (.call 4 0 [(.lit (.i 0))])]) (.lit (.i 0)))) (.call 8 0 [(.call 7 0 [(.call 3 3 [(.call 3 3 [(.call 0 0 [(.lit (.i 10))]), (.call 2 0 [(.lit (.s ⟨#[102]⟩)), (.row [(.call 2 0 [(.lit (.s ⟨#[103]⟩)), (.row [(.call 1 0 [(.lit (.i 0))])])]), (.call 1 0 [(.lit (.i 0))])])]), (.lit (.r []))]), (.call 1 0 [(.lit (.i 1))]), (.call 3 1 [(.call 0 0 [(.lit (.i 10))]), (.call 2 0 [(.lit (.s ⟨#[102]⟩)), (.row [(.call 2 0 [(.lit (.s ⟨#[103]⟩)), (.row [(.call 1 0 [(.lit (.i 0))])])]), (.call 1 0 [(.lit (.i 0))])])]), (.lit (.r []))])]), (.call 4 0 [(.lit (.i 0))])]), (.call 2 0 [(.lit (.s ⟨#[102]⟩)), (.row [(.call 2 0 [(.lit (.s ⟨#[103]⟩)), (.row [(.call 1 0 [(.lit (.i 4))])])]), (.call 1 0 [(.lit (.i 4))])])])])) (.ok 9 [(.call 3 3 [(.call 3 3 [(.call 0 0 [(.lit (.i 10))]), (.call 2 0 [(.lit (.s ⟨#[102]⟩)), (.row [(.call 2 0 [(.lit (.s ⟨#[103]⟩)), (.row [(.call 1 0 [(.lit (.i 0))])])]), (.call 1 0 [(.lit (.i 0))])])]), (.lit (.r []))]), (.call 1 0 [(.lit (.i 1))]), (.call 3 1 [(.call 0 0 [(.lit (.i 10))]), (.call 2 0 [(.lit (.s ⟨#[102]⟩)), (.row [(.call 2 0 [(.lit (.s ⟨#[103]⟩)), (.row [(.call 1 0 [(.lit (.i 0))])])]), (.call 1 0 [(.lit (.i 0))])])]), (.lit (.r []))])]), (.call 5 0 [(.lit (.i 2))])])), (.imp (.and (.and (.and (.and (.eq (.call 3 2 [(.call 3 3 [(.call 0 0 [(.lit (.i 10))]), (.call 2 0 [(.lit (.s ⟨#[102]⟩)), (.row [(.call 2 0 [(.lit (.s ⟨#[103]⟩)), (.row [(.call 1 0 [(.lit (.i 0))])])]), (.call 1 0 [(.lit (.i 0))])])]), (.lit (.r []))]), (.call 1 0 [(.lit (.i 1))]), (.call 3 1 [(.call 0 0 [(.lit (.i 10))]), (.call 2 0 [(.lit (.s ⟨#[102]⟩)), (.row [(.call 2 0 [(.lit (.s ⟨#[103]⟩)), (.row [(.call 1 0 [(.lit (.i 0))])])]), (.call 1 0 [(.lit (.i 0))])])]), (.lit (.r []))])]) (.lit (.i 0))) (.eq (.call 3 0 [(.call 3 3 [(.call 0 0 [(.lit (.i 10))]), (.call 2 0 [(.lit (.s ⟨#[102]⟩)), (.row [(.call 2 0 [(.lit (.s ⟨#[103]⟩)), (.row [(.call 1 0 [(.lit (.i 0))])])]), (.call 1 0 [(.lit (.i 0))])])]), (.lit (.r []))]), (.call 1 0 [(.lit (.i 1))]), (.call 3 1 [(.call 0 0 [(.lit (.i 10))]), (.call 2 0 [(.lit (.s ⟨#[102]⟩)), (.row [(.call 2 0 [(.lit (.s ⟨#[103]⟩)), (.row [(.call 1 0 [(.lit (.i 0))])])]), (.call 1 0 [(.lit (.i 0))])])]), (.lit (.r []))])]) (.call 5 0 [(.lit (.i 5))]))) (.call 6 0 [(.call 3 1 [(.call 3 3 [(.call 0 0 [(.lit (.i 10))]), (.call 2 0 [(.lit (.s ⟨#[102]⟩)), (.row [(.call 2 0 [(.lit (.s ⟨#[103]⟩)), (.row [(.call 1 0 [(.lit (.i 0))])])]), (.call 1 0 [(.lit (.i 0))])])]), (.lit (.r []))]), (.call 1 0 [(.lit (.i 1))]), (.call 3 1 [(.call 0 0 [(.lit (.i 10))]), (.call 2 0 [(.lit (.s ⟨#[102]⟩)), (.row [(.call 2 0 [(.lit (.s ⟨#[103]⟩)), (.row [(.call 1 0 [(.lit (.i 0))])])]), (.call 1 0 [(.lit (.i 0))])])]), (.lit (.r []))])]), (.row [(.mk [(.lit (.i 0)), (.call 5 0 [(.lit (.i 4))])]), (.mk [(.lit (.i 1)), (.call 5 0 [(.lit (.i 5))])])])])) (.eq (.call 7 1 [(.call 3 3 [(.call 3 3 [(.call 0 0 [(.lit (.i 10))]), (.call 2 0 [(.lit (.s ⟨#[102]⟩)), (.row [(.call 2 0 [(.lit (.s ⟨#[103]⟩)), (.row [(.call 1 0 [(.lit (.i 0))])])]), (.call 1 0 [(.lit (.i 0))])])]), (.lit (.r []))]), (.call 1 0 [(.lit (.i 1))]), (.call 3 1 [(.call 0 0 [(.lit (.i 10))]), (.call 2 0 [(.lit (.s ⟨#[102]⟩)), (.row [(.call 2 0 [(.lit (.s ⟨#[103]⟩)), (.row [(.call 1 0 [(.lit (.i 0))])])]), (.call 1 0 [(.lit (.i 0))])])]), (.lit (.r []))])]), (.call 4 0 [(.lit (.i 0))])]) (.lit (.i 0)))) (.call 8 0 [(.call 7 0 [(.call 3 3 [(.call 3 3 [(.call 0 0 [(.lit (.i 10))]), (.call 2 0 [(.lit (.s ⟨#[102]⟩)), (.row [(.call 2 0 [(.lit (.s ⟨#[103]⟩)), (.row [(.call 1 0 [(.lit (.i 0))])])]), (.call 1 0 [(.lit (.i 0))])])]), (.lit (.r []))]), (.call 1 0 [(.lit (.i 1))]), (.call 3 1 [(.call 0 0 [(.lit (.i 10))]), (.call 2 0 [(.lit (.s ⟨#[102]⟩)), (.row [(.call 2 0 [(.lit (.s ⟨#[103]⟩)), (.row [(.call 1 0 [(.lit (.i 0))])])]), (.call 1 0 [(.lit (.i 0))])])]), (.lit (.r []))])]), (.call 4 0 [(.lit (.i 0))])]), (.call 2 0 [(.lit (.s ⟨#[102]⟩)), (.row [(.call 2 0 [(.lit (.s ⟨#[103]⟩)), (.row [(.call 1 0 [(.lit (.i 4))])])]), (.call 1 0 [(.lit (.i 4))])])])])) (.ok 5 [(.lit (.i 2))])), (.imp (.and (.and (.and (.eq (.call 3 2 [(.call 3 3 [(.call 0 0 [(.lit (.i 10))]), (.call 2 0 [(.lit (.s ⟨#[102]⟩)), (.row [(.call 2 0 [(.lit (.s ⟨#[103]⟩)), (.row [(.call 1 0 [(.lit (.i 0))])])]), (.call 1 0 [(.lit (.i 0))])])]), (.lit (.r []))]), (.call 1 0 [(.lit (.i 1))]), (.call 3 1 [(.call 0 0 [(.lit (.i 10))]), (.call 2 0 [(.lit (.s ⟨#[102]⟩)), (.row [(.call 2 0 [(.lit (.s ⟨#[103]⟩)), (.row [(.call 1 0 [(.lit (.i 0))])])]), (.call 1 0 [(.lit (.i 0))])])]), (.lit (.r []))])]) (.lit (.i 0))) (.eq (.call 3 0 [(.call 3 3 [(.call 0 0 [(.lit (.i 10))]), (.call 2 0 [(.lit (.s ⟨#[102]⟩)), (.row [(.call 2 0 [(.lit (.s ⟨#[103]⟩)), (.row [(.call 1 0 [(.lit (.i 0))])])]), (.call 1 0 [(.lit (.i 0))])])]), (.lit (.r []))]), (.call 1 0 [(.lit (.i 1))]), (.call 3 1 [(.call 0 0 [(.lit (.i 10))]), (.call 2 0 [(.lit (.s ⟨#[102]⟩)), (.row [(.call 2 0 [(.lit (.s ⟨#[103]⟩)), (.row [(.call 1 0 [(.lit (.i 0))])])]), (.call 1 0 [(.lit (.i 0))])])]), (.lit (.r []))])]) (.call 5 0 [(.lit (.i 5))]))) (.call 6 0 [(.call 3 1 [(.call 3 3 [(.call 0 0 [(.lit (.i 10))]), (.call 2 0 [(.lit (.s ⟨#[102]⟩)), (.row [(.call 2 0 [(.lit (.s ⟨#[103]⟩)), (.row [(.call 1 0 [(.lit (.i 0))])])]), (.call 1 0 [(.lit (.i 0))])])]), (.lit (.r []))]), (.call 1 0 [(.lit (.i 1))]), (.call 3 1 [(.call 0 0 [(.lit (.i 10))]), (.call 2 0 [(.lit (.s ⟨#[102]⟩)), (.row [(.call 2 0 [(.lit (.s ⟨#[103]⟩)), (.row [(.call 1 0 [(.lit (.i 0))])])]), (.call 1 0 [(.lit (.i 0))])])]), (.lit (.r []))])]), (.row [(.mk [(.lit (.i 0)), (.call 5 0 [(.lit (.i 4))])]), (.mk [(.lit (.i 1)), (.call 5 0 [(.lit (.i 5))])])])])) (.eq (.call 7 1 [(.call 3 3 [(.call 3 3 [(.call 0 0 [(.lit (.i 10))]), (.call 2 0 [(.lit (.s ⟨#[102]⟩)), (.row [(.call 2 0 [(.lit (.s ⟨#[103]⟩)), (.row [(.call 1 0 [(.lit (.i 0))])])]), (.call 1 0 [(.lit (.i 0))])])]), (.lit (.r []))]), (.call 1 0 [(.lit (.i 1))]), (.call 3 1 [(.call 0 0 [(.lit (.i 10))]), (.call 2 0 [(.lit (.s ⟨#[102]⟩)), (.row [(.call 2 0 [(.lit (.s ⟨#[103]⟩)), (.row [(.call 1 0 [(.lit (.i 0))])])]), (.call 1 0 [(.lit (.i 0))])])]), (.lit (.r []))])]), (.call 4 0 [(.lit (.i 0))])]) (.lit (.i 0)))) (.ok 8 [(.call 7 0 [(.call 3 3 [(.call 3 3 [(.call 0 0 [(.lit (.i 10))]), (.call 2 0 [(.lit (.s ⟨#[102]⟩)), (.row [(.call 2 0 [(.lit (.s ⟨#[103]⟩)), (.row [(.call 1 0 [(.lit (.i 0))])])]), (.call 1 0 [(.lit (.i 0))])])]), (.lit (.r []))]), (.call 1 0 [(.lit (.i 1))]), (.call 3 1 [(.call 0 0 [(.lit (.i 10))]), (.call 2 0 [(.lit (.s ⟨#[102]⟩)), (.row [(.call 2 0 [(.lit (.s ⟨#[103]⟩)), (.row [(.call 1 0 [(.lit (.i 0))])])]), (.call 1 0 [(.lit (.i 0))])])]), (.lit (.r []))])]), (.call 4 0 [(.lit (.i 0))])]), (.call 2 0 [(.lit (.s ⟨#[102]⟩)), (.row [(.call 2 0 [(.lit (.s ⟨#[103]⟩)), (.row [(.call 1 0 [(.lit (.i 4))])])]), (.call 1 0 [(.lit (.i 4))])])])])), (.imp (.and (.and (.and (.eq (.call 3 2 [(.call 3 3 [(.call 0 0 [(.lit (.i 10))]), (.call 2 0 [(.lit (.s ⟨#[102]⟩)), (.row [(.call 2 0 [(.lit (.s ⟨#[103]⟩)), (.row [(.call 1 0 [(.lit (.i 0))])])]), (.call 1 0 [(.lit (.i 0))])])]), (.lit (.r []))]), (.call 1 0 [(.lit (.i 1))]), (.call 3 1 [(.call 0 0 [(.lit (.i 10))]), (.call 2 0 [(.lit (.s ⟨#[102]⟩)), (.row [(.call 2 0 [(.lit (.s ⟨#[103]⟩)), (.row [(.call 1 0 [(.lit (.i 0))])])]), (.call 1 0 [(.lit (.i 0))])])]), (.lit (.r []))])]) (.lit (.i 0))) (.eq (.call 3 0 [(.call 3 3 [(.call 0 0 [(.lit (.i 10))]), (.call 2 0 [(.lit (.s ⟨#[102]⟩)), (.row [(.call 2 0 [(.lit (.s ⟨#[103]⟩)), (.row [(.call 1 0 [(.lit (.i 0))])])]), (.call 1 0 [(.lit (.i 0))])])]), (.lit (.r []))]), (.call 1 0 [(.lit (.i 1))]), (.call 3 1 [(.call 0 0 [(.lit (.i 10))]), (.call 2 0 [(.lit (.s ⟨#[102]⟩)), (.row [(.call 2 0 [(.lit (.s ⟨#[103]⟩)), (.row [(.call 1 0 [(.lit (.i 0))])])]), (.call 1 0 [(.lit (.i 0))])])]), (.lit (.r []))])]) (.call 5 0 [(.lit (.i 5))]))) (.call 6 0 [(.call 3 1 [(.call 3 3 [(.call 0 0 [(.lit (.i 10))]), (.call 2 0 [(.lit (.s ⟨#[102]⟩)), (.row [(.call 2 0 [(.lit (.s ⟨#[103]⟩)), (.row [(.call 1 0 [(.lit (.i 0))])])]), (.call 1 0 [(.lit (.i 0))])])]), (.lit (.r []))]), (.call 1 0 [(.lit (.i 1))]), (.call 3 1 [(.call 0 0 [(.lit (.i 10))]), (.call 2 0 [(.lit (.s ⟨#[102]⟩)), (.row [(.call 2 0 [(.lit (.s ⟨#[103]⟩)), (.row [(.call 1 0 [(.lit (.i 0))])])]), (.call 1 0 [(.lit (.i 0))])])]), (.lit (.r []))])]), (.row [(.mk [(.lit (.i 0)), (.call 5 0 [(.lit (.i 4))])]), (.mk [(.lit (.i 1)), (.call 5 0 [(.lit (.i 5))])])])])) (.eq (.call 7 1 [(.call 3 3 [(.call 3 3 [(.call 0 0 [(.lit (.i 10))]), (.call 2 0 [(.lit (.s ⟨#[102]⟩)), (.row [(.call 2 0 [(.lit (.s ⟨#[103]⟩)), (.row [(.call 1 0 [(.lit (.i 0))])])]), (.call 1 0 [(.lit (.i 0))])])]), (.lit (.r []))]), (.call 1 0 [(.lit (.i 1))]), (.call 3 1 [(.call 0 0 [(.lit (.i 10))]), (.call 2 0 [(.lit (.s ⟨#[102]⟩)), (.row [(.call 2 0 [(.lit (.s ⟨#[103]⟩)), (.row [(.call 1 0 [(.lit (.i 0))])])]), (.call 1 0 [(.lit (.i 0))])])]), (.lit (.r []))])]), (.call 4 0 [(.lit (.i 0))])]) (.lit (.i 0)))) (.ok 2 [(.lit (.s ⟨#[102]⟩)), (.row [(.call 2 0 [(.lit (.s ⟨#[103]⟩)), (.row [(.call 1 0 [(.lit (.i 4))])])]), (.call 1 0 [(.lit (.i 4))])])])), (.imp (.and (.and (.and (.eq (.call 3 2 [(.call 3 3 [(.call 0 0 [(.lit (.i 10))]), (.call 2 0 [(.lit (.s ⟨#[102]⟩)), (.row [(.call 2 0 [(.lit (.s ⟨#[103]⟩)), (.row [(.call 1 0 [(.lit (.i 0))])])]), (.call 1 0 [(.lit (.i 0))])])]), (.lit (.r []))]), (.call 1 0 [(.lit (.i 1))]), (.call 3 1 [(.call 0 0 [(.lit (.i 10))]), (.call 2 0 [(.lit (.s ⟨#[102]⟩)), (.row [(.call 2 0 [(.lit (.s ⟨#[103]⟩)), (.row [(.call 1 0 [(.lit (.i 0))])])]), (.call 1 0 [(.lit (.i 0))])])]), (.lit (.r []))])]) (.lit (.i 0))) (.eq (.call 3 0 [(.call 3 3 [(.call 0 0 [(.lit (.i 10))]), (.call 2 0 [(.lit (.s ⟨#[102]⟩)), (.row [(.call 2 0 [(.lit (.s ⟨#[103]⟩)), (.row [(.call 1 0 [(.lit (.i 0))])])]), (.call 1 0 [(.lit (.i 0))])])]), (.lit (.r []))]), (.call 1 0 [(.lit (.i 1))]), (.call 3 1 [(.call 0 0 [(.lit (.i 10))]), (.call 2 0 [(.lit (.s ⟨#[102]⟩)), (.row [(.call 2 0 [(.lit (.s ⟨#[103]⟩)), (.row [(.call 1 0 [(.lit (.i 0))])])]), (.call 1 0 [(.lit (.i 0))])])]), (.lit (.r []))])]) (.call 5 0 [(.lit (.i 5))]))) (.call 6 0 [(.call 3 1 [(.call 3 3 [(.call 0 0 [(.lit (.i 10))]), (.call 2 0 [(.lit (.s ⟨#[102]⟩)), (.row [(.call 2 0 [(.lit (.s ⟨#[103]⟩)), (.row [(.call 1 0 [(.lit (.i 0))])])]), (.call 1 0 [(.lit (.i 0))])])]), (.lit (.r []))]), (.call 1 0 [(.lit (.i 1))]), (.call 3 1 [(.call 0 0 [(.lit (.i 10))]), (.call 2 0 [(.lit (.s ⟨#[102]⟩)), (.row [(.call 2 0 [(.lit (.s ⟨#[103]⟩)), (.row [(.call 1 0 [(.lit (.i 0))])])]), (.call 1 0 [(.lit (.i 0))])])]), (.lit (.r []))])]), (.row [(.mk [(.lit (.i 0)), (.call 5 0 [(.lit (.i 4))])]), (.mk [(.lit (.i 1)), (.call 5 0 [(.lit (.i 5))])])])])) (.eq (.call 7 1 [(.call 3 3 [(.call 3 3 [(.call 0 0 [(.lit (.i 10))]), (.call 2 0 [(.lit (.s ⟨#[102]⟩)), (.row [(.call 2 0 [(.lit (.s ⟨#[103]⟩)), (.row [(.call 1 0 [(.lit (.i 0))])])]), (.call 1 0 [(.lit (.i 0))])])]), (.lit (.r []))]), (.call 1 0 [(.lit (.i 1))]), (.call 3 1 [(.call 0 0 [(.lit (.i 10))]), (.call 2 0 [(.lit (.s ⟨#[102]⟩)), (.row [(.call 2 0 [(.lit (.s ⟨#[103]⟩)), (.row [(.call 1 0 [(.lit (.i 0))])])]), (.call 1 0 [(.lit (.i 0))])])]), (.lit (.r []))])]), (.call 4 0 [(.lit (.i 0))])]) (.lit (.i 0)))) (.ok 1 [(.lit (.i 4))])), (.imp (.and (.and (.and (.eq (.call 3 2 [(.call 3 3 [(.call 0 0 [(.lit (.i 10))]), (.call 2 0 [(.lit (.s ⟨#[102]⟩)), (.row [(.call 2 0 [(.lit (.s ⟨#[103]⟩)), (.row [(.call 1 0 [(.lit (.i 0))])])]), (.call 1 0 [(.lit (.i 0))])])]), (.lit (.r []))]), (.call 1 0 [(.lit (.i 1))]), (.call 3 1 [(.call 0 0 [(.lit (.i 10))]), (.call 2 0 [(.lit (.s ⟨#[102]⟩)), (.row [(.call 2 0 [(.lit (.s ⟨#[103]⟩)), (.row [(.call 1 0 [(.lit (.i 0))])])]), (.call 1 0 [(.lit (.i 0))])])]), (.lit (.r []))])]) (.lit (.i 0))) (.eq (.call 3 0 [(.call 3 3 [(.call 0 0 [(.lit (.i 10))]), (.call 2 0 [(.lit (.s ⟨#[102]⟩)), (.row [(.call 2 0 [(.lit (.s ⟨#[103]⟩)), (.row [(.call 1 0 [(.lit (.i 0))])])]), (.call 1 0 [(.lit (.i 0))])])]), (.lit (.r []))]), (.call 1 0 [(.lit (.i 1))]), (.call 3 1 [(.call 0 0 [(.lit (.i 10))]), (.call 2 0 [(.lit (.s ⟨#[102]⟩)), (.row [(.call 2 0 [(.lit (.s ⟨#[103]⟩)), (.row [(.call 1 0 [(.lit (.i 0))])])]), (.call 1 0 [(.lit (.i 0))])])]), (.lit (.r []))])]) (.call 5 0 [(.lit (.i 5))]))) (.call 6 0 [(.call 3 1 [(.call 3 3 [(.call 0 0 [(.lit (.i 10))]), (.call 2 0 [(.lit (.s ⟨#[102]⟩)), (.row [(.call 2 0 [(.lit (.s ⟨#[103]⟩)), (.row [(.call 1 0 [(.lit (.i 0))])])]), (.call 1 0 [(.lit (.i 0))])])]), (.lit (.r []))]), (.call 1 0 [(.lit (.i 1))]), (.call 3 1 [(.call 0 0 [(.lit (.i 10))]), (.call 2 0 [(.lit (.s ⟨#[102]⟩)), (.row [(.call 2 0 [(.lit (.s ⟨#[103]⟩)), (.row [(.call 1 0 [(.lit (.i 0))])])]), (.call 1 0 [(.lit (.i 0))])])]), (.lit (.r []))])]), (.row [(.mk [(.lit (.i 0)), (.call 5 0 [(.lit (.i 4))])]), (.mk [(.lit (.i 1)), (.call 5 0 [(.lit (.i 5))])])])])) (.eq (.call 7 1 [(.call 3 3 [(.call 3 3 [(.call 0 0 [(.lit (.i 10))]), (.call 2 0 [(.lit (.s ⟨#[102]⟩)), (.row [(.call 2 0 [(.lit (.s ⟨#[103]⟩)), (.row [(.call 1 0 [(.lit (.i 0))])])]), (.call 1 0 [(.lit (.i 0))])])]), (.lit (.r []))]), (.call 1 0 [(.lit (.i 1))]), (.call 3 1 [(.call 0 0 [(.lit (.i 10))]), (.call 2 0 [(.lit (.s ⟨#[102]⟩)), (.row [(.call 2 0 [(.lit (.s ⟨#[103]⟩)), (.row [(.call 1 0 [(.lit (.i 0))])])]), (.call 1 0 [(.lit (.i 0))])])]), (.lit (.r []))])]), (.call 4 0 [(.lit (.i 0))])]) (.lit (.i 0)))) (.ok 2 [(.lit (.s ⟨#[103]⟩)), (.row [(.call 1 0 [(.lit (.i 4))])])])), (.imp (.and (.and (.and (.eq (.call 3 2 [(.call 3 3 [(.call 0 0 [(.lit (.i 10))]), (.call 2 0 [(.lit (.s ⟨#[102]⟩)), (.row [(.call 2 0 [(.lit (.s ⟨#[103]⟩)), (.row [(.call 1 0 [(.lit (.i 0))])])]), (.call 1 0 [(.lit (.i 0))])])]), (.lit (.r []))]), (.call 1 0 [(.lit (.i 1))]), (.call 3 1 [(.call 0 0 [(.lit (.i 10))]), (.call 2 0 [(.lit (.s ⟨#[102]⟩)), (.row [(.call 2 0 [(.lit (.s ⟨#[103]⟩)), (.row [(.call 1 0 [(.lit (.i 0))])])]), (.call 1 0 [(.lit (.i 0))])])]), (.lit (.r []))])]) (.lit (.i 0))) (.eq (.call 3 0 [(.call 3 3 [(.call 0 0 [(.lit (.i 10))]), (.call 2 0 [(.lit (.s ⟨#[102]⟩)), (.row [(.call 2 0 [(.lit (.s ⟨#[103]⟩)), (.row [(.call 1 0 [(.lit (.i 0))])])]), (.call 1 0 [(.lit (.i 0))])])]), (.lit (.r []))]), (.call 1 0 [(.lit (.i 1))]), (.call 3 1 [(.call 0 0 [(.lit (.i 10))]), (.call 2 0 [(.lit (.s ⟨#[102]⟩)), (.row [(.call 2 0 [(.lit (.s ⟨#[103]⟩)), (.row [(.call 1 0 [(.lit (.i 0))])])]), (.call 1 0 [(.lit (.i 0))])])]), (.lit (.r []))])]) (.call 5 0 [(.lit (.i 5))]))) (.call 6 0 [(.call 3 1 [(.call 3 3 [(.call 0 0 [(.lit (.i 10))]), (.call 2 0 [(.lit (.s ⟨#[102]⟩)), (.row [(.call 2 0 [(.lit (.s ⟨#[103]⟩)), (.row [(.call 1 0 [(.lit (.i 0))])])]), (.call 1 0 [(.lit (.i 0))])])]), (.lit (.r []))]), (.call 1 0 [(.lit (.i 1))]), (.call 3 1 [(.call 0 0 [(.lit (.i 10))]), (.call 2 0 [(.lit (.s ⟨#[102]⟩)), (.row [(.call 2 0 [(.lit (.s ⟨#[103]⟩)), (.row [(.call 1 0 [(.lit (.i 0))])])]), (.call 1 0 [(.lit (.i 0))])])]), (.lit (.r []))])]), (.row [(.mk [(.lit (.i 0)), (.call 5 0 [(.lit (.i 4))])]), (.mk [(.lit (.i 1)), (.call 5 0 [(.lit (.i 5))])])])])) (.eq (.call 7 1 [(.call 3 3 [(.call 3 3 [(.call 0 0 [(.lit (.i 10))]), (.call 2 0 [(.lit (.s ⟨#[102]⟩)), (.row [(.call 2 0 [(.lit (.s ⟨#[103]⟩)), (.row [(.call 1 0 [(.lit (.i 0))])])]), (.call 1 0 [(.lit (.i 0))])])]), (.lit (.r []))]), (.call 1 0 [(.lit (.i 1))]), (.call 3 1 [(.call 0 0 [(.lit (.i 10))]), (.call 2 0 [(.lit (.s ⟨#[102]⟩)), (.row [(.call 2 0 [(.lit (.s ⟨#[103]⟩)), (.row [(.call 1 0 [(.lit (.i 0))])])]), (.call 1 0 [(.lit (.i 0))])])]), (.lit (.r []))])]), (.call 4 0 [(.lit (.i 0))])]) (.lit (.i 0)))) (.ok 1 [(.lit (.i 4))])), (.imp (.and (.eq (.call 3 2 [(.call 3 3 [(.call 0 0 [(.lit (.i 10))]), (.call 2 0 [(.lit (.s ⟨#[102]⟩)), (.row [(.call 2 0 [(.lit (.s ⟨#[103]⟩)), (.row [(.call 1 0 [(.lit (.i 0))])])]), (.call 1 0 [(.lit (.i 0))])])]), (.lit (.r []))]), (.call 1 0 [(.lit (.i 1))]), (.call 3 1 [(.call 0 0 [(.lit (.i 10))]), (.call 2 0 [(.lit (.s ⟨#[102]⟩)), (.row [(.call 2 0 [(.lit (.s ⟨#[103]⟩)), (.row [(.call 1 0 [(.lit (.i 0))])])]), (.call 1 0 [(.lit (.i 0))])])]), (.lit (.r []))])]) (.lit (.i 0))) (.eq (.call 3 0 [(.call 3 3 [(.call 0 0 [(.lit (.i 10))]), (.call 2 0 [(.lit (.s ⟨#[102]⟩)), (.row [(.call 2 0 [(.lit (.s ⟨#[103]⟩)), (.row [(.call 1 0 [(.lit (.i 0))])])]), (.call 1 0 [(.lit (.i 0))])])]), (.lit (.r []))]), (.call 1 0 [(.lit (.i 1))]), (.call 3 1 [(.call 0 0 [(.lit (.i 10))]), (.call 2 0 [(.lit (.s ⟨#[102]⟩)), (.row [(.call 2 0 [(.lit (.s ⟨#[103]⟩)), (.row [(.call 1 0 [(.lit (.i 0))])])]), (.call 1 0 [(.lit (.i 0))])])]), (.lit (.r []))])]) (.call 5 0 [(.lit (.i 5))]))) (.ok 6 [(.call 3 1 [(.call 3 3 [(.call 0 0 [(.lit (.i 10))]), (.call 2 0 [(.lit (.s ⟨#[102]⟩)), (.row [(.call 2 0 [(.lit (.s ⟨#[103]⟩)), (.row [(.call 1 0 [(.lit (.i 0))])])]), (.call 1 0 [(.lit (.i 0))])])]), (.lit (.r []))]), (.call 1 0 [(.lit (.i 1))]), (.call 3 1 [(.call 0 0 [(.lit (.i 10))]), (.call 2 0 [(.lit (.s ⟨#[102]⟩)), (.row [(.call 2 0 [(.lit (.s ⟨#[103]⟩)), (.row [(.call 1 0 [(.lit (.i 0))])])]), (.call 1 0 [(.lit (.i 0))])])]), (.lit (.r []))])]), (.row [(.mk [(.lit (.i 0)), (.call 5 0 [(.lit (.i 4))])]), (.mk [(.lit (.i 1)), (.call 5 0 [(.lit (.i 5))])])])])), (.imp (.and (.eq (.call 3 2 [(.call 3 3 [(.call 0 0 [(.lit (.i 10))]), (.call 2 0 [(.lit (.s ⟨#[102]⟩)), (.row [(.call 2 0 [(.lit (.s ⟨#[103]⟩)), (.row [(.call 1 0 [(.lit (.i 0))])])]), (.call 1 0 [(.lit (.i 0))])])]), (.lit (.r []))]), (.call 1 0 [(.lit (.i 1))]), (.call 3 1 [(.call 0 0 [(.lit (.i 10))]), (.call 2 0 [(.lit (.s ⟨#[102]⟩)), (.row [(.call 2 0 [(.lit (.s ⟨#[103]⟩)), (.row [(.call 1 0 [(.lit (.i 0))])])]), (.call 1 0 [(.lit (.i 0))])])]), (.lit (.r []))])]) (.lit (.i 0))) (.eq (.call 3 0 [(.call 3 3 [(.call 0 0 [(.lit (.i 10))]), (.call 2 0 [(.lit (.s ⟨#[102]⟩)), (.row [(.call 2 0 [(.lit (.s ⟨#[103]⟩)), (.row [(.call 1 0 [(.lit (.i 0))])])]), (.call 1 0 [(.lit (.i 0))])])]), (.lit (.r []))]), (.call 1 0 [(.lit (.i 1))]), (.call 3 1 [(.call 0 0 [(.lit (.i 10))]), (.call 2 0 [(.lit (.s ⟨#[102]⟩)), (.row [(.call 2 0 [(.lit (.s ⟨#[103]⟩)), (.row [(.call 1 0 [(.lit (.i 0))])])]), (.call 1 0 [(.lit (.i 0))])])]), (.lit (.r []))])]) (.call 5 0 [(.lit (.i 5))]))) (.ok 5 [(.lit (.i 5))])), (.imp (.and (.eq (.call 3 2 [(.call 3 3 [(.call 0 0 [(.lit (.i 10))]), (.call 2 0 [(.lit (.s ⟨#[102]⟩)), (.row [(.call 2 0 [(.lit (.s ⟨#[103]⟩)), (.row [(.call 1 0 [(.lit (.i 0))])])]), (.call 1 0 [(.lit (.i 0))])])]), (.lit (.r []))]), (.call 1 0 [(.lit (.i 1))]), (.call 3 1 [(.call 0 0 [(.lit (.i 10))]), (.call 2 0 [(.lit (.s ⟨#[102]⟩)), (.row [(.call 2 0 [(.lit (.s ⟨#[103]⟩)), (.row [(.call 1 0 [(.lit (.i 0))])])]), (.call 1 0 [(.lit (.i 0))])])]), (.lit (.r []))])]) (.lit (.i 0))) (.eq (.call 3 0 [(.call 3 3 [(.call 0 0 [(.lit (.i 10))]), (.call 2 0 [(.lit (.s ⟨#[102]⟩)), (.row [(.call 2 0 [(.lit (.s ⟨#[103]⟩)), (.row [(.call 1 0 [(.lit (.i 0))])])]), (.call 1 0 [(.lit (.i 0))])])]), (.lit (.r []))]), (.call 1 0 [(.lit (.i 1))]), (.call 3 1 [(.call 0 0 [(.lit (.i 10))]), (.call 2 0 [(.lit (.s ⟨#[102]⟩)), (.row [(.call 2 0 [(.lit (.s ⟨#[103]⟩)), (.row [(.call 1 0 [(.lit (.i 0))])])]), (.call 1 0 [(.lit (.i 0))])])]), (.lit (.r []))])]) (.call 5 0 [(.lit (.i 5))]))) (.ok 5 [(.lit (.i 5))])), (.imp (.and (.eq (.call 3 2 [(.call 3 3 [(.call 0 0 [(.lit (.i 10))]), (.call 2 0 [(.lit (.s ⟨#[102]⟩)), (.row [(.call 2 0 [(.lit (.s ⟨#[103]⟩)), (.row [(.call 1 0 [(.lit (.i 0))])])]), (.call 1 0 [(.lit (.i 0))])])]), (.lit (.r []))]), (.call 1 0 [(.lit (.i 1))]), (.call 3 1 [(.call 0 0 [(.lit (.i 10))]), (.call 2 0 [(.lit (.s ⟨#[102]⟩)), (.row [(.call 2 0 [(.lit (.s ⟨#[103]⟩)), (.row [(.call 1 0 [(.lit (.i 0))])])]), (.call 1 0 [(.lit (.i 0))])])]), (.lit (.r []))])]) (.lit (.i 0))) (.eq (.call 3 0 [(.call 3 3 [(.call 0 0 [(.lit (.i 10))]), (.call 2 0 [(.lit (.s ⟨#[102]⟩)), (.row [(.call 2 0 [(.lit (.s ⟨#[103]⟩)), (.row [(.call 1 0 [(.lit (.i 0))])])]), (.call 1 0 [(.lit (.i 0))])])]), (.lit (.r []))]), (.call 1 0 [(.lit (.i 1))]), (.call 3 1 [(.call 0 0 [(.lit (.i 10))]), (.call 2 0 [(.lit (.s ⟨#[102]⟩)), (.row [(.call 2 0 [(.lit (.s ⟨#[103]⟩)), (.row [(.call 1 0 [(.lit (.i 0))])])]), (.call 1 0 [(.lit (.i 0))])])]), (.lit (.r []))])]) (.call 5 0 [(.lit (.i 5))]))) (.ok 5 [(.lit (.i 4))])), (.imp (.eq (.call 3 2 [(.call 3 3 [(.call 0 0 [(.lit (.i 10))]), (.call 2 0 [(.lit (.s ⟨#[102]⟩)), (.row [(.call 2 0 [(.lit (.s ⟨#[103]⟩)), (.row [(.call 1 0 [(.lit (.i 0))])])]), (.call 1 0 [(.lit (.i 0))])])]), (.lit (.r []))]), (.call 1 0 [(.lit (.i 1))]), (.call 3 1 [(.call 0 0 [(.lit (.i 10))]), (.call 2 0 [(.lit (.s ⟨#[102]⟩)), (.row [(.call 2 0 [(.lit (.s ⟨#[103]⟩)), (.row [(.call 1 0 [(.lit (.i 0))])])]), (.call 1 0 [(.lit (.i 0))])])]), (.lit (.r []))])]) (.lit (.i 0))) (.ok 5 [(.lit (.i 5))]))] (.leaf [(.and (.and (.and (.and (.and (.and (.and (.eq (.call 3 2 [(.call 3 3 [(.call 0 0 [(.lit (.i 10))]), (.call 2 0 [(.lit (.s ⟨#[102]⟩)), (.row [(.call 2 0 [(.lit (.s ⟨#[103]⟩)), (.row [(.call 1 0 [(.lit (.i 0))])])]), (.call 1 0 [(.lit (.i 0))])])]), (.lit (.r []))]), (.call 1 0 [(.lit (.i 1))]), (.call 3 1 [(.call 0 0 [(.lit (.i 10))]), (.call 2 0 [(.lit (.s ⟨#[102]⟩)), (.row [(.call 2 0 [(.lit (.s ⟨#[103]⟩)), (.row [(.call 1 0 [(.lit (.i 0))])])]), (.call 1 0 [(.lit (.i 0))])])]), (.lit (.r []))])]) (.lit (.i 0))) (.eq (.call 3 0 [(.call 3 3 [(.call 0 0 [(.lit (.i 10))]), (.call 2 0 [(.lit (.s ⟨#[102]⟩)), (.row [(.call 2 0 [(.lit (.s ⟨#[103]⟩)), (.row [(.call 1 0 [(.lit (.i 0))])])]), (.call 1 0 [(.lit (.i 0))])])]), (.lit (.r []))]), (.call 1 0 [(.lit (.i 1))]), (.call 3 1 [(.call 0 0 [(.lit (.i 10))]), (.call 2 0 [(.lit (.s ⟨#[102]⟩)), (.row [(.call 2 0 [(.lit (.s ⟨#[103]⟩)), (.row [(.call 1 0 [(.lit (.i 0))])])]), (.call 1 0 [(.lit (.i 0))])])]), (.lit (.r []))])]) (.call 5 0 [(.lit (.i 5))]))) (.call 6 0 [(.call 3 1 [(.call 3 3 [(.call 0 0 [(.lit (.i 10))]), (.call 2 0 [(.lit (.s ⟨#[102]⟩)), (.row [(.call 2 0 [(.lit (.s ⟨#[103]⟩)), (.row [(.call 1 0 [(.lit (.i 0))])])]), (.call 1 0 [(.lit (.i 0))])])]), (.lit (.r []))]), (.call 1 0 [(.lit (.i 1))]), (.call 3 1 [(.call 0 0 [(.lit (.i 10))]), (.call 2 0 [(.lit (.s ⟨#[102]⟩)), (.row [(.call 2 0 [(.lit (.s ⟨#[103]⟩)), (.row [(.call 1 0 [(.lit (.i 0))])])]), (.call 1 0 [(.lit (.i 0))])])]), (.lit (.r []))])]), (.row [(.mk [(.lit (.i 0)), (.call 5 0 [(.lit (.i 4))])]), (.mk [(.lit (.i 1)), (.call 5 0 [(.lit (.i 5))])])])])) (.eq (.call 7 1 [(.call 3 3 [(.call 3 3 [(.call 0 0 [(.lit (.i 10))]), (.call 2 0 [(.lit (.s ⟨#[102]⟩)), (.row [(.call 2 0 [(.lit (.s ⟨#[103]⟩)), (.row [(.call 1 0 [(.lit (.i 0))])])]), (.call 1 0 [(.lit (.i 0))])])]), (.lit (.r []))]), (.call 1 0 [(.lit (.i 1))]), (.call 3 1 [(.call 0 0 [(.lit (.i 10))]), (.call 2 0 [(.lit (.s ⟨#[102]⟩)), (.row [(.call 2 0 [(.lit (.s ⟨#[103]⟩)), (.row [(.call 1 0 [(.lit (.i 0))])])]), (.call 1 0 [(.lit (.i 0))])])]), (.lit (.r []))])]), (.call 4 0 [(.lit (.i 0))])]) (.lit (.i 0)))) (.call 8 0 [(.call 7 0 [(.call 3 3 [(.call 3 3 [(.call 0 0 [(.lit (.i 10))]), (.call 2 0 [(.lit (.s ⟨#[102]⟩)), (.row [(.call 2 0 [(.lit (.s ⟨#[103]⟩)), (.row [(.call 1 0 [(.lit (.i 0))])])]), (.call 1 0 [(.lit (.i 0))])])]), (.lit (.r []))]), (.call 1 0 [(.lit (.i 1))]), (.call 3 1 [(.call 0 0 [(.lit (.i 10))]), (.call 2 0 [(.lit (.s ⟨#[102]⟩)), (.row [(.call 2 0 [(.lit (.s ⟨#[103]⟩)), (.row [(.call 1 0 [(.lit (.i 0))])])]), (.call 1 0 [(.lit (.i 0))])])]), (.lit (.r []))])]), (.call 4 0 [(.lit (.i 0))])]), (.call 2 0 [(.lit (.s ⟨#[102]⟩)), (.row [(.call 2 0 [(.lit (.s ⟨#[103]⟩)), (.row [(.call 1 0 [(.lit (.i 4))])])]), (.call 1 0 [(.lit (.i 4))])])])])) (.eq (.call 9 0 [(.call 3 3 [(.call 3 3 [(.call 0 0 [(.lit (.i 10))]), (.call 2 0 [(.lit (.s ⟨#[102]⟩)), (.row [(.call 2 0 [(.lit (.s ⟨#[103]⟩)), (.row [(.call 1 0 [(.lit (.i 0))])])]), (.call 1 0 [(.lit (.i 0))])])]), (.lit (.r []))]), (.call 1 0 [(.lit (.i 1))]), (.call 3 1 [(.call 0 0 [(.lit (.i 10))]), (.call 2 0 [(.lit (.s ⟨#[102]⟩)), (.row [(.call 2 0 [(.lit (.s ⟨#[103]⟩)), (.row [(.call 1 0 [(.lit (.i 0))])])]), (.call 1 0 [(.lit (.i 0))])])]), (.lit (.r []))])]), (.call 5 0 [(.lit (.i 2))])]) (.call 5 0 [(.lit (.i 4))]))) (.eq (.call 9 0 [(.call 3 3 [(.call 3 3 [(.call 0 0 [(.lit (.i 10))]), (.call 2 0 [(.lit (.s ⟨#[102]⟩)), (.row [(.call 2 0 [(.lit (.s ⟨#[103]⟩)), (.row [(.call 1 0 [(.lit (.i 0))])])]), (.call 1 0 [(.lit (.i 0))])])]), (.lit (.r []))]), (.call 1 0 [(.lit (.i 1))]), (.call 3 1 [(.call 0 0 [(.lit (.i 10))]), (.call 2 0 [(.lit (.s ⟨#[102]⟩)), (.row [(.call 2 0 [(.lit (.s ⟨#[103]⟩)), (.row [(.call 1 0 [(.lit (.i 0))])])]), (.call 1 0 [(.lit (.i 0))])])]), (.lit (.r []))])]), (.call 5 0 [(.lit (.i 1))])]) (.call 4 0 [(.lit (.i 3))]))) (.eq (.get (.fld (.call 3 3 [(.call 3 3 [(.call 0 0 [(.lit (.i 10))]), (.call 2 0 [(.lit (.s ⟨#[102]⟩)), (.row [(.call 2 0 [(.lit (.s ⟨#[103]⟩)), (.row [(.call 1 0 [(.lit (.i 0))])])]), (.call 1 0 [(.lit (.i 0))])])]), (.lit (.r []))]), (.call 1 0 [(.lit (.i 1))]), (.call 3 1 [(.call 0 0 [(.lit (.i 10))]), (.call 2 0 [(.lit (.s ⟨#[102]⟩)), (.row [(.call 2 0 [(.lit (.s ⟨#[103]⟩)), (.row [(.call 1 0 [(.lit (.i 0))])])]), (.call 1 0 [(.lit (.i 0))])])]), (.lit (.r []))])]) 1) (.lit (.i 1))) (.mk [(.lit (.s ⟨#[103]⟩)), (.lit (.i 1))])))]))))))))))
set_option maxRecDepth 100000 in
theorem code_law30_awake (g0 g1 g2 g3 g4 g5 g6 g7 g8 g9 : List D → Option (List D)) : ∀ cd, Try.f14.body = some cd → treeOf Try.prog [(ct_cells_New, g0), (ct_law30_x, g1), (ct_law30_f, g2), (ct_cells_Put, g3), (ct_law30_str, g4), (ct_law30_ref, g5), (ct_law30_vars, g6), (ct_cells_Get, g7), (ct_ref03_Same, g8), (ct_cells_Deref, g9)] ann_law30_awake ct_law30_awake Try.f14 cd = tree_law30_awake := by
  intro cd h
  injection h with h
  subst h
  kernel_rfl
theorem fok_law30_awake {g0 g1 g2 g3 g4 g5 g6 g7 g8 g9 : List D → Option (List D)} {g : List D → Option (List D)} (h0 : FOk ct_cells_New g0) (h1 : FOk ct_law30_x g1) (h2 : FOk ct_law30_f g2) (h3 : FOk ct_cells_Put g3) (h4 : FOk ct_law30_str g4) (h5 : FOk ct_law30_ref g5) (h6 : FOk ct_law30_vars g6) (h7 : FOk ct_cells_Get g7) (h8 : FOk ct_ref03_Same g8) (h9 : FOk ct_cells_Deref g9) (h : ∀ ds outs, WfA ct_law30_awake.ars ds → g ds = some outs → tree_law30_awake.go (tblS [(ct_cells_New, g0), (ct_law30_x, g1), (ct_law30_f, g2), (ct_cells_Put, g3), (ct_law30_str, g4), (ct_law30_ref, g5), (ct_law30_vars, g6), (ct_cells_Get, g7), (ct_ref03_Same, g8), (ct_cells_Deref, g9)]) (fun o => o = outs) ds fun _ _ => False) : FOk ct_law30_awake g :=
  fok_of ann_law30_awake Try.f14 _ (.cons h0 (.cons h1 (.cons h2 (.cons h3 (.cons h4 (.cons h5 (.cons h6 (.cons h7 (.cons h8 (.cons h9 .nil)))))))))) rfl rfl enter_law30_awake (by decide) fun ds outs hw hg => by rw [code_law30_awake g0 g1 g2 g3 g4 g5 g6 g7 g8 g9 _ rfl]; exact h ds outs hw hg

def ct_law30_CellsEqual : Ct := ⟨8, [.val (.st 26), .val (.st 26)], [(.bool, false)], []⟩
theorem enter_law30_CellsEqual (args : Array Value) (w : World) : (callFunc ct_law30_CellsEqual.f args).run Try.prog w = .ok (.enter ct_law30_CellsEqual.f args) w := by kernel_rfl
def ann_law30_CellsEqual : Ann := ⟨[0, 1, 2, 3, 4], []⟩
def tree_law30_CellsEqual : Tree := (.need [(.imp (.and (.eq (.call 0 0 [(.tok 0), (.tok 1)]) (.call 1 0 [(.tok 0), (.tok 1)])) (.call 0 0 [(.tok 0), (.tok 0)])) (.ok 2 [])), (.imp (.eq (.call 0 0 [(.tok 0), (.tok 1)]) (.call 1 0 [(.tok 0), (.tok 1)])) (.ok 0 [(.tok 0), (.tok 0)])), (.ok 1 [(.tok 0), (.tok 1)]), (.ok 0 [(.tok 0), (.tok 1)])] (.leaf [(.and (.and (.eq (.call 0 0 [(.tok 0), (.tok 1)]) (.call 1 0 [(.tok 0), (.tok 1)])) (.call 0 0 [(.tok 0), (.tok 0)])) (.call 2 0 []))]))
set_option maxRecDepth 100000 in
theorem code_law30_CellsEqual (g0 g1 g2 : List D → Option (List D)) : ∀ cd, Try.f8.body = some cd → treeOf Try.prog [(ct_cells_Same, g0), (ct_ref30_Same, g1), (ct_law30_awake, g2)] ann_law30_CellsEqual ct_law30_CellsEqual Try.f8 cd = tree_law30_CellsEqual := by
  intro cd h
  injection h with h
  subst h
  kernel_rfl
theorem fok_law30_CellsEqual {g0 g1 g2 : List D → Option (List D)} {g : List D → Option (List D)} (h0 : FOk ct_cells_Same g0) (h1 : FOk ct_ref30_Same g1) (h2 : FOk ct_law30_awake g2) (h : ∀ ds outs, WfA ct_law30_CellsEqual.ars ds → g ds = some outs → tree_law30_CellsEqual.go (tblS [(ct_cells_Same, g0), (ct_ref30_Same, g1), (ct_law30_awake, g2)]) (fun o => o = outs) ds fun _ _ => False) : FOk ct_law30_CellsEqual g :=
  fok_of ann_law30_CellsEqual Try.f8 _ (.cons h0 (.cons h1 (.cons h2 .nil))) rfl rfl enter_law30_CellsEqual (by decide) fun ds outs hw hg => by rw [code_law30_CellsEqual g0 g1 g2 _ rfl]; exact h ds outs hw hg

def ct_ref30_symbols : Ct := ⟨49, [.val (.row 72)], [(.bool, false)], []⟩
theorem enter_ref30_symbols (args : Array Value) (w : World) : (callFunc ct_ref30_symbols.f args).run Try.prog w = .ok (.enter ct_ref30_symbols.f args) w := by kernel_rfl
def ann_ref30_symbols : Ann := ⟨[0, 2, 3, 4, 7, 12, 46], [(5, ⟨[(2, .bool, false), (4, .int .i64, false), (3, .map 72 3, false)], [], [9, 10, 11, 12, 15, 16, 17, 18, 19, 20, 21, 22, 23, 24, 25, 26, 27, 28, 29, 30, 31, 32, 33, 34, 35, 36, 37, 38, 39, 40, 41, 42, 43, 44, 45, 46, 47, 48, 49, 50, 51, 13, 14, 8], []⟩)]⟩
def tree_ref30_symbols : Tree := (.br (.lt (.lit (.i 1048576)) (.len (.tok 0))) (.leaf [(.lit (.b .false))]) (.loop 5 1 [(.lit (.b .false)), (.lit (.i 0)), (.lit (.mp []))] (.br (.lt (.tok 2) (.len (.tok 0))) (.need [(.le (.lit (.i 0)) (.tok 2)), (.lt (.tok 2) (.len (.tok 0))), (.imp (.not (.lt (.lit (.i 100)) (.slen (.fld (.get (.tok 0) (.tok 2)) 0)))) (.le (.lit (.i 0)) (.tok 2))), (.imp (.not (.lt (.lit (.i 100)) (.slen (.fld (.get (.tok 0) (.tok 2)) 0)))) (.lt (.tok 2) (.len (.tok 0)))), (.imp (.not (.or (.lt (.lit (.i 100)) (.slen (.fld (.get (.tok 0) (.tok 2)) 0))) (.lt (.fld (.get (.tok 0) (.tok 2)) 1) (.lit (.i 0))))) (.le (.lit (.i 0)) (.tok 2))), (.imp (.not (.or (.lt (.lit (.i 100)) (.slen (.fld (.get (.tok 0) (.tok 2)) 0))) (.lt (.fld (.get (.tok 0) (.tok 2)) 1) (.lit (.i 0))))) (.lt (.tok 2) (.len (.tok 0)))), (.imp (.not (.or (.or (.lt (.lit (.i 100)) (.slen (.fld (.get (.tok 0) (.tok 2)) 0))) (.lt (.fld (.get (.tok 0) (.tok 2)) 1) (.lit (.i 0)))) (.lt (.lit (.i 8)) (.fld (.get (.tok 0) (.tok 2)) 1)))) (.le (.lit (.i 0)) (.tok 2))), (.imp (.not (.or (.or (.lt (.lit (.i 100)) (.slen (.fld (.get (.tok 0) (.tok 2)) 0))) (.lt (.fld (.get (.tok 0) (.tok 2)) 1) (.lit (.i 0)))) (.lt (.lit (.i 8)) (.fld (.get (.tok 0) (.tok 2)) 1)))) (.lt (.tok 2) (.len (.tok 0))))] (.br (.or (.or (.or (.lt (.lit (.i 100)) (.slen (.fld (.get (.tok 0) (.tok 2)) 0))) (.lt (.fld (.get (.tok 0) (.tok 2)) 1) (.lit (.i 0)))) (.lt (.lit (.i 8)) (.fld (.get (.tok 0) (.tok 2)) 1))) (.eq (.fn 0 [(.tok 3), (.get (.tok 0) (.tok 2)), (.lit (.i 0))]) (.lit (.i 1)))) (.leaf [(.lit (.b .false))]) (.need [(.le (.lit (.i 0)) (.tok 2)), (.lt (.tok 2) (.len (.tok 0)))] (.need [(.rng .i64 (.add (.tok 2) (.lit (.i 1))))] (.back 5 [(.tok 1), (.add (.tok 2) (.lit (.i 1))), (.fn 2 [(.tok 3), (.get (.tok 0) (.tok 2)), (.lit (.i 1))])]))))) (.leaf [(.lit (.b .true))]))))
set_option maxRecDepth 100000 in
theorem code_ref30_symbols : ∀ cd, Try.f49.body = some cd → treeOf Try.prog [] ann_ref30_symbols ct_ref30_symbols Try.f49 cd = tree_ref30_symbols := by
  intro cd h
  injection h with h
  subst h
  kernel_rfl
theorem fok_ref30_symbols {g : List D → Option (List D)}  (h : ∀ ds outs, WfA ct_ref30_symbols.ars ds → g ds = some outs → tree_ref30_symbols.go (tblS []) (fun o => o = outs) ds fun _ _ => False) : FOk ct_ref30_symbols g :=
  fok_of ann_ref30_symbols Try.f49 _ .nil rfl rfl enter_ref30_symbols (by decide) fun ds outs hw hg => by rw [code_ref30_symbols  _ rfl]; exact h ds outs hw hg

def ct_ref30_arity : Ct := ⟨85, [.val (.st 26), .val (.int .i64)], [(.int .i64, false)], []⟩
theorem enter_ref30_arity (args : Array Value) (w : World) : (callFunc ct_ref30_arity.f args).run Try.prog w = .ok (.enter ct_ref30_arity.f args) w := by kernel_rfl
def ann_ref30_arity : Ann := ⟨[0, 1, 2, 4, 13], []⟩
def tree_ref30_arity : Tree := (.br (.or (.lt (.tok 1) (.lit (.i 0))) (.le (.len (.fld (.tok 0) 1)) (.tok 1))) (.leaf [(.lit (.i (-1)))]) (.need [(.le (.lit (.i 0)) (.tok 1)), (.lt (.tok 1) (.len (.fld (.tok 0) 1)))] (.leaf [(.fld (.get (.fld (.tok 0) 1) (.tok 1)) 1)])))
set_option maxRecDepth 100000 in
theorem code_ref30_arity : ∀ cd, Try.f85.body = some cd → treeOf Try.prog [] ann_ref30_arity ct_ref30_arity Try.f85 cd = tree_ref30_arity := by
  intro cd h
  injection h with h
  subst h
  kernel_rfl
theorem fok_ref30_arity {g : List D → Option (List D)}  (h : ∀ ds outs, WfA ct_ref30_arity.ars ds → g ds = some outs → tree_ref30_arity.go (tblS []) (fun o => o = outs) ds fun _ _ => False) : FOk ct_ref30_arity g :=
  fok_of ann_ref30_arity Try.f85 _ .nil rfl rfl enter_ref30_arity (by decide) fun ds outs hw hg => by rw [code_ref30_arity  _ rfl]; exact h ds outs hw hg

def ct_ref30_ranged : Ct := ⟨71, [.val (.st 26), .val (.int .i64)], [(.bool, false)], []⟩
theorem enter_ref30_ranged (args : Array Value) (w : World) : (callFunc ct_ref30_ranged.f args).run Try.prog w = .ok (.enter ct_ref30_ranged.f args) w := by kernel_rfl
def ann_ref30_ranged : Ann := ⟨[0, 1, 2, 4], []⟩
def tree_ref30_ranged : Tree := (.leaf [(.and (.le (.lit (.i 0)) (.tok 1)) (.lt (.tok 1) (.len (.fld (.tok 0) 0))))])
set_option maxRecDepth 100000 in
theorem code_ref30_ranged : ∀ cd, Try.f71.body = some cd → treeOf Try.prog [] ann_ref30_ranged ct_ref30_ranged Try.f71 cd = tree_ref30_ranged := by
  intro cd h
  injection h with h
  subst h
  kernel_rfl
theorem fok_ref30_ranged {g : List D → Option (List D)}  (h : ∀ ds outs, WfA ct_ref30_ranged.ars ds → g ds = some outs → tree_ref30_ranged.go (tblS []) (fun o => o = outs) ds fun _ _ => False) : FOk ct_ref30_ranged g :=
  fok_of ann_ref30_ranged Try.f71 _ .nil rfl rfl enter_ref30_ranged (by decide) fun ds outs hw hg => by rw [code_ref30_ranged  _ rfl]; exact h ds outs hw hg

def ct_ref30_tag : Ct := ⟨84, [.val (.st 26), .val (.int .i64)], [(.int .i64, false)], []⟩
theorem enter_ref30_tag (args : Array Value) (w : World) : (callFunc ct_ref30_tag.f args).run Try.prog w = .ok (.enter ct_ref30_tag.f args) w := by kernel_rfl
def ann_ref30_tag : Ann := ⟨[0, 1, 2, 4, 8], []⟩
def tree_ref30_tag : Tree := (.need [(.ok 0 [(.tok 0), (.tok 1)])] (.br (.not (.call 0 0 [(.tok 0), (.tok 1)])) (.leaf [(.lit (.i (-1)))]) (.need [(.le (.lit (.i 0)) (.tok 1)), (.lt (.tok 1) (.len (.fld (.tok 0) 0)))] (.leaf [(.fld (.get (.fld (.tok 0) 0) (.tok 1)) 0)]))))
set_option maxRecDepth 100000 in
theorem code_ref30_tag (g0 : List D → Option (List D)) : ∀ cd, Try.f84.body = some cd → treeOf Try.prog [(ct_ref30_ranged, g0)] ann_ref30_tag ct_ref30_tag Try.f84 cd = tree_ref30_tag := by
  intro cd h
  injection h with h
  subst h
  kernel_rfl
theorem fok_ref30_tag {g0 : List D → Option (List D)} {g : List D → Option (List D)} (h0 : FOk ct_ref30_ranged g0) (h : ∀ ds outs, WfA ct_ref30_tag.ars ds → g ds = some outs → tree_ref30_tag.go (tblS [(ct_ref30_ranged, g0)]) (fun o => o = outs) ds fun _ _ => False) : FOk ct_ref30_tag g :=
  fok_of ann_ref30_tag Try.f84 _ (.cons h0 .nil) rfl rfl enter_ref30_tag (by decide) fun ds outs hw hg => by rw [code_ref30_tag g0 _ rfl]; exact h ds outs hw hg

def ct_ref30_ValidCell : Ct := ⟨40, [.val (.st 26), .val (.st 36)], [(.bool, false)], []⟩
theorem enter_ref30_ValidCell (args : Array Value) (w : World) : (callFunc ct_ref30_ValidCell.f args).run Try.prog w = .ok (.enter ct_ref30_ValidCell.f args) w := by kernel_rfl
def ann_ref30_ValidCell : Ann := ⟨[0, 1, 2, 3, 4, 6, 7, 20, 22, 29, 36], []⟩
def tree_ref30_ValidCell : Tree := (.br (.eq (.fld (.tok 1) 0) (.lit (.i 0))) (.need [(.ok 0 [(.tok 0), (.fld (.tok 1) 1)]), (.imp (.call 0 0 [(.tok 0), (.fld (.tok 1) 1)]) (.ok 1 [(.tok 0), (.fld (.tok 1) 1)]))] (.leaf [(.and (.call 0 0 [(.tok 0), (.fld (.tok 1) 1)]) (.not (.eq (.call 1 0 [(.tok 0), (.fld (.tok 1) 1)]) (.lit (.i 4)))))])) (.br (.eq (.fld (.tok 1) 0) (.lit (.i 1))) (.leaf [(.lit (.b .true))]) (.br (.eq (.fld (.tok 1) 0) (.lit (.i 2))) (.need [(.ok 2 [(.tok 0), (.fld (.tok 1) 1)])] (.leaf [(.eq (.call 2 0 [(.tok 0), (.fld (.tok 1) 1)]) (.lit (.i 0)))])) (.br (.eq (.fld (.tok 1) 0) (.lit (.i 3))) (.need [(.ok 1 [(.tok 0), (.fld (.tok 1) 1)])] (.leaf [(.eq (.call 1 0 [(.tok 0), (.fld (.tok 1) 1)]) (.lit (.i 4)))])) (.br (.eq (.fld (.tok 1) 0) (.lit (.i 5))) (.need [(.ok 1 [(.tok 0), (.fld (.tok 1) 1)])] (.leaf [(.eq (.call 1 0 [(.tok 0), (.fld (.tok 1) 1)]) (.lit (.i 5)))])) (.leaf [(.lit (.b .false))]))))))
set_option maxRecDepth 100000 in
theorem code_ref30_ValidCell (g0 g1 g2 : List D → Option (List D)) : ∀ cd, Try.f40.body = some cd → treeOf Try.prog [(ct_ref30_ranged, g0), (ct_ref30_tag, g1), (ct_ref30_arity, g2)] ann_ref30_ValidCell ct_ref30_ValidCell Try.f40 cd = tree_ref30_ValidCell := by
  intro cd h
  injection h with h
  subst h
  kernel_rfl
theorem fok_ref30_ValidCell {g0 g1 g2 : List D → Option (List D)} {g : List D → Option (List D)} (h0 : FOk ct_ref30_ranged g0) (h1 : FOk ct_ref30_tag g1) (h2 : FOk ct_ref30_arity g2) (h : ∀ ds outs, WfA ct_ref30_ValidCell.ars ds → g ds = some outs → tree_ref30_ValidCell.go (tblS [(ct_ref30_ranged, g0), (ct_ref30_tag, g1), (ct_ref30_arity, g2)]) (fun o => o = outs) ds fun _ _ => False) : FOk ct_ref30_ValidCell g :=
  fok_of ann_ref30_ValidCell Try.f40 _ (.cons h0 (.cons h1 (.cons h2 .nil))) rfl rfl enter_ref30_ValidCell (by decide) fun ds outs hw hg => by rw [code_ref30_ValidCell g0 g1 g2 _ rfl]; exact h ds outs hw hg

def ct_ref30_ends : Ct := ⟨93, [.val (.st 26), .val (.int .i64)], [(.bool, false)], []⟩
theorem enter_ref30_ends (args : Array Value) (w : World) : (callFunc ct_ref30_ends.f args).run Try.prog w = .ok (.enter ct_ref30_ends.f args) w := by kernel_rfl
def ann_ref30_ends : Ann := ⟨[0, 1, 2, 4, 5, 10, 26], [(2, ⟨[(4, .bool, false), (1, .int .i64, false), (5, .int .i64, false)], [], [6, 7, 8, 9, 10, 13, 14, 15, 16, 17, 18, 19, 20, 21, 22, 23, 24, 25, 26, 27, 28, 29, 30, 31, 32, 11, 12], []⟩)]⟩
def tree_ref30_ends : Tree := (.loop 2 2 [(.lit (.b .false)), (.tok 1), (.lit (.i 0))] (.br (.le (.tok 4) (.len (.fld (.tok 0) 0))) (.need [(.ok 0 [(.tok 0), (.tok 3)]), (.imp (.not (.not (.eq (.call 0 0 [(.tok 0), (.tok 3)]) (.lit (.i 0))))) (.le (.lit (.i 0)) (.tok 3))), (.imp (.not (.not (.eq (.call 0 0 [(.tok 0), (.tok 3)]) (.lit (.i 0))))) (.lt (.tok 3) (.len (.fld (.tok 0) 0))))] (.br (.or (.not (.eq (.call 0 0 [(.tok 0), (.tok 3)]) (.lit (.i 0)))) (.eq (.fld (.get (.fld (.tok 0) 0) (.tok 3)) 1) (.tok 3))) (.leaf [(.lit (.b .true))]) (.need [(.le (.lit (.i 0)) (.tok 3)), (.lt (.tok 3) (.len (.fld (.tok 0) 0)))] (.need [(.rng .i64 (.add (.tok 4) (.lit (.i 1))))] (.back 2 [(.tok 2), (.fld (.get (.fld (.tok 0) 0) (.tok 3)) 1), (.add (.tok 4) (.lit (.i 1)))]))))) (.leaf [(.lit (.b .false))])))
set_option maxRecDepth 100000 in
theorem code_ref30_ends (g0 : List D → Option (List D)) : ∀ cd, Try.f93.body = some cd → treeOf Try.prog [(ct_ref30_tag, g0)] ann_ref30_ends ct_ref30_ends Try.f93 cd = tree_ref30_ends := by
  intro cd h
  injection h with h
  subst h
  kernel_rfl
theorem fok_ref30_ends {g0 : List D → Option (List D)} {g : List D → Option (List D)} (h0 : FOk ct_ref30_tag g0) (h : ∀ ds outs, WfA ct_ref30_ends.ars ds → g ds = some outs → tree_ref30_ends.go (tblS [(ct_ref30_tag, g0)]) (fun o => o = outs) ds fun _ _ => False) : FOk ct_ref30_ends g :=
  fok_of ann_ref30_ends Try.f93 _ (.cons h0 .nil) rfl rfl enter_ref30_ends (by decide) fun ds outs hw hg => by rw [code_ref30_ends g0 _ rfl]; exact h ds outs hw hg

def ct_ref30_group : Ct := ⟨94, [.val (.st 26), .val (.int .i64)], [(.bool, false)], []⟩
theorem enter_ref30_group (args : Array Value) (w : World) : (callFunc ct_ref30_group.f args).run Try.prog w = .ok (.enter ct_ref30_group.f args) w := by kernel_rfl
def ann_ref30_group : Ann := ⟨[0, 1, 2, 4, 5], []⟩
def tree_ref30_group : Tree := (.need [(.rng .i64 (.add (.tok 1) (.lit (.i 2)))), (.ok 0 [(.tok 0), (.add (.tok 1) (.lit (.i 2)))])] (.need [(.imp (.and (.eq (.call 0 0 [(.tok 0), (.add (.tok 1) (.lit (.i 1)))]) (.lit (.i 1))) (.le (.lit (.i 1)) (.fld (.get (.fld (.tok 0) 0) (.add (.tok 1) (.lit (.i 1)))) 1))) (.le (.lit (.i 0)) (.add (.tok 1) (.lit (.i 1))))), (.imp (.and (.eq (.call 0 0 [(.tok 0), (.add (.tok 1) (.lit (.i 1)))]) (.lit (.i 1))) (.le (.lit (.i 1)) (.fld (.get (.fld (.tok 0) 0) (.add (.tok 1) (.lit (.i 1)))) 1))) (.lt (.add (.tok 1) (.lit (.i 1))) (.len (.fld (.tok 0) 0)))), (.imp (.and (.eq (.call 0 0 [(.tok 0), (.add (.tok 1) (.lit (.i 1)))]) (.lit (.i 1))) (.le (.lit (.i 1)) (.fld (.get (.fld (.tok 0) 0) (.add (.tok 1) (.lit (.i 1)))) 1))) (.rng .i64 (.add (.tok 1) (.lit (.i 1))))), (.imp (.and (.eq (.call 0 0 [(.tok 0), (.add (.tok 1) (.lit (.i 1)))]) (.lit (.i 1))) (.le (.lit (.i 1)) (.fld (.get (.fld (.tok 0) 0) (.add (.tok 1) (.lit (.i 1)))) 1))) (.le (.lit (.i 0)) (.add (.tok 1) (.lit (.i 1))))), (.imp (.and (.eq (.call 0 0 [(.tok 0), (.add (.tok 1) (.lit (.i 1)))]) (.lit (.i 1))) (.le (.lit (.i 1)) (.fld (.get (.fld (.tok 0) 0) (.add (.tok 1) (.lit (.i 1)))) 1))) (.lt (.add (.tok 1) (.lit (.i 1))) (.len (.fld (.tok 0) 0)))), (.imp (.and (.eq (.call 0 0 [(.tok 0), (.add (.tok 1) (.lit (.i 1)))]) (.lit (.i 1))) (.le (.lit (.i 1)) (.fld (.get (.fld (.tok 0) 0) (.add (.tok 1) (.lit (.i 1)))) 1))) (.rng .i64 (.add (.tok 1) (.lit (.i 1))))), (.imp (.and (.eq (.call 0 0 [(.tok 0), (.add (.tok 1) (.lit (.i 1)))]) (.lit (.i 1))) (.le (.lit (.i 1)) (.fld (.get (.fld (.tok 0) 0) (.add (.tok 1) (.lit (.i 1)))) 1))) (.rng .i64 (.add (.tok 1) (.lit (.i 1))))), (.imp (.and (.eq (.call 0 0 [(.tok 0), (.add (.tok 1) (.lit (.i 1)))]) (.lit (.i 1))) (.le (.lit (.i 1)) (.fld (.get (.fld (.tok 0) 0) (.add (.tok 1) (.lit (.i 1)))) 1))) (.rng .i64 (.add (.tok 1) (.lit (.i 1))))), (.imp (.eq (.call 0 0 [(.tok 0), (.add (.tok 1) (.lit (.i 1)))]) (.lit (.i 1))) (.le (.lit (.i 0)) (.add (.tok 1) (.lit (.i 1))))), (.imp (.eq (.call 0 0 [(.tok 0), (.add (.tok 1) (.lit (.i 1)))]) (.lit (.i 1))) (.lt (.add (.tok 1) (.lit (.i 1))) (.len (.fld (.tok 0) 0)))), (.imp (.eq (.call 0 0 [(.tok 0), (.add (.tok 1) (.lit (.i 1)))]) (.lit (.i 1))) (.rng .i64 (.add (.tok 1) (.lit (.i 1))))), (.ok 0 [(.tok 0), (.add (.tok 1) (.lit (.i 1)))]), (.rng .i64 (.add (.tok 1) (.lit (.i 1))))] (.leaf [(.and (.and (.and (.and (.and (.eq (.call 0 0 [(.tok 0), (.add (.tok 1) (.lit (.i 1)))]) (.lit (.i 1))) (.le (.lit (.i 1)) (.fld (.get (.fld (.tok 0) 0) (.add (.tok 1) (.lit (.i 1)))) 1))) (.le (.fld (.get (.fld (.tok 0) 0) (.add (.tok 1) (.lit (.i 1)))) 1) (.fld (.tok 0) 4))) (.le (.lit (.i 0)) (.call 0 0 [(.tok 0), (.add (.tok 1) (.lit (.i 2)))]))) (.not (.eq (.call 0 0 [(.tok 0), (.add (.tok 1) (.lit (.i 2)))]) (.lit (.i 4))))) (.not (.eq (.call 0 0 [(.tok 0), (.add (.tok 1) (.lit (.i 2)))]) (.lit (.i 5)))))])))
set_option maxRecDepth 100000 in
theorem code_ref30_group (g0 : List D → Option (List D)) : ∀ cd, Try.f94.body = some cd → treeOf Try.prog [(ct_ref30_tag, g0)] ann_ref30_group ct_ref30_group Try.f94 cd = tree_ref30_group := by
  intro cd h
  injection h with h
  subst h
  kernel_rfl
theorem fok_ref30_group {g0 : List D → Option (List D)} {g : List D → Option (List D)} (h0 : FOk ct_ref30_tag g0) (h : ∀ ds outs, WfA ct_ref30_group.ars ds → g ds = some outs → tree_ref30_group.go (tblS [(ct_ref30_tag, g0)]) (fun o => o = outs) ds fun _ _ => False) : FOk ct_ref30_group g :=
  fok_of ann_ref30_group Try.f94 _ (.cons h0 .nil) rfl rfl enter_ref30_group (by decide) fun ds outs hw hg => by rw [code_ref30_group g0 _ rfl]; exact h ds outs hw hg

def ct_ref30_cell : Ct := ⟨50, [.val (.st 26), .val (.int .i64)], [(.bool, false)], []⟩
theorem enter_ref30_cell (args : Array Value) (w : World) : (callFunc ct_ref30_cell.f args).run Try.prog w = .ok (.enter ct_ref30_cell.f args) w := by kernel_rfl
def ann_ref30_cell : Ann := ⟨[0, 1, 2, 4, 5, 6, 7, 15, 29, 32, 40, 50], [(7, ⟨[(4, .bool, false), (7, .int .i64, false)], [], [30, 31, 32, 35, 36, 37, 38, 39, 40, 33, 34], []⟩)]⟩
def tree_ref30_cell : Tree := (.need [(.le (.lit (.i 0)) (.tok 1)), (.lt (.tok 1) (.len (.fld (.tok 0) 0)))] (.br (.eq (.fld (.get (.fld (.tok 0) 0) (.tok 1)) 0) (.lit (.i 4))) (.need [(.ok 0 [(.tok 0), (.fld (.get (.fld (.tok 0) 0) (.tok 1)) 1)])] (.need [(.imp (.not (.lt (.call 0 0 [(.tok 0), (.fld (.get (.fld (.tok 0) 0) (.tok 1)) 1)]) (.lit (.i 1)))) (.rng .i64 (.add (.tok 1) (.call 0 0 [(.tok 0), (.fld (.get (.fld (.tok 0) 0) (.tok 1)) 1)])))), (.imp (.not (.lt (.call 0 0 [(.tok 0), (.fld (.get (.fld (.tok 0) 0) (.tok 1)) 1)]) (.lit (.i 1)))) (.ok 1 [(.tok 0), (.add (.tok 1) (.call 0 0 [(.tok 0), (.fld (.get (.fld (.tok 0) 0) (.tok 1)) 1)]))]))] (.br (.or (.lt (.call 0 0 [(.tok 0), (.fld (.get (.fld (.tok 0) 0) (.tok 1)) 1)]) (.lit (.i 1))) (.not (.call 1 0 [(.tok 0), (.add (.tok 1) (.call 0 0 [(.tok 0), (.fld (.get (.fld (.tok 0) 0) (.tok 1)) 1)]))]))) (.leaf [(.lit (.b .false))]) (.loop 7 2 [(.lit (.b .false)), (.lit (.i 1))] (.br (.le (.tok 3) (.call 0 0 [(.tok 0), (.fld (.get (.fld (.tok 0) 0) (.tok 1)) 1)])) (.need [(.rng .i64 (.add (.tok 1) (.tok 3))), (.ok 2 [(.tok 0), (.add (.tok 1) (.tok 3))])] (.br (.eq (.call 2 0 [(.tok 0), (.add (.tok 1) (.tok 3))]) (.lit (.i 4))) (.leaf [(.lit (.b .false))]) (.need [(.rng .i64 (.add (.tok 3) (.lit (.i 1))))] (.back 7 [(.tok 2), (.add (.tok 3) (.lit (.i 1)))])))) (.leaf [(.lit (.b .true))])))))) (.need [(.ok 3 [(.tok 0), (.get (.fld (.tok 0) 0) (.tok 1))]), (.imp (.not (.not (.call 3 0 [(.tok 0), (.get (.fld (.tok 0) 0) (.tok 1))]))) (.ok 4 [(.tok 0), (.tok 1)]))] (.br (.or (.not (.call 3 0 [(.tok 0), (.get (.fld (.tok 0) 0) (.tok 1))])) (.not (.call 4 0 [(.tok 0), (.tok 1)]))) (.leaf [(.lit (.b .false))]) (.need [(.imp (.and (.not (.not (.eq (.fld (.get (.fld (.tok 0) 0) (.tok 1)) 0) (.lit (.i 5))))) (.eq (.fld (.get (.fld (.tok 0) 0) (.tok 1)) 1) (.tok 1))) (.ok 5 [(.tok 0), (.tok 1)]))] (.leaf [(.or (.not (.eq (.fld (.get (.fld (.tok 0) 0) (.tok 1)) 0) (.lit (.i 5)))) (.and (.eq (.fld (.get (.fld (.tok 0) 0) (.tok 1)) 1) (.tok 1)) (.call 5 0 [(.tok 0), (.tok 1)])))]))))))
set_option maxRecDepth 100000 in
theorem code_ref30_cell (g0 g1 g2 g3 g4 g5 : List D → Option (List D)) : ∀ cd, Try.f50.body = some cd → treeOf Try.prog [(ct_ref30_arity, g0), (ct_ref30_ranged, g1), (ct_ref30_tag, g2), (ct_ref30_ValidCell, g3), (ct_ref30_ends, g4), (ct_ref30_group, g5)] ann_ref30_cell ct_ref30_cell Try.f50 cd = tree_ref30_cell := by
  intro cd h
  injection h with h
  subst h
  kernel_rfl
theorem fok_ref30_cell {g0 g1 g2 g3 g4 g5 : List D → Option (List D)} {g : List D → Option (List D)} (h0 : FOk ct_ref30_arity g0) (h1 : FOk ct_ref30_ranged g1) (h2 : FOk ct_ref30_tag g2) (h3 : FOk ct_ref30_ValidCell g3) (h4 : FOk ct_ref30_ends g4) (h5 : FOk ct_ref30_group g5) (h : ∀ ds outs, WfA ct_ref30_cell.ars ds → g ds = some outs → tree_ref30_cell.go (tblS [(ct_ref30_arity, g0), (ct_ref30_ranged, g1), (ct_ref30_tag, g2), (ct_ref30_ValidCell, g3), (ct_ref30_ends, g4), (ct_ref30_group, g5)]) (fun o => o = outs) ds fun _ _ => False) : FOk ct_ref30_cell g :=
  fok_of ann_ref30_cell Try.f50 _ (.cons h0 (.cons h1 (.cons h2 (.cons h3 (.cons h4 (.cons h5 .nil)))))) rfl rfl enter_ref30_cell (by decide) fun ds outs hw hg => by rw [code_ref30_cell g0 g1 g2 g3 g4 g5 _ rfl]; exact h ds outs hw hg

def ct_ref30_old : Ct := ⟨51, [.val (.st 26), .val (.st 79)], [(.bool, false)], []⟩
theorem enter_ref30_old (args : Array Value) (w : World) : (callFunc ct_ref30_old.f args).run Try.prog w = .ok (.enter ct_ref30_old.f args) w := by kernel_rfl
def ann_ref30_old : Ann := ⟨[0, 1, 2, 3, 4, 5, 11, 14, 15, 22, 41], []⟩
def tree_ref30_old : Tree := (.need [(.ok 0 [(.tok 0), (.fld (.tok 1) 0)])] (.br (.not (.call 0 0 [(.tok 0), (.fld (.tok 1) 0)])) (.leaf [(.lit (.b .false))]) (.br (.eq (.fld (.fld (.tok 1) 1) 0) (.lit (.i 0))) (.leaf [(.eq (.fld (.fld (.tok 1) 1) 1) (.fld (.tok 1) 0))]) (.br (.eq (.fld (.fld (.tok 1) 1) 0) (.lit (.i 5))) (.need [(.imp (.eq (.fld (.fld (.tok 1) 1) 1) (.fld (.tok 1) 0)) (.ok 1 [(.tok 0), (.fld (.tok 1) 0)])), (.imp (.and (.eq (.fld (.fld (.tok 1) 1) 1) (.fld (.tok 1) 0)) (.call 1 0 [(.tok 0), (.fld (.tok 1) 0)])) (.rng .i64 (.sub (.fld (.tok 1) 0) (.lit (.i 1))))), (.imp (.and (.eq (.fld (.fld (.tok 1) 1) 1) (.fld (.tok 1) 0)) (.call 1 0 [(.tok 0), (.fld (.tok 1) 0)])) (.ok 2 [(.tok 0), (.sub (.fld (.tok 1) 0) (.lit (.i 1)))]))] (.leaf [(.and (.and (.eq (.fld (.fld (.tok 1) 1) 1) (.fld (.tok 1) 0)) (.call 1 0 [(.tok 0), (.fld (.tok 1) 0)])) (.not (.eq (.call 2 0 [(.tok 0), (.sub (.fld (.tok 1) 0) (.lit (.i 1)))]) (.lit (.i 5)))))])) (.br (.eq (.fld (.fld (.tok 1) 1) 0) (.lit (.i 1))) (.br (.eq (.fld (.fld (.tok 1) 1) 0) (.lit (.i 1))) (.need [(.ok 3 [(.tok 0), (.fld (.tok 1) 1)])] (.leaf [(.call 3 0 [(.tok 0), (.fld (.tok 1) 1)])])) (.leaf [(.lit (.b .false))])) (.br (.eq (.fld (.fld (.tok 1) 1) 0) (.lit (.i 2))) (.br (.eq (.fld (.fld (.tok 1) 1) 0) (.lit (.i 2))) (.need [(.ok 3 [(.tok 0), (.fld (.tok 1) 1)])] (.leaf [(.call 3 0 [(.tok 0), (.fld (.tok 1) 1)])])) (.leaf [(.lit (.b .false))])) (.br (.eq (.fld (.fld (.tok 1) 1) 0) (.lit (.i 3))) (.need [(.ok 3 [(.tok 0), (.fld (.tok 1) 1)])] (.leaf [(.call 3 0 [(.tok 0), (.fld (.tok 1) 1)])])) (.leaf [(.lit (.b .false))]))))))))
set_option maxRecDepth 100000 in
theorem code_ref30_old (g0 g1 g2 g3 : List D → Option (List D)) : ∀ cd, Try.f51.body = some cd → treeOf Try.prog [(ct_ref30_ranged, g0), (ct_ref30_group, g1), (ct_ref30_tag, g2), (ct_ref30_ValidCell, g3)] ann_ref30_old ct_ref30_old Try.f51 cd = tree_ref30_old := by
  intro cd h
  injection h with h
  subst h
  kernel_rfl
theorem fok_ref30_old {g0 g1 g2 g3 : List D → Option (List D)} {g : List D → Option (List D)} (h0 : FOk ct_ref30_ranged g0) (h1 : FOk ct_ref30_group g1) (h2 : FOk ct_ref30_tag g2) (h3 : FOk ct_ref30_ValidCell g3) (h : ∀ ds outs, WfA ct_ref30_old.ars ds → g ds = some outs → tree_ref30_old.go (tblS [(ct_ref30_ranged, g0), (ct_ref30_group, g1), (ct_ref30_tag, g2), (ct_ref30_ValidCell, g3)]) (fun o => o = outs) ds fun _ _ => False) : FOk ct_ref30_old g :=
  fok_of ann_ref30_old Try.f51 _ (.cons h0 (.cons h1 (.cons h2 (.cons h3 .nil)))) rfl rfl enter_ref30_old (by decide) fun ds outs hw hg => by rw [code_ref30_old g0 g1 g2 g3 _ rfl]; exact h ds outs hw hg

def ct_ref30_Valid : Ct := ⟨13, [.val (.st 26)], [(.bool, false)], []⟩
theorem enter_ref30_Valid (args : Array Value) (w : World) : (callFunc ct_ref30_Valid.f args).run Try.prog w = .ok (.enter ct_ref30_Valid.f args) w := by kernel_rfl
def ann_ref30_Valid : Ann := ⟨[0, 1, 2, 3, 4, 5, 6, 33, 38, 44, 49, 59, 64, 95], [(4, ⟨[(2, .bool, false), (3, .int .i64, false)], [], [34, 35, 36, 37, 38, 41, 42, 43, 44, 39, 40], []⟩),
  (9, ⟨[(2, .bool, false), (4, .int .i64, false)], [], [45, 46, 47, 48, 49, 52, 53, 54, 55, 56, 57, 58, 59, 50, 51], []⟩),
  (14, ⟨[(2, .bool, false), (5, .int .i64, false)], [], [60, 61, 62, 63, 64, 67, 68, 69, 70, 71, 6, 72, 73, 74, 75, 76, 77, 78, 79, 80, 81, 82, 83, 84, 85, 86, 87, 88, 89, 90, 91, 92, 93, 94, 95, 65, 66], []⟩)]⟩
def tree_ref30_Valid : Tree := (.need [(.imp (.not (.or (.or (.or (.lt (.fld (.tok 0) 5) (.lit (.i 1))) (.lt (.lit (.i 1048576)) (.fld (.tok 0) 5))) (.lt (.fld (.tok 0) 5) (.len (.fld (.tok 0) 0)))) (.lt (.fld (.tok 0) 4) (.lit (.i 0))))) (.ok 0 [(.fld (.tok 0) 1)]))] (.br (.or (.or (.or (.or (.lt (.fld (.tok 0) 5) (.lit (.i 1))) (.lt (.lit (.i 1048576)) (.fld (.tok 0) 5))) (.lt (.fld (.tok 0) 5) (.len (.fld (.tok 0) 0)))) (.lt (.fld (.tok 0) 4) (.lit (.i 0)))) (.not (.call 0 0 [(.fld (.tok 0) 1)]))) (.leaf [(.lit (.b .false))]) (.loop 4 1 [(.lit (.b .false)), (.lit (.i 0))] (.br (.lt (.tok 2) (.len (.fld (.tok 0) 0))) (.need [(.ok 1 [(.tok 0), (.tok 2)])] (.br (.not (.call 1 0 [(.tok 0), (.tok 2)])) (.leaf [(.lit (.b .false))]) (.need [(.rng .i64 (.add (.tok 2) (.lit (.i 1))))] (.back 4 [(.tok 1), (.add (.tok 2) (.lit (.i 1)))])))) (.loop 9 3 [(.tok 1), (.lit (.i 0))] (.br (.lt (.tok 4) (.len (.fld (.tok 0) 2))) (.need [(.ok 2 [(.tok 0), (.get (.fld (.tok 0) 2) (.tok 4))]), (.le (.lit (.i 0)) (.tok 4)), (.lt (.tok 4) (.len (.fld (.tok 0) 2)))] (.br (.not (.call 2 0 [(.tok 0), (.get (.fld (.tok 0) 2) (.tok 4))])) (.leaf [(.lit (.b .false))]) (.need [(.rng .i64 (.add (.tok 4) (.lit (.i 1))))] (.back 9 [(.tok 3), (.add (.tok 4) (.lit (.i 1)))])))) (.loop 14 5 [(.tok 3), (.lit (.i 0))] (.br (.lt (.tok 6) (.len (.fld (.tok 0) 3))) (.need [(.le (.lit (.i 0)) (.tok 6)), (.lt (.tok 6) (.len (.fld (.tok 0) 3)))] (.need [(.imp (.not (.or (.lt (.fld (.get (.fld (.tok 0) 3) (.tok 6)) 0) (.lit (.i 1))) (.lt (.fld (.tok 0) 4) (.fld (.get (.fld (.tok 0) 3) (.tok 6)) 0)))) (.ok 3 [(.tok 0), (.fld (.get (.fld (.tok 0) 3) (.tok 6)) 1)])), (.imp (.not (.or (.or (.lt (.fld (.get (.fld (.tok 0) 3) (.tok 6)) 0) (.lit (.i 1))) (.lt (.fld (.tok 0) 4) (.fld (.get (.fld (.tok 0) 3) (.tok 6)) 0))) (.not (.call 3 0 [(.tok 0), (.fld (.get (.fld (.tok 0) 3) (.tok 6)) 1)])))) (.ok 3 [(.tok 0), (.fld (.get (.fld (.tok 0) 3) (.tok 6)) 2)]))] (.br (.or (.or (.or (.lt (.fld (.get (.fld (.tok 0) 3) (.tok 6)) 0) (.lit (.i 1))) (.lt (.fld (.tok 0) 4) (.fld (.get (.fld (.tok 0) 3) (.tok 6)) 0))) (.not (.call 3 0 [(.tok 0), (.fld (.get (.fld (.tok 0) 3) (.tok 6)) 1)]))) (.not (.call 3 0 [(.tok 0), (.fld (.get (.fld (.tok 0) 3) (.tok 6)) 2)]))) (.leaf [(.lit (.b .false))]) (.need [(.rng .i64 (.add (.tok 6) (.lit (.i 1))))] (.back 14 [(.tok 5), (.add (.tok 6) (.lit (.i 1)))]))))) (.leaf [(.lit (.b .true))])))))))))
set_option maxRecDepth 100000 in
theorem code_ref30_Valid (g0 g1 g2 g3 : List D → Option (List D)) : ∀ cd, Try.f13.body = some cd → treeOf Try.prog [(ct_ref30_symbols, g0), (ct_ref30_cell, g1), (ct_ref30_old, g2), (ct_ref30_ValidCell, g3)] ann_ref30_Valid ct_ref30_Valid Try.f13 cd = tree_ref30_Valid := by
  intro cd h
  injection h with h
  subst h
  kernel_rfl
theorem fok_ref30_Valid {g0 g1 g2 g3 : List D → Option (List D)} {g : List D → Option (List D)} (h0 : FOk ct_ref30_symbols g0) (h1 : FOk ct_ref30_cell g1) (h2 : FOk ct_ref30_old g2) (h3 : FOk ct_ref30_ValidCell g3) (h : ∀ ds outs, WfA ct_ref30_Valid.ars ds → g ds = some outs → tree_ref30_Valid.go (tblS [(ct_ref30_symbols, g0), (ct_ref30_cell, g1), (ct_ref30_old, g2), (ct_ref30_ValidCell, g3)]) (fun o => o = outs) ds fun _ _ => False) : FOk ct_ref30_Valid g :=
  fok_of ann_ref30_Valid Try.f13 _ (.cons h0 (.cons h1 (.cons h2 (.cons h3 .nil)))) rfl rfl enter_ref30_Valid (by decide) fun ds outs hw hg => by rw [code_ref30_Valid g0 g1 g2 g3 _ rfl]; exact h ds outs hw hg

def ct_ref30_Clone : Ct := ⟨15, [.val (.st 26)], [(.st 26, true)], []⟩
theorem enter_ref30_Clone (args : Array Value) (w : World) : (callFunc ct_ref30_Clone.f args).run Try.prog w = .ok (.enter ct_ref30_Clone.f args) w := by kernel_rfl
def ann_ref30_Clone : Ann := ⟨[0, 1, 2, 3], []⟩
def tree_ref30_Clone : Tree := (.need [(.le (.len (.fld (.tok 0) 0)) (.lit (.i 8796093021952)))] (.need [(.le (.len (.fld (.tok 0) 1)) (.lit (.i 5864062014634)))] (.need [(.le (.len (.fld (.tok 0) 2)) (.lit (.i 5864062014634)))] (.need [(.le (.len (.fld (.tok 0) 3)) (.lit (.i 3518437208780)))] (.leaf [(.set (.set (.set (.set (.tok 0) 0 (.app (.lit (.r [])) (.fld (.tok 0) 0))) 1 (.app (.lit (.r [])) (.fld (.tok 0) 1))) 2 (.app (.lit (.r [])) (.fld (.tok 0) 2))) 3 (.app (.lit (.r [])) (.fld (.tok 0) 3)))])))))
set_option maxRecDepth 100000 in
theorem code_ref30_Clone : ∀ cd, Try.f15.body = some cd → treeOf Try.prog [] ann_ref30_Clone ct_ref30_Clone Try.f15 cd = tree_ref30_Clone := by
  intro cd h
  injection h with h
  subst h
  kernel_rfl
theorem fok_ref30_Clone {g : List D → Option (List D)}  (h : ∀ ds outs, WfA ct_ref30_Clone.ars ds → g ds = some outs → tree_ref30_Clone.go (tblS []) (fun o => o = outs) ds fun _ _ => False) : FOk ct_ref30_Clone g :=
  fok_of ann_ref30_Clone Try.f15 _ .nil rfl rfl enter_ref30_Clone (by decide) fun ds outs hw hg => by rw [code_ref30_Clone  _ rfl]; exact h ds outs hw hg

def ct_ref30_Find : Ct := ⟨53, [.val (.st 26), .val (.str), .val (.int .i64)], [(.int .i64, false)], []⟩
theorem enter_ref30_Find (args : Array Value) (w : World) : (callFunc ct_ref30_Find.f args).run Try.prog w = .ok (.enter ct_ref30_Find.f args) w := by kernel_rfl
def ann_ref30_Find : Ann := ⟨[0, 1, 2, 3, 6, 7, 12, 32], [(2, ⟨[(6, .int .i64, false), (7, .int .i64, false)], [], [8, 9, 10, 11, 12, 15, 16, 17, 18, 19, 20, 21, 22, 23, 24, 25, 26, 27, 28, 29, 30, 31, 32, 33, 13, 14], []⟩)]⟩
def tree_ref30_Find : Tree := (.loop 2 3 [(.lit (.i 0)), (.lit (.i 0))] (.br (.lt (.tok 4) (.len (.fld (.tok 0) 1))) (.need [(.le (.lit (.i 0)) (.tok 4)), (.lt (.tok 4) (.len (.fld (.tok 0) 1))), (.imp (.eq (.fld (.get (.fld (.tok 0) 1) (.tok 4)) 0) (.tok 1)) (.le (.lit (.i 0)) (.tok 4))), (.imp (.eq (.fld (.get (.fld (.tok 0) 1) (.tok 4)) 0) (.tok 1)) (.lt (.tok 4) (.len (.fld (.tok 0) 1))))] (.br (.and (.eq (.fld (.get (.fld (.tok 0) 1) (.tok 4)) 0) (.tok 1)) (.eq (.fld (.get (.fld (.tok 0) 1) (.tok 4)) 1) (.tok 2))) (.leaf [(.tok 4)]) (.need [(.rng .i64 (.add (.tok 4) (.lit (.i 1))))] (.back 2 [(.tok 3), (.add (.tok 4) (.lit (.i 1)))])))) (.leaf [(.lit (.i (-1)))])))
set_option maxRecDepth 100000 in
theorem code_ref30_Find : ∀ cd, Try.f53.body = some cd → treeOf Try.prog [] ann_ref30_Find ct_ref30_Find Try.f53 cd = tree_ref30_Find := by
  intro cd h
  injection h with h
  subst h
  kernel_rfl
theorem fok_ref30_Find {g : List D → Option (List D)}  (h : ∀ ds outs, WfA ct_ref30_Find.ars ds → g ds = some outs → tree_ref30_Find.go (tblS []) (fun o => o = outs) ds fun _ _ => False) : FOk ct_ref30_Find g :=
  fok_of ann_ref30_Find Try.f53 _ .nil rfl rfl enter_ref30_Find (by decide) fun ds outs hw hg => by rw [code_ref30_Find  _ rfl]; exact h ds outs hw hg

def ct_ref30_Symbol : Ct := ⟨17, [.ref (.st 26), .val (.str), .val (.int .i64)], [(.int .i64, false), (.int .i64, false)], []⟩
theorem enter_ref30_Symbol (args : Array Value) (w : World) : (callFunc ct_ref30_Symbol.f args).run Try.prog w = .ok (.enter ct_ref30_Symbol.f args) w := by kernel_rfl
def ann_ref30_Symbol : Ann := ⟨[0, 1, 2, 6, 7, 8, 23, 31, 38], []⟩
def tree_ref30_Symbol : Tree := (.br (.or (.or (.lt (.lit (.i 100)) (.slen (.tok 1))) (.lt (.tok 2) (.lit (.i 0)))) (.lt (.lit (.i 8)) (.tok 2))) (.leaf [(.lit (.i 0)), (.lit (.i 1)), (.tok 0)]) (.need [(.ok 0 [(.tok 0), (.tok 1), (.tok 2)])] (.br (.le (.lit (.i 0)) (.call 0 0 [(.tok 0), (.tok 1), (.tok 2)])) (.leaf [(.call 0 0 [(.tok 0), (.tok 1), (.tok 2)]), (.lit (.i 0)), (.tok 0)]) (.br (.le (.lit (.i 1048576)) (.len (.fld (.tok 0) 1))) (.leaf [(.lit (.i 0)), (.lit (.i 13)), (.tok 0)]) (.need [(.le (.add (.len (.fld (.tok 0) 1)) (.lit (.i 1))) (.lit (.i 5864062014634)))] (.need [(.rng .i64 (.sub (.len (.fld (.set (.tok 0) 1 (.app (.fld (.tok 0) 1) (.row [(.mk [(.tok 1), (.tok 2)])]))) 1)) (.lit (.i 1))))] (.leaf [(.sub (.len (.fld (.set (.tok 0) 1 (.app (.fld (.tok 0) 1) (.row [(.mk [(.tok 1), (.tok 2)])]))) 1)) (.lit (.i 1))), (.lit (.i 0)), (.set (.tok 0) 1 (.app (.fld (.tok 0) 1) (.row [(.mk [(.tok 1), (.tok 2)])])))])))))))
set_option maxRecDepth 100000 in
theorem code_ref30_Symbol (g0 : List D → Option (List D)) : ∀ cd, Try.f17.body = some cd → treeOf Try.prog [(ct_ref30_Find, g0)] ann_ref30_Symbol ct_ref30_Symbol Try.f17 cd = tree_ref30_Symbol := by
  intro cd h
  injection h with h
  subst h
  kernel_rfl
theorem fok_ref30_Symbol {g0 : List D → Option (List D)} {g : List D → Option (List D)} (h0 : FOk ct_ref30_Find g0) (h : ∀ ds outs, WfA ct_ref30_Symbol.ars ds → g ds = some outs → tree_ref30_Symbol.go (tblS [(ct_ref30_Find, g0)]) (fun o => o = outs) ds fun _ _ => False) : FOk ct_ref30_Symbol g :=
  fok_of ann_ref30_Symbol Try.f17 _ (.cons h0 .nil) rfl rfl enter_ref30_Symbol (by decide) fun ds outs hw hg => by rw [code_ref30_Symbol g0 _ rfl]; exact h ds outs hw hg

def ct_ref30_Fresh : Ct := ⟨20, [.ref (.st 26)], [(.st 36, false), (.int .i64, false)], []⟩
theorem enter_ref30_Fresh (args : Array Value) (w : World) : (callFunc ct_ref30_Fresh.f args).run Try.prog w = .ok (.enter ct_ref30_Fresh.f args) w := by kernel_rfl
def ann_ref30_Fresh : Ann := ⟨[0, 2, 3, 4, 6, 17], []⟩
def tree_ref30_Fresh : Tree := (.br (.le (.fld (.tok 0) 5) (.len (.fld (.tok 0) 0))) (.leaf [(.lit (.a [(.i 0), (.i 0)])), (.lit (.i 13)), (.tok 0)]) (.need [(.le (.add (.len (.fld (.tok 0) 0)) (.lit (.i 1))) (.lit (.i 8796093021952)))] (.leaf [(.mk [(.lit (.i 0)), (.len (.fld (.tok 0) 0))]), (.lit (.i 0)), (.set (.tok 0) 0 (.app (.fld (.tok 0) 0) (.row [(.mk [(.lit (.i 0)), (.len (.fld (.tok 0) 0))])])))])))
set_option maxRecDepth 100000 in
theorem code_ref30_Fresh : ∀ cd, Try.f20.body = some cd → treeOf Try.prog [] ann_ref30_Fresh ct_ref30_Fresh Try.f20 cd = tree_ref30_Fresh := by
  intro cd h
  injection h with h
  subst h
  kernel_rfl
theorem fok_ref30_Fresh {g : List D → Option (List D)}  (h : ∀ ds outs, WfA ct_ref30_Fresh.ars ds → g ds = some outs → tree_ref30_Fresh.go (tblS []) (fun o => o = outs) ds fun _ _ => False) : FOk ct_ref30_Fresh g :=
  fok_of ann_ref30_Fresh Try.f20 _ .nil rfl rfl enter_ref30_Fresh (by decide) fun ds outs hw hg => by rw [code_ref30_Fresh  _ rfl]; exact h ds outs hw hg

def ct_law30_CellsAdd : Ct := ⟨3, [.val (.st 26), .val (.str), .val (.int .i64)], [(.bool, false)], []⟩
theorem enter_law30_CellsAdd (args : Array Value) (w : World) : (callFunc ct_law30_CellsAdd.f args).run Try.prog w = .ok (.enter ct_law30_CellsAdd.f args) w := by kernel_rfl
def ann_law30_CellsAdd : Ann := ⟨[0, 1, 2, 3, 6, 7, 8, 9, 10, 11, 12, 13, 14, 17, 48], []⟩
def tree_law30_CellsAdd : Tree := (.need [(.ok 0 [(.tok 0)])] (.br (.not (.call 0 0 [(.tok 0)])) (.need [(.ok 1 [])] (.leaf [(.call 1 0 [])])) (.need [(.ok 2 [(.tok 0)]), (.ok 2 [(.tok 0)]), (.ok 2 [(.tok 0)]), (.ok 2 [(.tok 0)]), (.ok 2 [(.tok 0)])] (.need [(.ok 3 [(.call 2 0 [(.tok 0)]), (.tok 1), (.tok 2)])] (.need [(.ok 4 [(.call 2 0 [(.tok 0)]), (.tok 1), (.tok 2)])] (.need [(.imp (.not (.or (.not (.eq (.call 3 0 [(.call 2 0 [(.tok 0)]), (.tok 1), (.tok 2)]) (.call 4 0 [(.call 2 0 [(.tok 0)]), (.tok 1), (.tok 2)]))) (.not (.eq (.call 3 1 [(.call 2 0 [(.tok 0)]), (.tok 1), (.tok 2)]) (.call 4 1 [(.call 2 0 [(.tok 0)]), (.tok 1), (.tok 2)]))))) (.ok 5 [(.call 3 2 [(.call 2 0 [(.tok 0)]), (.tok 1), (.tok 2)]), (.call 4 2 [(.call 2 0 [(.tok 0)]), (.tok 1), (.tok 2)])]))] (.br (.or (.or (.not (.eq (.call 3 0 [(.call 2 0 [(.tok 0)]), (.tok 1), (.tok 2)]) (.call 4 0 [(.call 2 0 [(.tok 0)]), (.tok 1), (.tok 2)]))) (.not (.eq (.call 3 1 [(.call 2 0 [(.tok 0)]), (.tok 1), (.tok 2)]) (.call 4 1 [(.call 2 0 [(.tok 0)]), (.tok 1), (.tok 2)])))) (.not (.call 5 0 [(.call 3 2 [(.call 2 0 [(.tok 0)]), (.tok 1), (.tok 2)]), (.call 4 2 [(.call 2 0 [(.tok 0)]), (.tok 1), (.tok 2)])]))) (.leaf [(.lit (.b .false))]) (.need [(.ok 6 [(.call 3 2 [(.call 2 0 [(.tok 0)]), (.tok 1), (.tok 2)])])] (.need [(.ok 7 [(.call 4 2 [(.call 2 0 [(.tok 0)]), (.tok 1), (.tok 2)])])] (.need [(.imp (.and (.eq (.call 6 0 [(.call 3 2 [(.call 2 0 [(.tok 0)]), (.tok 1), (.tok 2)])]) (.call 7 0 [(.call 4 2 [(.call 2 0 [(.tok 0)]), (.tok 1), (.tok 2)])])) (.eq (.call 6 1 [(.call 3 2 [(.call 2 0 [(.tok 0)]), (.tok 1), (.tok 2)])]) (.call 7 1 [(.call 4 2 [(.call 2 0 [(.tok 0)]), (.tok 1), (.tok 2)])]))) (.ok 5 [(.call 6 2 [(.call 3 2 [(.call 2 0 [(.tok 0)]), (.tok 1), (.tok 2)])]), (.call 7 2 [(.call 4 2 [(.call 2 0 [(.tok 0)]), (.tok 1), (.tok 2)])])])), (.imp (.and (.and (.eq (.call 6 0 [(.call 3 2 [(.call 2 0 [(.tok 0)]), (.tok 1), (.tok 2)])]) (.call 7 0 [(.call 4 2 [(.call 2 0 [(.tok 0)]), (.tok 1), (.tok 2)])])) (.eq (.call 6 1 [(.call 3 2 [(.call 2 0 [(.tok 0)]), (.tok 1), (.tok 2)])]) (.call 7 1 [(.call 4 2 [(.call 2 0 [(.tok 0)]), (.tok 1), (.tok 2)])]))) (.call 5 0 [(.call 6 2 [(.call 3 2 [(.call 2 0 [(.tok 0)]), (.tok 1), (.tok 2)])]), (.call 7 2 [(.call 4 2 [(.call 2 0 [(.tok 0)]), (.tok 1), (.tok 2)])])])) (.ok 1 []))] (.leaf [(.and (.and (.and (.eq (.call 6 0 [(.call 3 2 [(.call 2 0 [(.tok 0)]), (.tok 1), (.tok 2)])]) (.call 7 0 [(.call 4 2 [(.call 2 0 [(.tok 0)]), (.tok 1), (.tok 2)])])) (.eq (.call 6 1 [(.call 3 2 [(.call 2 0 [(.tok 0)]), (.tok 1), (.tok 2)])]) (.call 7 1 [(.call 4 2 [(.call 2 0 [(.tok 0)]), (.tok 1), (.tok 2)])]))) (.call 5 0 [(.call 6 2 [(.call 3 2 [(.call 2 0 [(.tok 0)]), (.tok 1), (.tok 2)])]), (.call 7 2 [(.call 4 2 [(.call 2 0 [(.tok 0)]), (.tok 1), (.tok 2)])])])) (.call 1 0 []))])))))))))))
set_option maxRecDepth 100000 in
theorem code_law30_CellsAdd (g0 g1 g2 g3 g4 g5 g6 g7 : List D → Option (List D)) : ∀ cd, Try.f3.body = some cd → treeOf Try.prog [(ct_ref30_Valid, g0), (ct_law30_awake, g1), (ct_ref30_Clone, g2), (ct_cells_Symbol, g3), (ct_ref30_Symbol, g4), (ct_ref30_Same, g5), (ct_cells_Fresh, g6), (ct_ref30_Fresh, g7)] ann_law30_CellsAdd ct_law30_CellsAdd Try.f3 cd = tree_law30_CellsAdd := by
  intro cd h
  injection h with h
  subst h
  kernel_rfl
theorem fok_law30_CellsAdd {g0 g1 g2 g3 g4 g5 g6 g7 : List D → Option (List D)} {g : List D → Option (List D)} (h0 : FOk ct_ref30_Valid g0) (h1 : FOk ct_law30_awake g1) (h2 : FOk ct_ref30_Clone g2) (h3 : FOk ct_cells_Symbol g3) (h4 : FOk ct_ref30_Symbol g4) (h5 : FOk ct_ref30_Same g5) (h6 : FOk ct_cells_Fresh g6) (h7 : FOk ct_ref30_Fresh g7) (h : ∀ ds outs, WfA ct_law30_CellsAdd.ars ds → g ds = some outs → tree_law30_CellsAdd.go (tblS [(ct_ref30_Valid, g0), (ct_law30_awake, g1), (ct_ref30_Clone, g2), (ct_cells_Symbol, g3), (ct_ref30_Symbol, g4), (ct_ref30_Same, g5), (ct_cells_Fresh, g6), (ct_ref30_Fresh, g7)]) (fun o => o = outs) ds fun _ _ => False) : FOk ct_law30_CellsAdd g :=
  fok_of ann_law30_CellsAdd Try.f3 _ (.cons h0 (.cons h1 (.cons h2 (.cons h3 (.cons h4 (.cons h5 (.cons h6 (.cons h7 .nil)))))))) rfl rfl enter_law30_CellsAdd (by decide) fun ds outs hw hg => by rw [code_law30_CellsAdd g0 g1 g2 g3 g4 g5 g6 g7 _ rfl]; exact h ds outs hw hg

end Go.Proofs.Ytinclokohcommaa

namespace Go.Proofs.Ytinclokohcommaa
open Go.RowKit
set_option linter.unusedVariables false
set_option linter.unusedSimpArgs false

/-- A cell. -/
structure Ce where
  t : Int
  n : Int
/-- An element of the trail. -/
structure Un where
  at' : Int
  old : Ce
structure Wk where
  ser : Int
  att : Ce
  val : Ce
structure Sy where
  name : ByteArray
  ar : Int
structure So where
  cs : List Ce
  ys : List Sy
  tr : List Un
  wk : List Wk
  ser : Int
  mx : Int

instance : Inhabited Ce := ⟨⟨0, 0⟩⟩
instance : Inhabited Un := ⟨⟨0, default⟩⟩
instance : Inhabited Wk := ⟨⟨0, default, default⟩⟩
instance : Inhabited Sy := ⟨⟨⟨#[]⟩, 0⟩⟩

def eC (c : Ce) : D := .a [.i c.t, .i c.n]
def eU (u : Un) : D := .a [.i u.at', eC u.old]
def eW (w : Wk) : D := .a [.i w.ser, eC w.att, eC w.val]
def eY (y : Sy) : D := .a [.s y.name, .i y.ar]
def eS (s : So) : D := .a [.r (s.cs.map eC), .r (s.ys.map eY), .r (s.tr.map eU), .r (s.wk.map eW), .i s.ser, .i s.mx]
def dC (d : D) : Ce := ⟨(d.fld 0).int, (d.fld 1).int⟩
def dU (d : D) : Un := ⟨(d.fld 0).int, dC (d.fld 1)⟩
def dW (d : D) : Wk := ⟨(d.fld 0).int, dC (d.fld 1), dC (d.fld 2)⟩
def dY (d : D) : Sy := ⟨(d.fld 0).str, (d.fld 1).int⟩
def dS (d : D) : So := ⟨(d.fld 0).rs.map dC, (d.fld 1).rs.map dY, (d.fld 2).rs.map dU, (d.fld 3).rs.map dW, (d.fld 4).int, (d.fld 5).int⟩

theorem dC_eC (c : Ce) : dC (eC c) = c := rfl
theorem dU_eU (c : Un) : dU (eU c) = c := rfl
theorem dW_eW (c : Wk) : dW (eW c) = c := rfl
theorem dY_eY (c : Sy) : dY (eY c) = c := rfl
theorem map_id' {α : Type} {e : α → D} {d : D → α} (h : ∀ a, d (e a) = a) (l : List α) : (l.map e).map d = l := by
  rw [List.map_map]
  have : d ∘ e = id := funext h
  rw [this, List.map_id]
theorem dS_eS (s : So) : dS (eS s) = s := by
  show So.mk ((s.cs.map eC).map dC) ((s.ys.map eY).map dY) ((s.tr.map eU).map dU) ((s.wk.map eW).map dW) s.ser s.mx = s
  rw [map_id' dC_eC, map_id' dY_eY, map_id' dU_eU, map_id' dW_eW]
theorem eC_inj {a b : Ce} (h : eC a = eC b) : a = b := by rw [← dC_eC a, h, dC_eC b]
theorem eU_inj {a b : Un} (h : eU a = eU b) : a = b := by rw [← dU_eU a, h, dU_eU b]
theorem eW_inj {a b : Wk} (h : eW a = eW b) : a = b := by rw [← dW_eW a, h, dW_eW b]
theorem eY_inj {a b : Sy} (h : eY a = eY b) : a = b := by rw [← dY_eY a, h, dY_eY b]
theorem eS_inj {a b : So} (h : eS a = eS b) : a = b := by rw [← dS_eS a, h, dS_eS b]
theorem eC_eq (a b : Ce) : (eC a = eC b) = (a = b) := propext ⟨eC_inj, fun h => h ▸ rfl⟩
theorem eU_eq (a b : Un) : (eU a = eU b) = (a = b) := propext ⟨eU_inj, fun h => h ▸ rfl⟩
theorem eW_eq (a b : Wk) : (eW a = eW b) = (a = b) := propext ⟨eW_inj, fun h => h ▸ rfl⟩
theorem eY_eq (a b : Sy) : (eY a = eY b) = (a = b) := propext ⟨eY_inj, fun h => h ▸ rfl⟩
theorem eS_eq (a b : So) : (eS a = eS b) = (a = b) := propext ⟨eS_inj, fun h => h ▸ rfl⟩
instance : DecidableEq Ce := fun a b => if h : eC a = eC b then .isTrue (eC_inj h) else .isFalse fun e => h (e ▸ rfl)
instance : DecidableEq Un := fun a b => if h : eU a = eU b then .isTrue (eU_inj h) else .isFalse fun e => h (e ▸ rfl)
instance : DecidableEq Wk := fun a b => if h : eW a = eW b then .isTrue (eW_inj h) else .isFalse fun e => h (e ▸ rfl)
instance : DecidableEq Sy := fun a b => if h : eY a = eY b then .isTrue (eY_inj h) else .isFalse fun e => h (e ▸ rfl)
instance : DecidableEq So := fun a b => if h : eS a = eS b then .isTrue (eS_inj h) else .isFalse fun e => h (e ▸ rfl)
theorem Ce.ext' {a b : Ce} (h1 : a.t = b.t) (h2 : a.n = b.n) : a = b := by
  cases a; cases b; cases h1; cases h2; rfl

theorem eC_0 (c : Ce) : (eC c).fld 0 = .i c.t := rfl
theorem eC_1 (c : Ce) : (eC c).fld 1 = .i c.n := rfl
theorem eU_0 (c : Un) : (eU c).fld 0 = .i c.at' := rfl
theorem eU_1 (c : Un) : (eU c).fld 1 = eC c.old := rfl
theorem eW_0 (c : Wk) : (eW c).fld 0 = .i c.ser := rfl
theorem eW_1 (c : Wk) : (eW c).fld 1 = eC c.att := rfl
theorem eW_2 (c : Wk) : (eW c).fld 2 = eC c.val := rfl
theorem eY_0 (c : Sy) : (eY c).fld 0 = .s c.name := rfl
theorem eY_1 (c : Sy) : (eY c).fld 1 = .i c.ar := rfl
theorem eS_0 (s : So) : (eS s).fld 0 = .r (s.cs.map eC) := rfl
theorem eS_1 (s : So) : (eS s).fld 1 = .r (s.ys.map eY) := rfl
theorem eS_2 (s : So) : (eS s).fld 2 = .r (s.tr.map eU) := rfl
theorem eS_3 (s : So) : (eS s).fld 3 = .r (s.wk.map eW) := rfl
theorem eS_4 (s : So) : (eS s).fld 4 = .i s.ser := rfl
theorem eS_5 (s : So) : (eS s).fld 5 = .i s.mx := rfl
theorem eS_s0 (s : So) (l : List Ce) : D.a ((eS s).fs.set 0 (.r (l.map eC))) = eS { s with cs := l } := rfl
theorem eS_s1 (s : So) (l : List Sy) : D.a ((eS s).fs.set 1 (.r (l.map eY))) = eS { s with ys := l } := rfl
theorem eS_s2 (s : So) (l : List Un) : D.a ((eS s).fs.set 2 (.r (l.map eU))) = eS { s with tr := l } := rfl
theorem eS_s3 (s : So) (l : List Wk) : D.a ((eS s).fs.set 3 (.r (l.map eW))) = eS { s with wk := l } := rfl
theorem eS_s4 (s : So) (n : Int) : D.a ((eS s).fs.set 4 (.i n)) = eS { s with ser := n } := rfl
theorem eC_s0 (c : Ce) (n : Int) : D.a ((eC c).fs.set 0 (.i n)) = eC { c with t := n } := rfl
theorem eC_mk (t n : Int) : D.a [.i t, .i n] = eC ⟨t, n⟩ := rfl
theorem eU_mk (n : Int) (c : Ce) : D.a [.i n, eC c] = eU ⟨n, c⟩ := rfl

abbrev i64 (n : Int) : Prop := -9223372036854775808 ≤ n ∧ n ≤ 9223372036854775807
def Ce.ok (c : Ce) : Prop := i64 c.t ∧ i64 c.n
def Un.ok (c : Un) : Prop := i64 c.at' ∧ c.old.ok
def Wk.ok (c : Wk) : Prop := i64 c.ser ∧ c.att.ok ∧ c.val.ok
def Sy.ok (c : Sy) : Prop := c.name.size ≤ LIM ∧ i64 c.ar
structure So.ok (s : So) : Prop where
  cs : s.cs.length ≤ 8796093021952 ∧ ∀ c ∈ s.cs, c.ok
  ys : s.ys.length ≤ 5864062014634 ∧ ∀ c ∈ s.ys, c.ok
  tr : s.tr.length ≤ 5864062014634 ∧ ∀ c ∈ s.tr, c.ok
  wk : s.wk.length ≤ 3518437208780 ∧ ∀ c ∈ s.wk, c.ok
  ser : i64 s.ser
  mx : i64 s.mx

theorem wfI {d : D} (h : Wf d (.int .i64)) : ∃ n, d = .i n ∧ i64 n := by
  obtain ⟨n, rfl, hn⟩ := h.int
  exact ⟨n, rfl, rng64.1 hn⟩
theorem wfC {d : D} (h : Wf d T_Cell) : ∃ c, d = eC c ∧ c.ok := by
  obtain ⟨ds, rfl, hl⟩ := h.st_of (fs := [.int .i64, .int .i64]) rfl
  obtain ⟨a, b, rfl, ha, hb⟩ := wfL2 hl
  obtain ⟨x, rfl, hx⟩ := wfI ha
  obtain ⟨y, rfl, hy⟩ := wfI hb
  exact ⟨⟨x, y⟩, rfl, hx, hy⟩
theorem wfU {d : D} (h : Wf d T_Undo) : ∃ c, d = eU c ∧ c.ok := by
  obtain ⟨ds, rfl, hl⟩ := h.st_of (fs := [.int .i64, T_Cell]) rfl
  obtain ⟨a, b, rfl, ha, hb⟩ := wfL2 hl
  obtain ⟨x, rfl, hx⟩ := wfI ha
  obtain ⟨y, rfl, hy⟩ := wfC hb
  exact ⟨⟨x, y⟩, rfl, hx, hy⟩
theorem wfW {d : D} (h : Wf d T_Wake) : ∃ c, d = eW c ∧ c.ok := by
  obtain ⟨ds, rfl, hl⟩ := h.st_of (fs := [.int .i64, T_Cell, T_Cell]) rfl
  obtain ⟨a, r, rfl, ha, hr⟩ := wfL_cons hl
  obtain ⟨b, c, rfl, hb, hc⟩ := wfL2 hr
  obtain ⟨x, rfl, hx⟩ := wfI ha
  obtain ⟨y, rfl, hy⟩ := wfC hb
  obtain ⟨z, rfl, hz⟩ := wfC hc
  exact ⟨⟨x, y, z⟩, rfl, hx, hy, hz⟩
theorem wfY {d : D} (h : Wf d T_Symbol) : ∃ c, d = eY c ∧ c.ok := by
  obtain ⟨ds, rfl, hl⟩ := h.st_of (fs := [.str, .int .i64]) rfl
  obtain ⟨a, b, rfl, ha, hb⟩ := wfL2 hl
  obtain ⟨x, rfl, hx⟩ := ha.str
  obtain ⟨y, rfl, hy⟩ := wfI hb
  exact ⟨⟨x, y⟩, rfl, hx, hy⟩
theorem wfCs {d : D} (h : Wf d T_Cells) : ∃ l : List Ce, d = .r (l.map eC) ∧ l.length ≤ 8796093021952 ∧ ∀ c ∈ l, c.ok := by
  obtain ⟨l, rfl, h1, h2⟩ := h.row_of (te := T_Cell) rfl
  obtain ⟨m, rfl, h3⟩ := of_all (e := eC) (P := Ce.ok) fun x hx => wfC (h2 x hx)
  have e : LM T_Cell = 8796093021952 := by kernel_rfl
  rw [e, List.length_map] at h1
  exact ⟨m, rfl, h1, h3⟩
theorem wfUs {d : D} (h : Wf d T_Undos) : ∃ l : List Un, d = .r (l.map eU) ∧ l.length ≤ 5864062014634 ∧ ∀ c ∈ l, c.ok := by
  obtain ⟨l, rfl, h1, h2⟩ := h.row_of (te := T_Undo) rfl
  obtain ⟨m, rfl, h3⟩ := of_all (e := eU) (P := Un.ok) fun x hx => wfU (h2 x hx)
  have e : LM T_Undo = 5864062014634 := by kernel_rfl
  rw [e, List.length_map] at h1
  exact ⟨m, rfl, h1, h3⟩
theorem wfWs {d : D} (h : Wf d T_Wakes) : ∃ l : List Wk, d = .r (l.map eW) ∧ l.length ≤ 3518437208780 ∧ ∀ c ∈ l, c.ok := by
  obtain ⟨l, rfl, h1, h2⟩ := h.row_of (te := T_Wake) rfl
  obtain ⟨m, rfl, h3⟩ := of_all (e := eW) (P := Wk.ok) fun x hx => wfW (h2 x hx)
  have e : LM T_Wake = 3518437208780 := by kernel_rfl
  rw [e, List.length_map] at h1
  exact ⟨m, rfl, h1, h3⟩
theorem wfYs {d : D} (h : Wf d T_Symbols) : ∃ l : List Sy, d = .r (l.map eY) ∧ l.length ≤ 5864062014634 ∧ ∀ c ∈ l, c.ok := by
  obtain ⟨l, rfl, h1, h2⟩ := h.row_of (te := T_Symbol) rfl
  obtain ⟨m, rfl, h3⟩ := of_all (e := eY) (P := Sy.ok) fun x hx => wfY (h2 x hx)
  have e : LM T_Symbol = 5864062014634 := by kernel_rfl
  rw [e, List.length_map] at h1
  exact ⟨m, rfl, h1, h3⟩
theorem wfS {d : D} (h : Wf d T_Store) : ∃ s, d = eS s ∧ s.ok := by
  obtain ⟨ds, rfl, hl⟩ := h.st_of (fs := [T_Cells, T_Symbols, T_Undos, T_Wakes, .int .i64, .int .i64]) rfl
  obtain ⟨d0, r, rfl, h0, hl⟩ := wfL_cons hl
  obtain ⟨d1, r, rfl, h1, hl⟩ := wfL_cons hl
  obtain ⟨d2, r, rfl, h2, hl⟩ := wfL_cons hl
  obtain ⟨d3, r, rfl, h3, hl⟩ := wfL_cons hl
  obtain ⟨d4, d5, rfl, h4, h5⟩ := wfL2 hl
  obtain ⟨cs, rfl, q0⟩ := wfCs h0
  obtain ⟨ys, rfl, q1⟩ := wfYs h1
  obtain ⟨tr, rfl, q2⟩ := wfUs h2
  obtain ⟨wk, rfl, q3⟩ := wfWs h3
  obtain ⟨x, rfl, q4⟩ := wfI h4
  obtain ⟨y, rfl, q5⟩ := wfI h5
  exact ⟨⟨cs, ys, tr, wk, x, y⟩, rfl, q0, q1, q2, q3, q4, q5⟩
end Go.Proofs.Ytinclokohcommaa

namespace Go.Proofs.Ytinclokohcommaa
open Go.RowKit
set_option linter.unusedVariables false
set_option maxRecDepth 100000

def ct_cells_validSymbols : Ct := ⟨80, [.val (.row 72)], [(.bool, false)], []⟩
theorem enter_cells_validSymbols (args : Array Value) (w : World) : (callFunc ct_cells_validSymbols.f args).run Try.prog w = .ok (.enter ct_cells_validSymbols.f args) w := by kernel_rfl
def ann_cells_validSymbols : Ann := ⟨[0, 2, 3, 5, 8, 12, 13, 14, 15, 36], [(5, ⟨[(2, .bool, false), (14, .int .i64, false), (3, .map 72 4, false)], [], [15, 16, 17, 5, 18, 19, 20, 21, 22, 23, 24, 25, 26, 27, 28, 29, 30, 31, 32, 33, 34, 35, 36, 37, 38, 39, 11], []⟩)]⟩
def tree_cells_validSymbols : Tree := (.br (.lt (.lit (.i 1048576)) (.len (.tok 0))) (.leaf [(.lit (.b .false))]) (.loop 5 1 [(.lit (.b .false)), (.lit (.i 0)), (.lit (.mp []))] (.br (.lt (.tok 2) (.len (.tok 0))) (.need [(.le (.lit (.i 0)) (.tok 2)), (.lt (.tok 2) (.len (.tok 0)))] (.br (.or (.or (.or (.lt (.lit (.i 100)) (.slen (.fld (.get (.tok 0) (.tok 2)) 0))) (.lt (.fld (.get (.tok 0) (.tok 2)) 1) (.lit (.i 0)))) (.lt (.lit (.i 8)) (.fld (.get (.tok 0) (.tok 2)) 1))) (.fn 0 [(.tok 3), (.get (.tok 0) (.tok 2)), (.lit (.b .false))])) (.leaf [(.lit (.b .false))]) (.need [(.rng .i64 (.add (.tok 2) (.lit (.i 1))))] (.back 5 [(.tok 1), (.add (.tok 2) (.lit (.i 1))), (.fn 2 [(.tok 3), (.get (.tok 0) (.tok 2)), (.lit (.b .true))])])))) (.leaf [(.lit (.b .true))]))))
set_option maxRecDepth 100000 in
theorem code_cells_validSymbols : ∀ cd, Try.f80.body = some cd → treeOf Try.prog [] ann_cells_validSymbols ct_cells_validSymbols Try.f80 cd = tree_cells_validSymbols := by
  intro cd h
  injection h with h
  subst h
  kernel_rfl
theorem fok_cells_validSymbols {g : List D → Option (List D)}  (h : ∀ ds outs, WfA ct_cells_validSymbols.ars ds → g ds = some outs → tree_cells_validSymbols.go (tblS []) (fun o => o = outs) ds fun _ _ => False) : FOk ct_cells_validSymbols g :=
  fok_of ann_cells_validSymbols Try.f80 _ .nil rfl rfl enter_cells_validSymbols (by decide) fun ds outs hw hg => by rw [code_cells_validSymbols  _ rfl]; exact h ds outs hw hg

def ct_cells_group : Ct := ⟨108, [.val (.st 26), .val (.int .i64)], [(.bool, false)], []⟩
theorem enter_cells_group (args : Array Value) (w : World) : (callFunc ct_cells_group.f args).run Try.prog w = .ok (.enter ct_cells_group.f args) w := by kernel_rfl
def ann_cells_group : Ann := ⟨[0, 1, 2, 4, 5, 6, 11], []⟩
def tree_cells_group : Tree := (.need [(.rng .i64 (.add (.tok 1) (.lit (.i 1)))), (.ok 0 [(.tok 0), (.add (.tok 1) (.lit (.i 1)))])] (.br (.not (.eq (.call 0 0 [(.tok 0), (.add (.tok 1) (.lit (.i 1)))]) (.lit (.i 1)))) (.leaf [(.lit (.b .false))]) (.need [(.ok 0 [(.tok 0), (.add (.tok 1) (.lit (.i 2)))]), (.rng .i64 (.add (.tok 1) (.lit (.i 2)))), (.le (.lit (.i 0)) (.add (.tok 1) (.lit (.i 1)))), (.lt (.add (.tok 1) (.lit (.i 1))) (.len (.fld (.tok 0) 0))), (.rng .i64 (.add (.tok 1) (.lit (.i 1))))] (.leaf [(.and (.and (.and (.and (.le (.lit (.i 1)) (.fld (.get (.fld (.tok 0) 0) (.add (.tok 1) (.lit (.i 1)))) 1)) (.le (.fld (.get (.fld (.tok 0) 0) (.add (.tok 1) (.lit (.i 1)))) 1) (.fld (.tok 0) 4))) (.le (.lit (.i 0)) (.call 0 0 [(.tok 0), (.add (.tok 1) (.lit (.i 2)))]))) (.not (.eq (.call 0 0 [(.tok 0), (.add (.tok 1) (.lit (.i 2)))]) (.lit (.i 4))))) (.not (.eq (.call 0 0 [(.tok 0), (.add (.tok 1) (.lit (.i 2)))]) (.lit (.i 5)))))]))))
set_option maxRecDepth 100000 in
theorem code_cells_group (g0 : List D → Option (List D)) : ∀ cd, Try.f108.body = some cd → treeOf Try.prog [(ct_cells_tag, g0)] ann_cells_group ct_cells_group Try.f108 cd = tree_cells_group := by
  intro cd h
  injection h with h
  subst h
  kernel_rfl
theorem fok_cells_group {g0 : List D → Option (List D)} {g : List D → Option (List D)} (h0 : FOk ct_cells_tag g0) (h : ∀ ds outs, WfA ct_cells_group.ars ds → g ds = some outs → tree_cells_group.go (tblS [(ct_cells_tag, g0)]) (fun o => o = outs) ds fun _ _ => False) : FOk ct_cells_group g :=
  fok_of ann_cells_group Try.f108 _ (.cons h0 .nil) rfl rfl enter_cells_group (by decide) fun ds outs hw hg => by rw [code_cells_group g0 _ rfl]; exact h ds outs hw hg

def ct_cells_fits : Ct := ⟨81, [.val (.st 26), .val (.int .i64)], [(.bool, false)], []⟩
theorem enter_cells_fits (args : Array Value) (w : World) : (callFunc ct_cells_fits.f args).run Try.prog w = .ok (.enter ct_cells_fits.f args) w := by kernel_rfl
def ann_cells_fits : Ann := ⟨[0, 1, 2, 4, 5, 6, 7, 8, 15, 16, 23, 30, 41, 42], [(8, ⟨[(4, .bool, false), (7, .int .i64, false)], [], [26, 27, 28, 29, 30, 33, 34, 35, 8, 36, 37, 38, 39, 40, 41, 31, 32], []⟩)]⟩
def tree_cells_fits : Tree := (.need [(.le (.lit (.i 0)) (.tok 1)), (.lt (.tok 1) (.len (.fld (.tok 0) 0)))] (.br (.eq (.fld (.get (.fld (.tok 0) 0) (.tok 1)) 0) (.lit (.i 4))) (.need [(.ok 0 [(.tok 0), (.fld (.get (.fld (.tok 0) 0) (.tok 1)) 1)])] (.br (.lt (.call 0 0 [(.tok 0), (.fld (.get (.fld (.tok 0) 0) (.tok 1)) 1)]) (.lit (.i 1))) (.leaf [(.lit (.b .false))]) (.need [(.rng .i64 (.add (.tok 1) (.lit (.i 1))))] (.loop 8 2 [(.lit (.b .false)), (.add (.tok 1) (.lit (.i 1)))] (.need [(.rng .i64 (.add (.tok 1) (.call 0 0 [(.tok 0), (.fld (.get (.fld (.tok 0) 0) (.tok 1)) 1)])))] (.br (.le (.tok 3) (.add (.tok 1) (.call 0 0 [(.tok 0), (.fld (.get (.fld (.tok 0) 0) (.tok 1)) 1)]))) (.need [(.ok 1 [(.tok 0), (.tok 3)])] (.br (.or (.lt (.call 1 0 [(.tok 0), (.tok 3)]) (.lit (.i 0))) (.eq (.call 1 0 [(.tok 0), (.tok 3)]) (.lit (.i 4)))) (.leaf [(.lit (.b .false))]) (.need [(.rng .i64 (.add (.tok 3) (.lit (.i 1))))] (.back 8 [(.tok 2), (.add (.tok 3) (.lit (.i 1)))])))) (.leaf [(.lit (.b .true))]))))))) (.br (.eq (.fld (.get (.fld (.tok 0) 0) (.tok 1)) 0) (.lit (.i 5))) (.need [(.imp (.eq (.fld (.get (.fld (.tok 0) 0) (.tok 1)) 1) (.tok 1)) (.ok 2 [(.tok 0), (.tok 1)]))] (.leaf [(.and (.eq (.fld (.get (.fld (.tok 0) 0) (.tok 1)) 1) (.tok 1)) (.call 2 0 [(.tok 0), (.tok 1)]))])) (.need [(.ok 3 [(.tok 0), (.get (.fld (.tok 0) 0) (.tok 1))])] (.leaf [(.call 3 0 [(.tok 0), (.get (.fld (.tok 0) 0) (.tok 1))])])))))
set_option maxRecDepth 100000 in
theorem code_cells_fits (g0 g1 g2 g3 : List D → Option (List D)) : ∀ cd, Try.f81.body = some cd → treeOf Try.prog [(ct_cells_arity, g0), (ct_cells_tag, g1), (ct_cells_group, g2), (ct_cells_ValidCell, g3)] ann_cells_fits ct_cells_fits Try.f81 cd = tree_cells_fits := by
  intro cd h
  injection h with h
  subst h
  kernel_rfl
theorem fok_cells_fits {g0 g1 g2 g3 : List D → Option (List D)} {g : List D → Option (List D)} (h0 : FOk ct_cells_arity g0) (h1 : FOk ct_cells_tag g1) (h2 : FOk ct_cells_group g2) (h3 : FOk ct_cells_ValidCell g3) (h : ∀ ds outs, WfA ct_cells_fits.ars ds → g ds = some outs → tree_cells_fits.go (tblS [(ct_cells_arity, g0), (ct_cells_tag, g1), (ct_cells_group, g2), (ct_cells_ValidCell, g3)]) (fun o => o = outs) ds fun _ _ => False) : FOk ct_cells_fits g :=
  fok_of ann_cells_fits Try.f81 _ (.cons h0 (.cons h1 (.cons h2 (.cons h3 .nil)))) rfl rfl enter_cells_fits (by decide) fun ds outs hw hg => by rw [code_cells_fits g0 g1 g2 g3 _ rfl]; exact h ds outs hw hg

def ct_cells_acyclic : Ct := ⟨82, [.val (.st 26)], [(.bool, false)], []⟩
theorem enter_cells_acyclic (args : Array Value) (w : World) : (callFunc ct_cells_acyclic.f args).run Try.prog w = .ok (.enter ct_cells_acyclic.f args) w := by kernel_rfl
def ann_cells_acyclic : Ann := ⟨[0, 1, 2, 3, 4, 5, 6, 7, 9, 16, 17, 18, 25, 46, 53, 54, 55, 56, 57], [(3, ⟨[(2, .bool, false), (17, .int .i64, false), (3, .row 3, false)], [], [18, 19, 4, 5, 20, 6, 21, 22, 23, 24, 25, 26, 27, 28, 29, 30, 31, 32, 33, 34, 35, 36, 37, 7, 38, 39, 40, 41, 42, 43, 44, 45, 46, 47, 48, 49, 50, 51, 52, 53, 54, 55, 56, 57, 58, 59, 9, 60, 61, 62, 63, 64, 13], []⟩),
  (7, ⟨[(5, .row 3, false), (6, .int .i64, false), (2, .bool, false), (3, .row 3, false)], [], [21, 22, 23, 24, 25, 26, 27, 28, 29, 30, 31, 32, 33, 34, 35, 36, 37, 7, 38, 39, 40, 41, 42, 43, 44, 45, 46, 47, 48, 49, 50, 51, 52, 53, 13, 60], []⟩),
  (16, ⟨[(56, .int .i64, false), (3, .row 3, false)], [], [57, 58, 59, 9, 60, 61, 62, 63, 13, 21, 26, 49], []⟩)]⟩
def tree_cells_acyclic : Tree := (.need [(.le (.lit (.i 0)) (.len (.fld (.tok 0) 0))), (.le (.len (.fld (.tok 0) 0)) (.lit (.i 16777216)))] (.loop 3 1 [(.lit (.b .false)), (.lit (.i 0)), (.rep (.len (.fld (.tok 0) 0)) (.lit (.i 0)))] (.br (.lt (.tok 2) (.len (.fld (.tok 0) 0))) (.loop 7 4 [(.lit (.r [])), (.tok 2), (.tok 1), (.tok 3)] (.need [(.le (.lit (.i 0)) (.tok 5)), (.lt (.tok 5) (.len (.tok 7)))] (.br (.eq (.get (.tok 7) (.tok 5)) (.lit (.i 0))) (.need [(.le (.lit (.i 0)) (.tok 5)), (.lt (.tok 5) (.len (.tok 7)))] (.need [(.le (.add (.len (.tok 4)) (.lit (.i 1))) (.lit (.i 17592186043904)))] (.need [(.le (.lit (.i 0)) (.tok 5)), (.lt (.tok 5) (.len (.fld (.tok 0) 0)))] (.br (.or (.not (.eq (.fld (.get (.fld (.tok 0) 0) (.tok 5)) 0) (.lit (.i 0)))) (.eq (.fld (.get (.fld (.tok 0) 0) (.tok 5)) 1) (.tok 5))) (.loop 16 8 [(.lit (.i 0)), (.put (.tok 7) (.tok 5) (.lit (.i 1)))] (.br (.lt (.tok 8) (.len (.app (.tok 4) (.row [(.tok 5)])))) (.need [(.le (.lit (.i 0)) (.tok 8)), (.lt (.tok 8) (.len (.app (.tok 4) (.row [(.tok 5)]))))] (.need [(.le (.lit (.i 0)) (.get (.app (.tok 4) (.row [(.tok 5)])) (.tok 8))), (.lt (.get (.app (.tok 4) (.row [(.tok 5)])) (.tok 8)) (.len (.tok 9)))] (.need [(.rng .i64 (.add (.tok 8) (.lit (.i 1))))] (.back 16 [(.add (.tok 8) (.lit (.i 1))), (.put (.tok 9) (.get (.app (.tok 4) (.row [(.tok 5)])) (.tok 8)) (.lit (.i 2)))])))) (.need [(.rng .i64 (.add (.tok 2) (.lit (.i 1))))] (.back 3 [(.tok 6), (.add (.tok 2) (.lit (.i 1))), (.tok 9)])))) (.need [(.le (.lit (.i 0)) (.fld (.get (.fld (.tok 0) 0) (.tok 5)) 1)), (.lt (.fld (.get (.fld (.tok 0) 0) (.tok 5)) 1) (.len (.put (.tok 7) (.tok 5) (.lit (.i 1)))))] (.br (.eq (.get (.put (.tok 7) (.tok 5) (.lit (.i 1))) (.fld (.get (.fld (.tok 0) 0) (.tok 5)) 1)) (.lit (.i 1))) (.leaf [(.lit (.b .false))]) (.back 7 [(.app (.tok 4) (.row [(.tok 5)])), (.fld (.get (.fld (.tok 0) 0) (.tok 5)) 1), (.tok 6), (.put (.tok 7) (.tok 5) (.lit (.i 1)))]))))))) (.loop 16 8 [(.lit (.i 0)), (.tok 7)] (.br (.lt (.tok 8) (.len (.tok 4))) (.need [(.le (.lit (.i 0)) (.tok 8)), (.lt (.tok 8) (.len (.tok 4)))] (.need [(.le (.lit (.i 0)) (.get (.tok 4) (.tok 8))), (.lt (.get (.tok 4) (.tok 8)) (.len (.tok 9)))] (.need [(.rng .i64 (.add (.tok 8) (.lit (.i 1))))] (.back 16 [(.add (.tok 8) (.lit (.i 1))), (.put (.tok 9) (.get (.tok 4) (.tok 8)) (.lit (.i 2)))])))) (.need [(.rng .i64 (.add (.tok 2) (.lit (.i 1))))] (.back 3 [(.tok 6), (.add (.tok 2) (.lit (.i 1))), (.tok 9)]))))))) (.leaf [(.lit (.b .true))]))))
set_option maxRecDepth 100000 in
theorem code_cells_acyclic : ∀ cd, Try.f82.body = some cd → treeOf Try.prog [] ann_cells_acyclic ct_cells_acyclic Try.f82 cd = tree_cells_acyclic := by
  intro cd h
  injection h with h
  subst h
  kernel_rfl
theorem fok_cells_acyclic {g : List D → Option (List D)}  (h : ∀ ds outs, WfA ct_cells_acyclic.ars ds → g ds = some outs → tree_cells_acyclic.go (tblS []) (fun o => o = outs) ds fun _ _ => False) : FOk ct_cells_acyclic g :=
  fok_of ann_cells_acyclic Try.f82 _ .nil rfl rfl enter_cells_acyclic (by decide) fun ds outs hw hg => by rw [code_cells_acyclic  _ rfl]; exact h ds outs hw hg

def ct_cells_validUndo : Ct := ⟨83, [.val (.st 26), .val (.st 79)], [(.bool, false)], []⟩
theorem enter_cells_validUndo (args : Array Value) (w : World) : (callFunc ct_cells_validUndo.f args).run Try.prog w = .ok (.enter ct_cells_validUndo.f args) w := by kernel_rfl
def ann_cells_validUndo : Ann := ⟨[0, 1, 2, 3, 4, 5, 11, 14, 15, 22, 41], []⟩
def tree_cells_validUndo : Tree := (.need [(.ok 0 [(.tok 0), (.fld (.tok 1) 0)])] (.br (.lt (.call 0 0 [(.tok 0), (.fld (.tok 1) 0)]) (.lit (.i 0))) (.leaf [(.lit (.b .false))]) (.br (.eq (.fld (.fld (.tok 1) 1) 0) (.lit (.i 0))) (.leaf [(.eq (.fld (.fld (.tok 1) 1) 1) (.fld (.tok 1) 0))]) (.br (.eq (.fld (.fld (.tok 1) 1) 0) (.lit (.i 5))) (.need [(.imp (.eq (.fld (.fld (.tok 1) 1) 1) (.fld (.tok 1) 0)) (.ok 1 [(.tok 0), (.fld (.tok 1) 0)])), (.imp (.and (.eq (.fld (.fld (.tok 1) 1) 1) (.fld (.tok 1) 0)) (.call 1 0 [(.tok 0), (.fld (.tok 1) 0)])) (.rng .i64 (.sub (.fld (.tok 1) 0) (.lit (.i 1))))), (.imp (.and (.eq (.fld (.fld (.tok 1) 1) 1) (.fld (.tok 1) 0)) (.call 1 0 [(.tok 0), (.fld (.tok 1) 0)])) (.ok 0 [(.tok 0), (.sub (.fld (.tok 1) 0) (.lit (.i 1)))]))] (.leaf [(.and (.and (.eq (.fld (.fld (.tok 1) 1) 1) (.fld (.tok 1) 0)) (.call 1 0 [(.tok 0), (.fld (.tok 1) 0)])) (.not (.eq (.call 0 0 [(.tok 0), (.sub (.fld (.tok 1) 0) (.lit (.i 1)))]) (.lit (.i 5)))))])) (.br (.eq (.fld (.fld (.tok 1) 1) 0) (.lit (.i 1))) (.br (.eq (.fld (.fld (.tok 1) 1) 0) (.lit (.i 1))) (.need [(.ok 2 [(.tok 0), (.fld (.tok 1) 1)])] (.leaf [(.call 2 0 [(.tok 0), (.fld (.tok 1) 1)])])) (.leaf [(.lit (.b .false))])) (.br (.eq (.fld (.fld (.tok 1) 1) 0) (.lit (.i 2))) (.br (.eq (.fld (.fld (.tok 1) 1) 0) (.lit (.i 2))) (.need [(.ok 2 [(.tok 0), (.fld (.tok 1) 1)])] (.leaf [(.call 2 0 [(.tok 0), (.fld (.tok 1) 1)])])) (.leaf [(.lit (.b .false))])) (.br (.eq (.fld (.fld (.tok 1) 1) 0) (.lit (.i 3))) (.need [(.ok 2 [(.tok 0), (.fld (.tok 1) 1)])] (.leaf [(.call 2 0 [(.tok 0), (.fld (.tok 1) 1)])])) (.leaf [(.lit (.b .false))]))))))))
set_option maxRecDepth 100000 in
theorem code_cells_validUndo (g0 g1 g2 : List D → Option (List D)) : ∀ cd, Try.f83.body = some cd → treeOf Try.prog [(ct_cells_tag, g0), (ct_cells_group, g1), (ct_cells_ValidCell, g2)] ann_cells_validUndo ct_cells_validUndo Try.f83 cd = tree_cells_validUndo := by
  intro cd h
  injection h with h
  subst h
  kernel_rfl
theorem fok_cells_validUndo {g0 g1 g2 : List D → Option (List D)} {g : List D → Option (List D)} (h0 : FOk ct_cells_tag g0) (h1 : FOk ct_cells_group g1) (h2 : FOk ct_cells_ValidCell g2) (h : ∀ ds outs, WfA ct_cells_validUndo.ars ds → g ds = some outs → tree_cells_validUndo.go (tblS [(ct_cells_tag, g0), (ct_cells_group, g1), (ct_cells_ValidCell, g2)]) (fun o => o = outs) ds fun _ _ => False) : FOk ct_cells_validUndo g :=
  fok_of ann_cells_validUndo Try.f83 _ (.cons h0 (.cons h1 (.cons h2 .nil))) rfl rfl enter_cells_validUndo (by decide) fun ds outs hw hg => by rw [code_cells_validUndo g0 g1 g2 _ rfl]; exact h ds outs hw hg

def ct_cells_Valid : Ct := ⟨37, [.val (.st 26)], [(.bool, false)], []⟩
theorem enter_cells_Valid (args : Array Value) (w : World) : (callFunc ct_cells_Valid.f args).run Try.prog w = .ok (.enter ct_cells_Valid.f args) w := by kernel_rfl
def ann_cells_Valid : Ann := ⟨[0, 1, 2, 3, 5, 7, 34, 37, 38, 39, 44, 48, 50, 51, 52, 53, 59, 62, 63, 64, 65, 91], [(4, ⟨[(2, .bool, false), (38, .int .i64, false)], [], [39, 40, 3, 41, 42, 43, 44, 45], []⟩),
  (12, ⟨[(2, .bool, false), (52, .int .i64, false)], [], [53, 54, 55, 5, 56, 57, 58, 59, 60], []⟩),
  (18, ⟨[(2, .bool, false), (64, .int .i64, false)], [], [65, 66, 67, 7, 68, 69, 70, 71, 72, 73, 74, 75, 76, 77, 78, 79, 80, 81, 82, 83, 84, 85, 86, 87, 88, 89, 90, 91, 92], []⟩)]⟩
def tree_cells_Valid : Tree := (.need [(.imp (.not (.or (.or (.or (.lt (.fld (.tok 0) 5) (.lit (.i 1))) (.lt (.lit (.i 1048576)) (.fld (.tok 0) 5))) (.lt (.fld (.tok 0) 5) (.len (.fld (.tok 0) 0)))) (.lt (.fld (.tok 0) 4) (.lit (.i 0))))) (.ok 0 [(.fld (.tok 0) 1)]))] (.br (.or (.or (.or (.or (.lt (.fld (.tok 0) 5) (.lit (.i 1))) (.lt (.lit (.i 1048576)) (.fld (.tok 0) 5))) (.lt (.fld (.tok 0) 5) (.len (.fld (.tok 0) 0)))) (.lt (.fld (.tok 0) 4) (.lit (.i 0)))) (.not (.call 0 0 [(.fld (.tok 0) 1)]))) (.leaf [(.lit (.b .false))]) (.loop 4 1 [(.lit (.b .false)), (.lit (.i 0))] (.br (.lt (.tok 2) (.len (.fld (.tok 0) 0))) (.need [(.ok 1 [(.tok 0), (.tok 2)])] (.br (.not (.call 1 0 [(.tok 0), (.tok 2)])) (.leaf [(.lit (.b .false))]) (.need [(.rng .i64 (.add (.tok 2) (.lit (.i 1))))] (.back 4 [(.tok 1), (.add (.tok 2) (.lit (.i 1)))])))) (.need [(.ok 2 [(.tok 0)])] (.br (.not (.call 2 0 [(.tok 0)])) (.leaf [(.lit (.b .false))]) (.loop 12 3 [(.tok 1), (.lit (.i 0))] (.br (.lt (.tok 4) (.len (.fld (.tok 0) 2))) (.need [(.le (.lit (.i 0)) (.tok 4)), (.lt (.tok 4) (.len (.fld (.tok 0) 2)))] (.need [(.ok 3 [(.tok 0), (.get (.fld (.tok 0) 2) (.tok 4))])] (.br (.not (.call 3 0 [(.tok 0), (.get (.fld (.tok 0) 2) (.tok 4))])) (.leaf [(.lit (.b .false))]) (.need [(.rng .i64 (.add (.tok 4) (.lit (.i 1))))] (.back 12 [(.tok 3), (.add (.tok 4) (.lit (.i 1)))]))))) (.loop 18 5 [(.tok 3), (.lit (.i 0))] (.br (.lt (.tok 6) (.len (.fld (.tok 0) 3))) (.need [(.le (.lit (.i 0)) (.tok 6)), (.lt (.tok 6) (.len (.fld (.tok 0) 3)))] (.need [(.imp (.not (.or (.lt (.fld (.get (.fld (.tok 0) 3) (.tok 6)) 0) (.lit (.i 1))) (.lt (.fld (.tok 0) 4) (.fld (.get (.fld (.tok 0) 3) (.tok 6)) 0)))) (.ok 4 [(.tok 0), (.fld (.get (.fld (.tok 0) 3) (.tok 6)) 1)])), (.imp (.not (.or (.or (.lt (.fld (.get (.fld (.tok 0) 3) (.tok 6)) 0) (.lit (.i 1))) (.lt (.fld (.tok 0) 4) (.fld (.get (.fld (.tok 0) 3) (.tok 6)) 0))) (.not (.call 4 0 [(.tok 0), (.fld (.get (.fld (.tok 0) 3) (.tok 6)) 1)])))) (.ok 4 [(.tok 0), (.fld (.get (.fld (.tok 0) 3) (.tok 6)) 2)]))] (.br (.or (.or (.or (.lt (.fld (.get (.fld (.tok 0) 3) (.tok 6)) 0) (.lit (.i 1))) (.lt (.fld (.tok 0) 4) (.fld (.get (.fld (.tok 0) 3) (.tok 6)) 0))) (.not (.call 4 0 [(.tok 0), (.fld (.get (.fld (.tok 0) 3) (.tok 6)) 1)]))) (.not (.call 4 0 [(.tok 0), (.fld (.get (.fld (.tok 0) 3) (.tok 6)) 2)]))) (.leaf [(.lit (.b .false))]) (.need [(.rng .i64 (.add (.tok 6) (.lit (.i 1))))] (.back 18 [(.tok 5), (.add (.tok 6) (.lit (.i 1)))]))))) (.leaf [(.lit (.b .true))])))))))))))
set_option maxRecDepth 100000 in
theorem code_cells_Valid (g0 g1 g2 g3 g4 : List D → Option (List D)) : ∀ cd, Try.f37.body = some cd → treeOf Try.prog [(ct_cells_validSymbols, g0), (ct_cells_fits, g1), (ct_cells_acyclic, g2), (ct_cells_validUndo, g3), (ct_cells_ValidCell, g4)] ann_cells_Valid ct_cells_Valid Try.f37 cd = tree_cells_Valid := by
  intro cd h
  injection h with h
  subst h
  kernel_rfl
theorem fok_cells_Valid {g0 g1 g2 g3 g4 : List D → Option (List D)} {g : List D → Option (List D)} (h0 : FOk ct_cells_validSymbols g0) (h1 : FOk ct_cells_fits g1) (h2 : FOk ct_cells_acyclic g2) (h3 : FOk ct_cells_validUndo g3) (h4 : FOk ct_cells_ValidCell g4) (h : ∀ ds outs, WfA ct_cells_Valid.ars ds → g ds = some outs → tree_cells_Valid.go (tblS [(ct_cells_validSymbols, g0), (ct_cells_fits, g1), (ct_cells_acyclic, g2), (ct_cells_validUndo, g3), (ct_cells_ValidCell, g4)]) (fun o => o = outs) ds fun _ _ => False) : FOk ct_cells_Valid g :=
  fok_of ann_cells_Valid Try.f37 _ (.cons h0 (.cons h1 (.cons h2 (.cons h3 (.cons h4 .nil))))) rfl rfl enter_cells_Valid (by decide) fun ds outs hw hg => by rw [code_cells_Valid g0 g1 g2 g3 g4 _ rfl]; exact h ds outs hw hg

def ct_slices_Clone_Cell : Ct := ⟨89, [.val (.row 37)], [(.row 37, true)], []⟩
theorem enter_slices_Clone_Cell (args : Array Value) (w : World) : (callFunc ct_slices_Clone_Cell.f args).run Try.prog w = .ok (.enter ct_slices_Clone_Cell.f args) w := by kernel_rfl
def ann_slices_Clone_Cell : Ann := ⟨[0, 2, 4], []⟩
def tree_slices_Clone_Cell : Tree := (.amb (.tok 0) .false (.leaf [(.lit (.r []))]) (.need [(.le (.add (.lit (.i 0)) (.len (.tok 0))) (.lit (.i 8796093021952)))] (.leaf [(.app (.row []) (.tok 0))])))
set_option maxRecDepth 100000 in
theorem code_slices_Clone_Cell : ∀ cd, Try.f89.body = some cd → treeOf Try.prog [] ann_slices_Clone_Cell ct_slices_Clone_Cell Try.f89 cd = tree_slices_Clone_Cell := by
  intro cd h
  injection h with h
  subst h
  kernel_rfl
theorem fok_slices_Clone_Cell {g : List D → Option (List D)}  (h : ∀ ds outs, WfA ct_slices_Clone_Cell.ars ds → g ds = some outs → tree_slices_Clone_Cell.go (tblS []) (fun o => o = outs) ds fun _ _ => False) : FOk ct_slices_Clone_Cell g :=
  fok_of ann_slices_Clone_Cell Try.f89 _ .nil rfl rfl enter_slices_Clone_Cell (by decide) fun ds outs hw hg => by rw [code_slices_Clone_Cell  _ rfl]; exact h ds outs hw hg

def ct_slices_Clone_Symbol : Ct := ⟨90, [.val (.row 72)], [(.row 72, true)], []⟩
theorem enter_slices_Clone_Symbol (args : Array Value) (w : World) : (callFunc ct_slices_Clone_Symbol.f args).run Try.prog w = .ok (.enter ct_slices_Clone_Symbol.f args) w := by kernel_rfl
def ann_slices_Clone_Symbol : Ann := ⟨[0, 2, 4], []⟩
def tree_slices_Clone_Symbol : Tree := (.amb (.tok 0) .false (.leaf [(.lit (.r []))]) (.need [(.le (.add (.lit (.i 0)) (.len (.tok 0))) (.lit (.i 5864062014634)))] (.leaf [(.app (.row []) (.tok 0))])))
set_option maxRecDepth 100000 in
theorem code_slices_Clone_Symbol : ∀ cd, Try.f90.body = some cd → treeOf Try.prog [] ann_slices_Clone_Symbol ct_slices_Clone_Symbol Try.f90 cd = tree_slices_Clone_Symbol := by
  intro cd h
  injection h with h
  subst h
  kernel_rfl
theorem fok_slices_Clone_Symbol {g : List D → Option (List D)}  (h : ∀ ds outs, WfA ct_slices_Clone_Symbol.ars ds → g ds = some outs → tree_slices_Clone_Symbol.go (tblS []) (fun o => o = outs) ds fun _ _ => False) : FOk ct_slices_Clone_Symbol g :=
  fok_of ann_slices_Clone_Symbol Try.f90 _ .nil rfl rfl enter_slices_Clone_Symbol (by decide) fun ds outs hw hg => by rw [code_slices_Clone_Symbol  _ rfl]; exact h ds outs hw hg

def ct_slices_Clone_Undo : Ct := ⟨91, [.val (.row 80)], [(.row 80, true)], []⟩
theorem enter_slices_Clone_Undo (args : Array Value) (w : World) : (callFunc ct_slices_Clone_Undo.f args).run Try.prog w = .ok (.enter ct_slices_Clone_Undo.f args) w := by kernel_rfl
def ann_slices_Clone_Undo : Ann := ⟨[0, 2, 4], []⟩
def tree_slices_Clone_Undo : Tree := (.amb (.tok 0) .false (.leaf [(.lit (.r []))]) (.need [(.le (.add (.lit (.i 0)) (.len (.tok 0))) (.lit (.i 5864062014634)))] (.leaf [(.app (.row []) (.tok 0))])))
set_option maxRecDepth 100000 in
theorem code_slices_Clone_Undo : ∀ cd, Try.f91.body = some cd → treeOf Try.prog [] ann_slices_Clone_Undo ct_slices_Clone_Undo Try.f91 cd = tree_slices_Clone_Undo := by
  intro cd h
  injection h with h
  subst h
  kernel_rfl
theorem fok_slices_Clone_Undo {g : List D → Option (List D)}  (h : ∀ ds outs, WfA ct_slices_Clone_Undo.ars ds → g ds = some outs → tree_slices_Clone_Undo.go (tblS []) (fun o => o = outs) ds fun _ _ => False) : FOk ct_slices_Clone_Undo g :=
  fok_of ann_slices_Clone_Undo Try.f91 _ .nil rfl rfl enter_slices_Clone_Undo (by decide) fun ds outs hw hg => by rw [code_slices_Clone_Undo  _ rfl]; exact h ds outs hw hg

def ct_slices_Clone_Wake : Ct := ⟨92, [.val (.row 82)], [(.row 82, true)], []⟩
theorem enter_slices_Clone_Wake (args : Array Value) (w : World) : (callFunc ct_slices_Clone_Wake.f args).run Try.prog w = .ok (.enter ct_slices_Clone_Wake.f args) w := by kernel_rfl
def ann_slices_Clone_Wake : Ann := ⟨[0, 2, 4], []⟩
def tree_slices_Clone_Wake : Tree := (.amb (.tok 0) .false (.leaf [(.lit (.r []))]) (.need [(.le (.add (.lit (.i 0)) (.len (.tok 0))) (.lit (.i 3518437208780)))] (.leaf [(.app (.row []) (.tok 0))])))
set_option maxRecDepth 100000 in
theorem code_slices_Clone_Wake : ∀ cd, Try.f92.body = some cd → treeOf Try.prog [] ann_slices_Clone_Wake ct_slices_Clone_Wake Try.f92 cd = tree_slices_Clone_Wake := by
  intro cd h
  injection h with h
  subst h
  kernel_rfl
theorem fok_slices_Clone_Wake {g : List D → Option (List D)}  (h : ∀ ds outs, WfA ct_slices_Clone_Wake.ars ds → g ds = some outs → tree_slices_Clone_Wake.go (tblS []) (fun o => o = outs) ds fun _ _ => False) : FOk ct_slices_Clone_Wake g :=
  fok_of ann_slices_Clone_Wake Try.f92 _ .nil rfl rfl enter_slices_Clone_Wake (by decide) fun ds outs hw hg => by rw [code_slices_Clone_Wake  _ rfl]; exact h ds outs hw hg

def ct_cells_Clone : Ct := ⟨47, [.val (.st 26)], [(.st 26, true)], []⟩
theorem enter_cells_Clone (args : Array Value) (w : World) : (callFunc ct_cells_Clone.f args).run Try.prog w = .ok (.enter ct_cells_Clone.f args) w := by kernel_rfl
def ann_cells_Clone : Ann := ⟨[0, 1, 2], []⟩
def tree_cells_Clone : Tree := (.need [(.ok 0 [(.fld (.tok 0) 0)])] (.need [(.ok 1 [(.fld (.tok 0) 1)])] (.need [(.ok 2 [(.fld (.tok 0) 2)])] (.need [(.ok 3 [(.fld (.tok 0) 3)])] (.leaf [(.set (.set (.set (.set (.tok 0) 0 (.call 0 0 [(.fld (.tok 0) 0)])) 1 (.call 1 0 [(.fld (.tok 0) 1)])) 2 (.call 2 0 [(.fld (.tok 0) 2)])) 3 (.call 3 0 [(.fld (.tok 0) 3)]))])))))
set_option maxRecDepth 100000 in
theorem code_cells_Clone (g0 g1 g2 g3 : List D → Option (List D)) : ∀ cd, Try.f47.body = some cd → treeOf Try.prog [(ct_slices_Clone_Cell, g0), (ct_slices_Clone_Symbol, g1), (ct_slices_Clone_Undo, g2), (ct_slices_Clone_Wake, g3)] ann_cells_Clone ct_cells_Clone Try.f47 cd = tree_cells_Clone := by
  intro cd h
  injection h with h
  subst h
  kernel_rfl
theorem fok_cells_Clone {g0 g1 g2 g3 : List D → Option (List D)} {g : List D → Option (List D)} (h0 : FOk ct_slices_Clone_Cell g0) (h1 : FOk ct_slices_Clone_Symbol g1) (h2 : FOk ct_slices_Clone_Undo g2) (h3 : FOk ct_slices_Clone_Wake g3) (h : ∀ ds outs, WfA ct_cells_Clone.ars ds → g ds = some outs → tree_cells_Clone.go (tblS [(ct_slices_Clone_Cell, g0), (ct_slices_Clone_Symbol, g1), (ct_slices_Clone_Undo, g2), (ct_slices_Clone_Wake, g3)]) (fun o => o = outs) ds fun _ _ => False) : FOk ct_cells_Clone g :=
  fok_of ann_cells_Clone Try.f47 _ (.cons h0 (.cons h1 (.cons h2 (.cons h3 .nil)))) rfl rfl enter_cells_Clone (by decide) fun ds outs hw hg => by rw [code_cells_Clone g0 g1 g2 g3 _ rfl]; exact h ds outs hw hg

def ct_ref30_New : Ct := ⟨46, [.val (.int .i64)], [(.st 26, true), (.int .i64, false)], []⟩
theorem enter_ref30_New (args : Array Value) (w : World) : (callFunc ct_ref30_New.f args).run Try.prog w = .ok (.enter ct_ref30_New.f args) w := by kernel_rfl
def ann_ref30_New : Ann := ⟨[0, 2, 3, 9], []⟩
def tree_ref30_New : Tree := (.br (.or (.lt (.tok 0) (.lit (.i 1))) (.lt (.lit (.i 1048576)) (.tok 0))) (.leaf [(.lit (.a [(.r []), (.r []), (.r []), (.r []), (.i 0), (.i 0)])), (.lit (.i 1))]) (.leaf [(.set (.lit (.a [(.r []), (.r []), (.r []), (.r []), (.i 0), (.i 0)])) 5 (.tok 0)), (.lit (.i 0))]))
set_option maxRecDepth 100000 in
theorem code_ref30_New : ∀ cd, Try.f46.body = some cd → treeOf Try.prog [] ann_ref30_New ct_ref30_New Try.f46 cd = tree_ref30_New := by
  intro cd h
  injection h with h
  subst h
  kernel_rfl
theorem fok_ref30_New {g : List D → Option (List D)}  (h : ∀ ds outs, WfA ct_ref30_New.ars ds → g ds = some outs → tree_ref30_New.go (tblS []) (fun o => o = outs) ds fun _ _ => False) : FOk ct_ref30_New g :=
  fok_of ann_ref30_New Try.f46 _ .nil rfl rfl enter_ref30_New (by decide) fun ds outs hw hg => by rw [code_ref30_New  _ rfl]; exact h ds outs hw hg

end Go.Proofs.Ytinclokohcommaa

namespace Go.Proofs.Ytinclokohcommaa
open Go.RowKit
set_option linter.unusedVariables false
set_option linter.unusedSimpArgs false

def cellAt (s : So) (i : Int) : Ce := s.cs.getD i.toNat default
def inS (s : So) (i : Int) : Bool := decide (0 ≤ i) && decide (i < s.cs.length)
def tagS (s : So) (i : Int) : Int := if inS s i then (cellAt s i).t else -1
def arS (s : So) (n : Int) : Int := if 0 ≤ n ∧ n < s.ys.length then (s.ys.getD n.toNat default).ar else -1
/-- A cell is valid: the reference's, the program's. -/
def vcR (s : So) (c : Ce) : Bool := if c.t = 0 then inS s c.n && !decide (tagS s c.n = 4) else if c.t = 1 then true else if c.t = 2 then decide (arS s c.n = 0) else if c.t = 3 then decide (tagS s c.n = 4) else if c.t = 5 then decide (tagS s c.n = 5) else false
def vcP (s : So) (c : Ce) : Bool := if c.t = 0 then decide (0 ≤ tagS s c.n) && !decide (tagS s c.n = 4) else if c.t = 1 then true else if c.t = 2 then decide (arS s c.n = 0) else if c.t = 3 then decide (tagS s c.n = 4) else if c.t = 5 then decide (tagS s c.n = 5) else false
/-- The two cells behind an attributed variable. -/
def groupS (s : So) (i : Int) : Bool := decide (tagS s (i + 1) = 1) && (decide (1 ≤ (cellAt s (i + 1)).n) && (decide ((cellAt s (i + 1)).n ≤ s.ser) && (decide (0 ≤ tagS s (i + 2)) && (!decide (tagS s (i + 2) = 4) && !decide (tagS s (i + 2) = 5)))))

def gSIi (f : So → Int → Int) : List D → Option (List D)
  | [s, i] => some [.i (f (dS s) i.int)]
  | _ => none
def gSIb (f : So → Int → Bool) : List D → Option (List D)
  | [s, i] => some [.b (f (dS s) i.int)]
  | _ => none
def gSIbP (q : So → Int → Bool) (f : So → Int → Bool) : List D → Option (List D)
  | [s, i] => if q (dS s) i.int then some [.b (f (dS s) i.int)] else none
  | _ => none
def gSCb (f : So → Ce → Bool) : List D → Option (List D)
  | [s, c] => some [.b (f (dS s) (dC c))]
  | _ => none
def gSUb (f : So → Un → Bool) : List D → Option (List D)
  | [s, c] => some [.b (f (dS s) (dU c))]
  | _ => none
def gSb (f : So → Bool) : List D → Option (List D)
  | [s] => some [.b (f (dS s))]
  | _ => none
def gSbP (q : So → Bool) (f : So → Bool) : List D → Option (List D)
  | [s] => if q (dS s) then some [.b (f (dS s))] else none
  | _ => none

theorem inS_iff {s : So} {i : Int} : inS s i = true ↔ 0 ≤ i ∧ i < s.cs.length := by simp [inS]
theorem cell_get {s : So} {i : Int} (h : inS s i = true) : (D.r (s.cs.map eC)).get i = eC (cellAt s i) := get_r eC (inS_iff.1 h).1 (inS_iff.1 h).2
theorem So.ok.cell {s : So} (hs : s.ok) {i : Int} (h : inS s i = true) : (cellAt s i).ok := hs.cs.2 _ (getD_mem (by have := inS_iff.1 h; omega))
theorem tagS_in {s : So} {i : Int} (h : inS s i = true) : tagS s i = (cellAt s i).t := if_pos h
theorem tagS_out {s : So} {i : Int} (h : inS s i = false) : tagS s i = -1 := if_neg (by rw [h]; decide)

theorem ok_ref30_ranged : FOk ct_ref30_ranged (gSIb inS) := fok_ref30_ranged fun ds outs hw hg => by
  obtain ⟨d, r, rfl, hd, e, r', rfl, he, rfl⟩ := hw
  obtain ⟨s, rfl, hs⟩ := wfS hd
  obtain ⟨i, rfl, hi⟩ := wfI he
  simp only [gSIb, dS_eS, int_i, Option.some.injEq] at hg
  subst hg
  simp only [tree_ref30_ranged, Tree.go, allSay, X.says, X.ev, X.evs, evl, tblS, List.getD_cons_zero, List.getD_cons_succ, List.getElem?_cons_zero, List.getElem?_cons_succ, tt_b, int_i, str_s, rs_r, Option.isSome_some, Option.getD_some, decide_eq_true_eq, decide_eq_false_iff_not, dS_eS, dC_eC, dU_eU, dW_eW, dY_eY, eC_0, eC_1, eU_0, eU_1, eW_0, eW_1, eW_2, eY_0, eY_1, eS_0, eS_1, eS_2, eS_3, eS_4, eS_5, List.length_map, i_inj, b_inj, s_inj, eC_eq, eU_eq, eW_eq, eY_eq, eS_eq, rng64, List.take_succ_cons, List.take_zero, List.nil_append, List.cons_append, decide_true, decide_false, Bool.or_true, true_and, and_true, inS]
theorem ok_ref30_tag : FOk ct_ref30_tag (gSIi tagS) := fok_ref30_tag ok_ref30_ranged fun ds outs hw hg => by
  obtain ⟨d, r, rfl, hd, e, r', rfl, he, rfl⟩ := hw
  obtain ⟨s, rfl, hs⟩ := wfS hd
  obtain ⟨i, rfl, hi⟩ := wfI he
  simp only [gSIi, dS_eS, int_i, Option.some.injEq] at hg
  subst hg
  simp only [tree_ref30_tag, Tree.go, allSay, X.says, X.ev, X.evs, evl, tblS, List.getD_cons_zero, List.getD_cons_succ, List.getElem?_cons_zero, List.getElem?_cons_succ, tt_b, int_i, str_s, rs_r, Option.isSome_some, Option.getD_some, decide_eq_true_eq, decide_eq_false_iff_not, dS_eS, dC_eC, dU_eU, dW_eW, dY_eY, eC_0, eC_1, eU_0, eU_1, eW_0, eW_1, eW_2, eY_0, eY_1, eS_0, eS_1, eS_2, eS_3, eS_4, eS_5, List.length_map, i_inj, b_inj, s_inj, eC_eq, eU_eq, eW_eq, eY_eq, eS_eq, rng64, List.take_succ_cons, List.take_zero, List.nil_append, List.cons_append, decide_true, decide_false, Bool.or_true, true_and, and_true, gSIb, true_and]
  cases h : inS s i with
  | false => simp [tagS_out h]
  | true =>
    have h' := inS_iff.1 h
    simp [cell_get h, eC_0, tagS_in h, h']
theorem ok_cells_tag : FOk ct_cells_tag (gSIi tagS) := fok_cells_tag fun ds outs hw hg => by
  obtain ⟨d, r, rfl, hd, e, r', rfl, he, rfl⟩ := hw
  obtain ⟨s, rfl, hs⟩ := wfS hd
  obtain ⟨i, rfl, hi⟩ := wfI he
  simp only [gSIi, dS_eS, int_i, Option.some.injEq] at hg
  subst hg
  simp only [tree_cells_tag, Tree.go, allSay, X.says, X.ev, X.evs, evl, tblS, List.getD_cons_zero, List.getD_cons_succ, List.getElem?_cons_zero, List.getElem?_cons_succ, tt_b, int_i, str_s, rs_r, Option.isSome_some, Option.getD_some, decide_eq_true_eq, decide_eq_false_iff_not, dS_eS, dC_eC, dU_eU, dW_eW, dY_eY, eC_0, eC_1, eU_0, eU_1, eW_0, eW_1, eW_2, eY_0, eY_1, eS_0, eS_1, eS_2, eS_3, eS_4, eS_5, List.length_map, i_inj, b_inj, s_inj, eC_eq, eU_eq, eW_eq, eY_eq, eS_eq, rng64, List.take_succ_cons, List.take_zero, List.nil_append, List.cons_append, decide_true, decide_false, Bool.or_true, true_and, and_true, true_and]
  cases h : inS s i with
  | false =>
    have h' : ¬ (0 ≤ i ∧ i < s.cs.length) := fun q => by rw [inS_iff.2 q] at h; cases h
    have h2 : i < 0 ∨ (s.cs.length : Int) ≤ i := by omega
    simp [tagS_out h]
    omega
  | true =>
    have h' := inS_iff.1 h
    have h1 : ¬ i < 0 := by omega
    have h2 : ¬ (s.cs.length : Int) ≤ i := by omega
    simp [cell_get h, eC_0, tagS_in h, h', h1, h2]
theorem ar_get {s : So} {i : Int} (h : 0 ≤ i ∧ i < s.ys.length) : (D.r (s.ys.map eY)).get i = eY (s.ys.getD i.toNat default) := get_r eY h.1 h.2
theorem ok_ref30_arity : FOk ct_ref30_arity (gSIi arS) := fok_ref30_arity fun ds outs hw hg => by
  obtain ⟨d, r, rfl, hd, e, r', rfl, he, rfl⟩ := hw
  obtain ⟨s, rfl, hs⟩ := wfS hd
  obtain ⟨i, rfl, hi⟩ := wfI he
  simp only [gSIi, dS_eS, int_i, Option.some.injEq] at hg
  subst hg
  simp only [tree_ref30_arity, Tree.go, allSay, X.says, X.ev, X.evs, evl, tblS, List.getD_cons_zero, List.getD_cons_succ, List.getElem?_cons_zero, List.getElem?_cons_succ, tt_b, int_i, str_s, rs_r, Option.isSome_some, Option.getD_some, decide_eq_true_eq, decide_eq_false_iff_not, dS_eS, dC_eC, dU_eU, dW_eW, dY_eY, eC_0, eC_1, eU_0, eU_1, eW_0, eW_1, eW_2, eY_0, eY_1, eS_0, eS_1, eS_2, eS_3, eS_4, eS_5, List.length_map, i_inj, b_inj, s_inj, eC_eq, eU_eq, eW_eq, eY_eq, eS_eq, rng64, List.take_succ_cons, List.take_zero, List.nil_append, List.cons_append, decide_true, decide_false, Bool.or_true, true_and, and_true, true_and]
  by_cases h : 0 ≤ i ∧ i < s.ys.length
  · have h1 : ¬ i < 0 := by omega
    have h2 : ¬ (s.ys.length : Int) ≤ i := by omega
    simp [ar_get h, eY_1, arS, h, h1, h2]
  · simp [arS, h]
theorem ok_cells_arity : FOk ct_cells_arity (gSIi arS) := fok_cells_arity fun ds outs hw hg => by
  obtain ⟨d, r, rfl, hd, e, r', rfl, he, rfl⟩ := hw
  obtain ⟨s, rfl, hs⟩ := wfS hd
  obtain ⟨i, rfl, hi⟩ := wfI he
  simp only [gSIi, dS_eS, int_i, Option.some.injEq] at hg
  subst hg
  simp only [tree_cells_arity, Tree.go, allSay, X.says, X.ev, X.evs, evl, tblS, List.getD_cons_zero, List.getD_cons_succ, List.getElem?_cons_zero, List.getElem?_cons_succ, tt_b, int_i, str_s, rs_r, Option.isSome_some, Option.getD_some, decide_eq_true_eq, decide_eq_false_iff_not, dS_eS, dC_eC, dU_eU, dW_eW, dY_eY, eC_0, eC_1, eU_0, eU_1, eW_0, eW_1, eW_2, eY_0, eY_1, eS_0, eS_1, eS_2, eS_3, eS_4, eS_5, List.length_map, i_inj, b_inj, s_inj, eC_eq, eU_eq, eW_eq, eY_eq, eS_eq, rng64, List.take_succ_cons, List.take_zero, List.nil_append, List.cons_append, decide_true, decide_false, Bool.or_true, true_and, and_true, true_and]
  by_cases h : 0 ≤ i ∧ i < s.ys.length
  · have h1 : ¬ i < 0 := by omega
    have h2 : ¬ (s.ys.length : Int) ≤ i := by omega
    simp [ar_get h, eY_1, arS, h, h1, h2]
  · simp [arS, h]
theorem ok_ref30_ValidCell : FOk ct_ref30_ValidCell (gSCb vcR) := fok_ref30_ValidCell ok_ref30_ranged ok_ref30_tag ok_ref30_arity fun ds outs hw hg => by
  obtain ⟨d, r, rfl, hd, e, r', rfl, he, rfl⟩ := hw
  obtain ⟨s, rfl, hs⟩ := wfS hd
  obtain ⟨c, rfl, hc⟩ := wfC he
  simp only [gSCb, dS_eS, dC_eC, Option.some.injEq] at hg
  subst hg
  simp only [tree_ref30_ValidCell, Tree.go, allSay, X.says, X.ev, X.evs, evl, tblS, List.getD_cons_zero, List.getD_cons_succ, List.getElem?_cons_zero, List.getElem?_cons_succ, tt_b, int_i, str_s, rs_r, Option.isSome_some, Option.getD_some, decide_eq_true_eq, decide_eq_false_iff_not, dS_eS, dC_eC, dU_eU, dW_eW, dY_eY, eC_0, eC_1, eU_0, eU_1, eW_0, eW_1, eW_2, eY_0, eY_1, eS_0, eS_1, eS_2, eS_3, eS_4, eS_5, List.length_map, i_inj, b_inj, s_inj, eC_eq, eU_eq, eW_eq, eY_eq, eS_eq, rng64, List.take_succ_cons, List.take_zero, List.nil_append, List.cons_append, decide_true, decide_false, Bool.or_true, true_and, and_true, gSIb, gSIi, vcR, true_and]
  by_cases h0 : c.t = 0
  · simp [h0]
  · by_cases h1 : c.t = 1
    · simp [h1]
    · by_cases h2 : c.t = 2
      · simp [h2]
      · by_cases h3 : c.t = 3
        · simp [h3]
        · by_cases h5 : c.t = 5
          · simp [h5]
          · simp [h0, h1, h2, h3, h5]
theorem ok_cells_ValidCell : FOk ct_cells_ValidCell (gSCb vcP) := fok_cells_ValidCell ok_cells_arity ok_cells_tag fun ds outs hw hg => by
  obtain ⟨d, r, rfl, hd, e, r', rfl, he, rfl⟩ := hw
  obtain ⟨s, rfl, hs⟩ := wfS hd
  obtain ⟨c, rfl, hc⟩ := wfC he
  simp only [gSCb, dS_eS, dC_eC, Option.some.injEq] at hg
  subst hg
  simp only [tree_cells_ValidCell, Tree.go, allSay, X.says, X.ev, X.evs, evl, tblS, List.getD_cons_zero, List.getD_cons_succ, List.getElem?_cons_zero, List.getElem?_cons_succ, tt_b, int_i, str_s, rs_r, Option.isSome_some, Option.getD_some, decide_eq_true_eq, decide_eq_false_iff_not, dS_eS, dC_eC, dU_eU, dW_eW, dY_eY, eC_0, eC_1, eU_0, eU_1, eW_0, eW_1, eW_2, eY_0, eY_1, eS_0, eS_1, eS_2, eS_3, eS_4, eS_5, List.length_map, i_inj, b_inj, s_inj, eC_eq, eU_eq, eW_eq, eY_eq, eS_eq, rng64, List.take_succ_cons, List.take_zero, List.nil_append, List.cons_append, decide_true, decide_false, Bool.or_true, true_and, and_true, gSIi, vcP, true_and]
  by_cases h0 : c.t = 0
  · simp [h0]
  · by_cases h1 : c.t = 1
    · simp [h1]
    · by_cases h2 : c.t = 2
      · simp [h2]
      · by_cases h3 : c.t = 3
        · simp [h3]
        · by_cases h5 : c.t = 5
          · simp [h5]
          · simp [h0, h1, h2, h3, h5]
theorem tag_in {s : So} {i : Int} (h : tagS s i = 1) : inS s i = true := by
  cases hi : inS s i with
  | true => rfl
  | false => rw [tagS_out hi] at h; cases h
theorem ok_ref30_group : FOk ct_ref30_group (gSIbP inS groupS) := fok_ref30_group ok_ref30_tag fun ds outs hw hg => by
  obtain ⟨d, r, rfl, hd, e, r', rfl, he, rfl⟩ := hw
  obtain ⟨s, rfl, hs⟩ := wfS hd
  obtain ⟨i, rfl, hi⟩ := wfI he
  simp only [gSIbP, dS_eS, int_i, Option.ite_none_right_eq_some, Option.some.injEq] at hg
  obtain ⟨hin, rfl⟩ := hg
  have h1 := inS_iff.1 hin
  have hl := hs.cs.1
  have r1 : i64 (i + 1) := ⟨by omega, by omega⟩
  have r2 : i64 (i + 2) := ⟨by omega, by omega⟩
  simp only [tree_ref30_group, Tree.go, allSay, X.says, X.ev, X.evs, evl, tblS, List.getD_cons_zero, List.getD_cons_succ, List.getElem?_cons_zero, List.getElem?_cons_succ, tt_b, int_i, str_s, rs_r, Option.isSome_some, Option.getD_some, decide_eq_true_eq, decide_eq_false_iff_not, dS_eS, dC_eC, dU_eU, dW_eW, dY_eY, eC_0, eC_1, eU_0, eU_1, eW_0, eW_1, eW_2, eY_0, eY_1, eS_0, eS_1, eS_2, eS_3, eS_4, eS_5, List.length_map, i_inj, b_inj, s_inj, eC_eq, eU_eq, eW_eq, eY_eq, eS_eq, rng64, List.take_succ_cons, List.take_zero, List.nil_append, List.cons_append, decide_true, decide_false, Bool.or_true, true_and, and_true, gSIi, true_and, groupS, r1, r2]
  by_cases ht : tagS s (i + 1) = 1
  · have h2 := tag_in ht
    have h3 := inS_iff.1 h2
    simp [ht, cell_get h2, eC_1, h3.1, h3.2, int_i, Bool.and_assoc, rng64, r1.1, r1.2]
  · simp [ht]
theorem ok_cells_group : FOk ct_cells_group (gSIbP inS groupS) := fok_cells_group ok_cells_tag fun ds outs hw hg => by
  obtain ⟨d, r, rfl, hd, e, r', rfl, he, rfl⟩ := hw
  obtain ⟨s, rfl, hs⟩ := wfS hd
  obtain ⟨i, rfl, hi⟩ := wfI he
  simp only [gSIbP, dS_eS, int_i, Option.ite_none_right_eq_some, Option.some.injEq] at hg
  obtain ⟨hin, rfl⟩ := hg
  have h1 := inS_iff.1 hin
  have hl := hs.cs.1
  have r1 : i64 (i + 1) := ⟨by omega, by omega⟩
  have r2 : i64 (i + 2) := ⟨by omega, by omega⟩
  simp only [tree_cells_group, Tree.go, allSay, X.says, X.ev, X.evs, evl, tblS, List.getD_cons_zero, List.getD_cons_succ, List.getElem?_cons_zero, List.getElem?_cons_succ, tt_b, int_i, str_s, rs_r, Option.isSome_some, Option.getD_some, decide_eq_true_eq, decide_eq_false_iff_not, dS_eS, dC_eC, dU_eU, dW_eW, dY_eY, eC_0, eC_1, eU_0, eU_1, eW_0, eW_1, eW_2, eY_0, eY_1, eS_0, eS_1, eS_2, eS_3, eS_4, eS_5, List.length_map, i_inj, b_inj, s_inj, eC_eq, eU_eq, eW_eq, eY_eq, eS_eq, rng64, List.take_succ_cons, List.take_zero, List.nil_append, List.cons_append, decide_true, decide_false, Bool.or_true, true_and, and_true, gSIi, true_and, groupS, r1, r2]
  by_cases ht : tagS s (i + 1) = 1
  · have h2 := tag_in ht
    have h3 := inS_iff.1 h2
    simp [ht, cell_get h2, eC_1, h3.1, h3.2, int_i, Bool.and_assoc, rng64, r1.1, r1.2]
  · simp [ht]
end Go.Proofs.Ytinclokohcommaa

namespace Go.Proofs.Ytinclokohcommaa
open Go.RowKit
set_option linter.unusedVariables false
set_option linter.unusedSimpArgs false

theorem mfind_mset {k k' v : D} : ∀ {l : List D}, mfind k (mset k' v l) = if k' = k then some v else mfind k l
  | [] => by simp [mset, mfind, D.fld, D.fs]
  | p :: l => by
    unfold mset
    split
    · rename_i h
      by_cases hk : k' = k
      · simp [mfind, D.fld, D.fs, hk]
      · have : ¬ (p.fld 0 = k) := fun e => hk (h.symm.trans e)
        simp [mfind, D.fld, D.fs, hk, this]
        intro e
        exact absurd e this
    · rename_i h
      unfold mfind
      by_cases hk : p.fld 0 = k
      · have : ¬ (k' = k) := fun e => h (hk.trans e.symm)
        simp [hk, this]
      · simp only [if_neg hk]
        exact mfind_mset

def okY (y : Sy) : Bool := decide (y.name.size ≤ 100) && (decide (0 ≤ y.ar) && decide (y.ar ≤ 8))
def symAt (l : List Sy) (k : Nat) : Bool := okY (l.getD k default) && !decide (l.getD k default ∈ l.take k)
def symsB (l : List Sy) : Bool := decide (l.length ≤ 1048576) && (List.range l.length).all (symAt l)
def gYsb (f : List Sy → Bool) : List D → Option (List D)
  | [l] => some [.b (f (l.rs.map dY))]
  | _ => none

/-- The map of those that were seen. -/
def Seen (x : D) (l : List Sy) (k : Nat) (L : List D) : Prop := ∀ y, mfind (eY y) L = if y ∈ l.take k then some x else none
theorem Seen.nil {x : D} {l : List Sy} : Seen x l 0 [] := fun y => by simp [mfind]
theorem Seen.put {x : D} {l : List Sy} {k : Nat} {L : List D} (h : Seen x l k L) (hk : k < l.length) : Seen x l (k + 1) (mset (eY (l.getD k default)) x L) := fun y => by
  rw [mfind_mset, take_snoc hk, h y]
  generalize l.getD k default = z
  by_cases hy : y = z
  · subst hy; simp
  · have : ¬ (z = y) := fun e => hy e.symm
    simp [eY_eq, this, hy]

theorem ok_ref30_symbols : FOk ct_ref30_symbols (gYsb symsB) := fok_ref30_symbols fun ds outs hw hg => by
  obtain ⟨d, r, rfl, hd, rfl⟩ := hw
  obtain ⟨l, rfl, hl, hok⟩ := wfYs hd
  simp only [gYsb, rs_r, map_id' dY_eY, Option.some.injEq] at hg
  subst hg
  simp only [tree_ref30_symbols, Tree.go, allSay, X.says, X.ev, X.evs, evl, tblS, List.getD_cons_zero, List.getD_cons_succ, List.getElem?_cons_zero, List.getElem?_cons_succ, tt_b, int_i, str_s, rs_r, Option.isSome_some, Option.getD_some, decide_eq_true_eq, decide_eq_false_iff_not, dS_eS, dC_eC, dU_eU, dW_eW, dY_eY, eC_0, eC_1, eU_0, eU_1, eW_0, eW_1, eW_2, eY_0, eY_1, eS_0, eS_1, eS_2, eS_3, eS_4, eS_5, List.length_map, i_inj, b_inj, s_inj, eC_eq, eU_eq, eW_eq, eY_eq, eS_eq, rng64, List.take_succ_cons, List.take_zero, List.nil_append, List.cons_append, decide_true, decide_false, Bool.or_true, true_and, and_true, symsB]
  refine ⟨fun h => ?_, fun h => ?_⟩
  · have : ¬ (l.length ≤ 1048576) := by omega
    simp [this]
  · have h0 : l.length ≤ 1048576 := by omega
    refine ⟨fun st => ∃ (k : Nat) (L : List D), k ≤ l.length ∧ st = [.b false, .i k, .mp L] ∧ (∀ j, j < k → symAt l j = true) ∧ Seen (.i 1) l k L, fun st => l.length - (st.getD 1 .u).int.toNat, ⟨0, [], Nat.zero_le _, rfl, (fun j hj => absurd hj (Nat.not_lt_zero _)), Seen.nil⟩, ?_⟩
    rintro st - ⟨k, L, hk, rfl, hP, hL⟩
    simp only [Tree.go, allSay, X.says, X.ev, X.evs, evl, tblS, List.getD_cons_zero, List.getD_cons_succ, List.getElem?_cons_zero, List.getElem?_cons_succ, tt_b, int_i, str_s, rs_r, Option.isSome_some, Option.getD_some, decide_eq_true_eq, decide_eq_false_iff_not, dS_eS, dC_eC, dU_eU, dW_eW, dY_eY, eC_0, eC_1, eU_0, eU_1, eW_0, eW_1, eW_2, eY_0, eY_1, eS_0, eS_1, eS_2, eS_3, eS_4, eS_5, List.length_map, i_inj, b_inj, s_inj, eC_eq, eU_eq, eW_eq, eY_eq, eS_eq, rng64, List.take_succ_cons, List.take_zero, List.nil_append, List.cons_append, decide_true, decide_false, Bool.or_true, true_and, and_true]
    refine ⟨fun hlt => ?_, fun hlt => ?_⟩
    · have hkl : k < l.length := by omega
      have hp : (0 : Int) ≤ k := by omega
      simp only [hlt, hp, get_n eY hkl, eY_0, eY_1, str_s, int_i, true_and, Bool.or_true, decide_true, and_true, Int.toNat_natCast, fnD, ms_mp, hL (l.getD k default)]
      have hr : i64 ((k : Int) + 1) := ⟨by omega, by omega⟩
      have e : (if l.getD k default ∈ l.take k then some (D.i 1) else none).getD (.i 0) = .i (if l.getD k default ∈ l.take k then 1 else 0) := by split <;> rfl
      rw [e]
      refine ⟨fun hb => ?_, fun hb => ⟨hr, ?_⟩⟩
      · have : symAt l k = false := by
          simp only [symAt, okY]
          generalize l.getD k default = z at hb ⊢
          by_cases hm : z ∈ l.take k
          · simp [hm]
          · simp [hm] at hb ⊢
            intro h1 h2
            omega
        rw [all_not hkl this]
        simp
      · have hs : symAt l k = true := by
          simp only [symAt, okY]
          generalize l.getD k default = z at hb ⊢
          by_cases hm : z ∈ l.take k
          · simp [hm] at hb
          · simp [hm] at hb ⊢
            omega
        rw [updB, if_pos rfl]
        refine ⟨⟨k + 1, _, hkl, ?_, upto_succ hP hs, hL.put hkl⟩, ?_⟩
        · simp
        · simp [D.int]
          omega
    · have : k = l.length := by omega
      subst this
      rw [all_yes hP]
      simp [h0]
theorem ok_cells_validSymbols : FOk ct_cells_validSymbols (gYsb symsB) := fok_cells_validSymbols fun ds outs hw hg => by
  obtain ⟨d, r, rfl, hd, rfl⟩ := hw
  obtain ⟨l, rfl, hl, hok⟩ := wfYs hd
  simp only [gYsb, rs_r, map_id' dY_eY, Option.some.injEq] at hg
  subst hg
  simp only [tree_cells_validSymbols, Tree.go, allSay, X.says, X.ev, X.evs, evl, tblS, List.getD_cons_zero, List.getD_cons_succ, List.getElem?_cons_zero, List.getElem?_cons_succ, tt_b, int_i, str_s, rs_r, Option.isSome_some, Option.getD_some, decide_eq_true_eq, decide_eq_false_iff_not, dS_eS, dC_eC, dU_eU, dW_eW, dY_eY, eC_0, eC_1, eU_0, eU_1, eW_0, eW_1, eW_2, eY_0, eY_1, eS_0, eS_1, eS_2, eS_3, eS_4, eS_5, List.length_map, i_inj, b_inj, s_inj, eC_eq, eU_eq, eW_eq, eY_eq, eS_eq, rng64, List.take_succ_cons, List.take_zero, List.nil_append, List.cons_append, decide_true, decide_false, Bool.or_true, true_and, and_true, symsB]
  refine ⟨fun h => ?_, fun h => ?_⟩
  · have : ¬ (l.length ≤ 1048576) := by omega
    simp [this]
  · have h0 : l.length ≤ 1048576 := by omega
    refine ⟨fun st => ∃ (k : Nat) (L : List D), k ≤ l.length ∧ st = [.b false, .i k, .mp L] ∧ (∀ j, j < k → symAt l j = true) ∧ Seen (.b true) l k L, fun st => l.length - (st.getD 1 .u).int.toNat, ⟨0, [], Nat.zero_le _, rfl, (fun j hj => absurd hj (Nat.not_lt_zero _)), Seen.nil⟩, ?_⟩
    rintro st - ⟨k, L, hk, rfl, hP, hL⟩
    simp only [Tree.go, allSay, X.says, X.ev, X.evs, evl, tblS, List.getD_cons_zero, List.getD_cons_succ, List.getElem?_cons_zero, List.getElem?_cons_succ, tt_b, int_i, str_s, rs_r, Option.isSome_some, Option.getD_some, decide_eq_true_eq, decide_eq_false_iff_not, dS_eS, dC_eC, dU_eU, dW_eW, dY_eY, eC_0, eC_1, eU_0, eU_1, eW_0, eW_1, eW_2, eY_0, eY_1, eS_0, eS_1, eS_2, eS_3, eS_4, eS_5, List.length_map, i_inj, b_inj, s_inj, eC_eq, eU_eq, eW_eq, eY_eq, eS_eq, rng64, List.take_succ_cons, List.take_zero, List.nil_append, List.cons_append, decide_true, decide_false, Bool.or_true, true_and, and_true]
    refine ⟨fun hlt => ?_, fun hlt => ?_⟩
    · have hkl : k < l.length := by omega
      have hp : (0 : Int) ≤ k := by omega
      simp only [hlt, hp, get_n eY hkl, eY_0, eY_1, str_s, int_i, true_and, Bool.or_true, decide_true, and_true, Int.toNat_natCast, fnD, ms_mp, hL (l.getD k default)]
      have hr : i64 ((k : Int) + 1) := ⟨by omega, by omega⟩
      have e : ((if l.getD k default ∈ l.take k then some (D.b true) else none).getD (.b false)).tt = decide (l.getD k default ∈ l.take k) := by
        by_cases hm : l.getD k default ∈ l.take k
        · rw [if_pos hm, decide_eq_true hm]; rfl
        · rw [if_neg hm, decide_eq_false hm]; rfl
      rw [e]
      refine ⟨fun hb => ?_, fun hb => ⟨hr, ?_⟩⟩
      · have : symAt l k = false := by
          simp only [symAt, okY]
          generalize l.getD k default = z at hb ⊢
          by_cases hm : z ∈ l.take k
          · simp [hm]
          · simp [hm] at hb ⊢
            intro h1 h2
            omega
        rw [all_not hkl this]
        simp
      · have hs : symAt l k = true := by
          simp only [symAt, okY]
          generalize l.getD k default = z at hb ⊢
          by_cases hm : z ∈ l.take k
          · simp [hm] at hb
          · simp [hm] at hb ⊢
            omega
        rw [updB, if_pos rfl]
        refine ⟨⟨k + 1, _, hkl, ?_, upto_succ hP hs, hL.put hkl⟩, ?_⟩
        · simp
        · simp [D.int]
          omega
    · have : k = l.length := by omega
      subst this
      rw [all_yes hP]
      simp [h0]
end Go.Proofs.Ytinclokohcommaa
