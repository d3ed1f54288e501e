/-
  Lemmas of the walk and plain laws, put together. No condition.
-/
import Derived.Test.YtinclokohcommaaZc
namespace Go.Proofs.Ytinclokohcommaa
open Go.RowKit
set_option linter.unusedVariables false
set_option maxRecDepth 100000

abbrev T_Cells : Ty := .row 37
abbrev T_Symbols : Ty := .row 72
abbrev T_Undos : Ty := .row 80
abbrev T_Wakes : Ty := .row 82
abbrev T_Store : Ty := .st 26
abbrev T_Cell : Ty := .st 36
abbrev T_Terms : Ty := .row 43
abbrev T_Term : Ty := .st 42
abbrev T_VarCells : Ty := .row 49
abbrev T_VarCell : Ty := .st 48
abbrev T_Symbol : Ty := .st 71
abbrev T_Undo : Ty := .st 79
abbrev T_Wake : Ty := .st 81
def ct_cells_New : Ct := ⟨35, [.val (.int .i64)], [(.st 26, true), (.int .i64, false)], [], none⟩
theorem enter_cells_New (args : Array Value) (w : World) : (callFunc ct_cells_New.f args).run Try.prog w = .ok (.enter ct_cells_New.f args) w := by kernel_rfl
def ann_cells_New : Ann := ⟨[0, 2, 3, 9], []⟩
def tree_cells_New : Tree := (.br (.or (.lt (.tok 0) (.lit (.i 1))) (.lt (.lit (.i 1048576)) (.tok 0))) (.leaf [(.lit (.a [(.r []), (.r []), (.r []), (.r []), (.i 0), (.i 0)])), (.lit (.i 1))]) (.leaf [(.set (.lit (.a [(.r []), (.r []), (.r []), (.r []), (.i 0), (.i 0)])) 5 (.tok 0)), (.lit (.i 0))]))
set_option maxRecDepth 100000 in
theorem code_cells_New : ∀ cd, Try.f35.body = some cd → treeOf Try.prog [] ann_cells_New ct_cells_New Try.f35 cd = tree_cells_New := by
  intro cd h
  injection h with h
  subst h
  kernel_rfl
theorem fok_cells_New {g : List D → Option (List D)}  (h : ∀ ds outs, WfA ct_cells_New.ars ds → g ds = some outs → tree_cells_New.go (tblS []) (fun o => o = outs) ds fun _ _ => False) : FOk ct_cells_New g :=
  fok_of ann_cells_New Try.f35 _ .nil rfl rfl enter_cells_New (by decide) fun ds outs hw hg => by rw [code_cells_New  _ rfl]; exact h ds outs hw hg

def ct_law30_x : Ct := ⟨45, [.val (.int .i64)], [(.st 42, false)], [], none⟩
theorem enter_law30_x (args : Array Value) (w : World) : (callFunc ct_law30_x.f args).run Try.prog w = .ok (.enter ct_law30_x.f args) w := by kernel_rfl
def ann_law30_x : Ann := ⟨[0, 2], []⟩
def tree_law30_x : Tree := (.leaf [(.set (.lit (.a [(.i 0), (.i 0), (.s ⟨#[]⟩), (.r [])])) 1 (.tok 0))])
set_option maxRecDepth 100000 in
theorem code_law30_x : ∀ cd, Try.f45.body = some cd → treeOf Try.prog [] ann_law30_x ct_law30_x Try.f45 cd = tree_law30_x := by
  intro cd h
  injection h with h
  subst h
  kernel_rfl
theorem fok_law30_x {g : List D → Option (List D)}  (h : ∀ ds outs, WfA ct_law30_x.ars ds → g ds = some outs → tree_law30_x.go (tblS []) (fun o => o = outs) ds fun _ _ => False) : FOk ct_law30_x g :=
  fok_of ann_law30_x Try.f45 _ .nil rfl rfl enter_law30_x (by decide) fun ds outs hw hg => by rw [code_law30_x  _ rfl]; exact h ds outs hw hg

def ct_law30_f : Ct := ⟨34, [.val (.str), .val (.row 43)], [(.st 42, false)], [], none⟩
theorem enter_law30_f (args : Array Value) (w : World) : (callFunc ct_law30_f.f args).run Try.prog w = .ok (.enter ct_law30_f.f args) w := by kernel_rfl
def ann_law30_f : Ann := ⟨[0, 1, 4], []⟩
def tree_law30_f : Tree := (.leaf [(.set (.set (.set (.lit (.a [(.i 0), (.i 0), (.s ⟨#[]⟩), (.r [])])) 0 (.lit (.i 3))) 2 (.tok 0)) 3 (.tok 1))])
set_option maxRecDepth 100000 in
theorem code_law30_f : ∀ cd, Try.f34.body = some cd → treeOf Try.prog [] ann_law30_f ct_law30_f Try.f34 cd = tree_law30_f := by
  intro cd h
  injection h with h
  subst h
  kernel_rfl
theorem fok_law30_f {g : List D → Option (List D)}  (h : ∀ ds outs, WfA ct_law30_f.ars ds → g ds = some outs → tree_law30_f.go (tblS []) (fun o => o = outs) ds fun _ _ => False) : FOk ct_law30_f g :=
  fok_of ann_law30_f Try.f34 _ .nil rfl rfl enter_law30_f (by decide) fun ds outs hw hg => by rw [code_law30_f  _ rfl]; exact h ds outs hw hg

def ct_cells_find : Ct := ⟨52, [.rref (.st 26), .val (.st 71)], [(.int .i64, false)], [], none⟩
theorem enter_cells_find (args : Array Value) (w : World) : (callFunc ct_cells_find.f args).run Try.prog w = .ok (.enter ct_cells_find.f args) w := by kernel_rfl
def ann_cells_find : Ann := ⟨[0, 1, 3, 4, 5, 10, 11, 12, 22], [(2, ⟨[(4, .int .i64, false), (11, .int .i64, false)], [], [12, 13, 5, 14, 15, 16, 17, 18, 19, 20, 21, 22, 23, 24], []⟩)]⟩
def tree_cells_find : Tree := (.loop 2 2 [(.lit (.i 0)), (.lit (.i 0))] (.br (.lt (.tok 3) (.len (.fld (.tok 0) 1))) (.need [(.le (.lit (.i 0)) (.tok 3)), (.lt (.tok 3) (.len (.fld (.tok 0) 1)))] (.br (.eq (.get (.fld (.tok 0) 1) (.tok 3)) (.tok 1)) (.leaf [(.tok 3)]) (.need [(.rng .i64 (.add (.tok 3) (.lit (.i 1))))] (.back 2 [(.tok 2), (.add (.tok 3) (.lit (.i 1)))])))) (.leaf [(.lit (.i (-1)))])))
set_option maxRecDepth 100000 in
theorem code_cells_find : ∀ cd, Try.f52.body = some cd → treeOf Try.prog [] ann_cells_find ct_cells_find Try.f52 cd = tree_cells_find := by
  intro cd h
  injection h with h
  subst h
  kernel_rfl
theorem fok_cells_find {g : List D → Option (List D)}  (h : ∀ ds outs, WfA ct_cells_find.ars ds → g ds = some outs → tree_cells_find.go (tblS []) (fun o => o = outs) ds fun _ _ => False) : FOk ct_cells_find g :=
  fok_of ann_cells_find Try.f52 _ .nil rfl rfl enter_cells_find (by decide) fun ds outs hw hg => by rw [code_cells_find  _ rfl]; exact h ds outs hw hg

def ct_cells_Symbol : Ct := ⟨16, [.ref (.st 26), .val (.str), .val (.int .i64)], [(.int .i64, false), (.int .i64, false)], [], none⟩
theorem enter_cells_Symbol (args : Array Value) (w : World) : (callFunc ct_cells_Symbol.f args).run Try.prog w = .ok (.enter ct_cells_Symbol.f args) w := by kernel_rfl
def ann_cells_Symbol : Ann := ⟨[0, 1, 2, 6, 7, 8, 9, 24, 32, 39], []⟩
def tree_cells_Symbol : Tree := (.br (.or (.or (.lt (.lit (.i 100)) (.slen (.tok 1))) (.lt (.tok 2) (.lit (.i 0)))) (.lt (.lit (.i 8)) (.tok 2))) (.leaf [(.lit (.i 0)), (.lit (.i 1)), (.tok 0)]) (.need [(.ok 0 [(.tok 0), (.mk [(.tok 1), (.tok 2)])])] (.br (.le (.lit (.i 0)) (.call 0 0 [(.tok 0), (.mk [(.tok 1), (.tok 2)])])) (.leaf [(.call 0 0 [(.tok 0), (.mk [(.tok 1), (.tok 2)])]), (.lit (.i 0)), (.tok 0)]) (.br (.le (.lit (.i 1048576)) (.len (.fld (.tok 0) 1))) (.leaf [(.lit (.i 0)), (.lit (.i 13)), (.tok 0)]) (.need [(.le (.add (.len (.fld (.tok 0) 1)) (.lit (.i 1))) (.lit (.i 5864062014634)))] (.need [(.rng .i64 (.sub (.len (.fld (.set (.tok 0) 1 (.app (.fld (.tok 0) 1) (.row [(.mk [(.tok 1), (.tok 2)])]))) 1)) (.lit (.i 1))))] (.leaf [(.sub (.len (.fld (.set (.tok 0) 1 (.app (.fld (.tok 0) 1) (.row [(.mk [(.tok 1), (.tok 2)])]))) 1)) (.lit (.i 1))), (.lit (.i 0)), (.set (.tok 0) 1 (.app (.fld (.tok 0) 1) (.row [(.mk [(.tok 1), (.tok 2)])])))])))))))
set_option maxRecDepth 100000 in
theorem code_cells_Symbol (g0 : List D → Option (List D)) : ∀ cd, Try.f16.body = some cd → treeOf Try.prog [(ct_cells_find, g0)] ann_cells_Symbol ct_cells_Symbol Try.f16 cd = tree_cells_Symbol := by
  intro cd h
  injection h with h
  subst h
  kernel_rfl
theorem fok_cells_Symbol {g0 : List D → Option (List D)} {g : List D → Option (List D)} (h0 : FOk ct_cells_find g0) (h : ∀ ds outs, WfA ct_cells_Symbol.ars ds → g ds = some outs → tree_cells_Symbol.go (tblS [(ct_cells_find, g0)]) (fun o => o = outs) ds fun _ _ => False) : FOk ct_cells_Symbol g :=
  fok_of ann_cells_Symbol Try.f16 _ (.cons h0 .nil) rfl rfl enter_cells_Symbol (by decide) fun ds outs hw hg => by rw [code_cells_Symbol g0 _ rfl]; exact h ds outs hw hg

def ct_cmp_isNaN_int64 : Ct := ⟨111, [.val (.int .i64)], [(.bool, false)], [], none⟩
theorem enter_cmp_isNaN_int64 (args : Array Value) (w : World) : (callFunc ct_cmp_isNaN_int64.f args).run Try.prog w = .ok (.enter ct_cmp_isNaN_int64.f args) w := by kernel_rfl
def ann_cmp_isNaN_int64 : Ann := ⟨[0, 2], []⟩
def tree_cmp_isNaN_int64 : Tree := (.leaf [(.not (.eq (.tok 0) (.tok 0)))])
set_option maxRecDepth 100000 in
theorem code_cmp_isNaN_int64 : ∀ cd, Try.f111.body = some cd → treeOf Try.prog [] ann_cmp_isNaN_int64 ct_cmp_isNaN_int64 Try.f111 cd = tree_cmp_isNaN_int64 := by
  intro cd h
  injection h with h
  subst h
  kernel_rfl
theorem fok_cmp_isNaN_int64 {g : List D → Option (List D)}  (h : ∀ ds outs, WfA ct_cmp_isNaN_int64.ars ds → g ds = some outs → tree_cmp_isNaN_int64.go (tblS []) (fun o => o = outs) ds fun _ _ => False) : FOk ct_cmp_isNaN_int64 g :=
  fok_of ann_cmp_isNaN_int64 Try.f111 _ .nil rfl rfl enter_cmp_isNaN_int64 (by decide) fun ds outs hw hg => by rw [code_cmp_isNaN_int64  _ rfl]; exact h ds outs hw hg

def ct_cmp_Compare_int64 : Ct := ⟨98, [.val (.int .i64), .val (.int .i64)], [(.int .i64, false)], [], none⟩
theorem enter_cmp_Compare_int64 (args : Array Value) (w : World) : (callFunc ct_cmp_Compare_int64.f args).run Try.prog w = .ok (.enter ct_cmp_Compare_int64.f args) w := by kernel_rfl
def ann_cmp_Compare_int64 : Ann := ⟨[0, 1, 4, 5, 6, 11, 12, 13, 16, 19], []⟩
def tree_cmp_Compare_int64 : Tree := (.need [(.ok 0 [(.tok 0)])] (.need [(.ok 0 [(.tok 1)])] (.br (.call 0 0 [(.tok 0)]) (.br (.call 0 0 [(.tok 1)]) (.leaf [(.lit (.i 0))]) (.leaf [(.lit (.i (-1)))])) (.br (.call 0 0 [(.tok 1)]) (.leaf [(.lit (.i 1))]) (.br (.lt (.tok 0) (.tok 1)) (.leaf [(.lit (.i (-1)))]) (.br (.lt (.tok 1) (.tok 0)) (.leaf [(.lit (.i 1))]) (.leaf [(.lit (.i 0))])))))))
set_option maxRecDepth 100000 in
theorem code_cmp_Compare_int64 (g0 : List D → Option (List D)) : ∀ cd, Try.f98.body = some cd → treeOf Try.prog [(ct_cmp_isNaN_int64, g0)] ann_cmp_Compare_int64 ct_cmp_Compare_int64 Try.f98 cd = tree_cmp_Compare_int64 := by
  intro cd h
  injection h with h
  subst h
  kernel_rfl
theorem fok_cmp_Compare_int64 {g0 : List D → Option (List D)} {g : List D → Option (List D)} (h0 : FOk ct_cmp_isNaN_int64 g0) (h : ∀ ds outs, WfA ct_cmp_Compare_int64.ars ds → g ds = some outs → tree_cmp_Compare_int64.go (tblS [(ct_cmp_isNaN_int64, g0)]) (fun o => o = outs) ds fun _ _ => False) : FOk ct_cmp_Compare_int64 g :=
  fok_of ann_cmp_Compare_int64 Try.f98 _ (.cons h0 .nil) rfl rfl enter_cmp_Compare_int64 (by decide) fun ds outs hw hg => by rw [code_cmp_Compare_int64 g0 _ rfl]; exact h ds outs hw hg

def ct_cells_byVar : Ct := ⟨60, [.val (.st 48), .val (.int .i64)], [(.int .i64, false)], [], none⟩
theorem enter_cells_byVar (args : Array Value) (w : World) : (callFunc ct_cells_byVar.f args).run Try.prog w = .ok (.enter ct_cells_byVar.f args) w := by kernel_rfl
def ann_cells_byVar : Ann := ⟨[0, 1, 2, 4], []⟩
def tree_cells_byVar : Tree := (.need [(.ok 0 [(.fld (.tok 0) 0), (.tok 1)])] (.leaf [(.call 0 0 [(.fld (.tok 0) 0), (.tok 1)])]))
set_option maxRecDepth 100000 in
theorem code_cells_byVar (g0 : List D → Option (List D)) : ∀ cd, Try.f60.body = some cd → treeOf Try.prog [(ct_cmp_Compare_int64, g0)] ann_cells_byVar ct_cells_byVar Try.f60 cd = tree_cells_byVar := by
  intro cd h
  injection h with h
  subst h
  kernel_rfl
theorem fok_cells_byVar {g0 : List D → Option (List D)} {g : List D → Option (List D)} (h0 : FOk ct_cmp_Compare_int64 g0) (h : ∀ ds outs, WfA ct_cells_byVar.ars ds → g ds = some outs → tree_cells_byVar.go (tblS [(ct_cmp_Compare_int64, g0)]) (fun o => o = outs) ds fun _ _ => False) : FOk ct_cells_byVar g :=
  fok_of ann_cells_byVar Try.f60 _ (.cons h0 .nil) rfl rfl enter_cells_byVar (by decide) fun ds outs hw hg => by rw [code_cells_byVar g0 _ rfl]; exact h ds outs hw hg

def ct_slices_BinarySearchFunc_VarCell : Ct := ⟨59, [.val (.row 49), .val (.int .i64), .fn 60 []], [(.int .i64, false), (.bool, false)], [], none⟩
theorem enter_slices_BinarySearchFunc_VarCell (args : Array Value) (w : World) : (callFunc ct_slices_BinarySearchFunc_VarCell.f args).run Try.prog w = .ok (.enter ct_slices_BinarySearchFunc_VarCell.f args) w := by kernel_rfl
def ann_slices_BinarySearchFunc_VarCell : Ann := ⟨[0, 1, 2, 6, 7, 8, 9, 10, 11, 17, 31], [(3, ⟨[(9, .int .i64, false), (10, .int .i64, false)], [], [15, 16, 17, 18, 19, 20, 21, 22, 23, 11, 24, 25, 26, 27, 28, 29, 30, 31, 32, 33, 34], []⟩)]⟩
def tree_slices_BinarySearchFunc_VarCell : Tree := (.loop 3 2 [(.lit (.i 0)), (.len (.tok 0))] (.br (.lt (.tok 2) (.tok 3)) (.need [(.rng .i64 (.add (.tok 2) (.tok 3))), (.rng .u64 (.add (.tok 2) (.tok 3))), (.rng .u64 (.fn 8 [(.add (.tok 2) (.tok 3)), (.lit (.i 1))])), (.rng .i64 (.fn 8 [(.add (.tok 2) (.tok 3)), (.lit (.i 1))]))] (.need [(.le (.lit (.i 0)) (.fn 8 [(.add (.tok 2) (.tok 3)), (.lit (.i 1))])), (.lt (.fn 8 [(.add (.tok 2) (.tok 3)), (.lit (.i 1))]) (.len (.tok 0))), (.ok 0 [(.get (.tok 0) (.fn 8 [(.add (.tok 2) (.tok 3)), (.lit (.i 1))])), (.tok 1)])] (.br (.lt (.call 0 0 [(.get (.tok 0) (.fn 8 [(.add (.tok 2) (.tok 3)), (.lit (.i 1))])), (.tok 1)]) (.lit (.i 0))) (.need [(.rng .i64 (.add (.fn 8 [(.add (.tok 2) (.tok 3)), (.lit (.i 1))]) (.lit (.i 1))))] (.back 3 [(.add (.fn 8 [(.add (.tok 2) (.tok 3)), (.lit (.i 1))]) (.lit (.i 1))), (.tok 3)])) (.back 3 [(.tok 2), (.fn 8 [(.add (.tok 2) (.tok 3)), (.lit (.i 1))])])))) (.need [(.imp (.lt (.tok 2) (.len (.tok 0))) (.le (.lit (.i 0)) (.tok 2))), (.imp (.lt (.tok 2) (.len (.tok 0))) (.lt (.tok 2) (.len (.tok 0)))), (.imp (.lt (.tok 2) (.len (.tok 0))) (.ok 0 [(.get (.tok 0) (.tok 2)), (.tok 1)]))] (.leaf [(.tok 2), (.and (.lt (.tok 2) (.len (.tok 0))) (.eq (.call 0 0 [(.get (.tok 0) (.tok 2)), (.tok 1)]) (.lit (.i 0))))]))))
set_option maxRecDepth 100000 in
theorem code_slices_BinarySearchFunc_VarCell (g0 : List D → Option (List D)) : ∀ cd, Try.f59.body = some cd → treeOf Try.prog [(ct_cells_byVar, g0)] ann_slices_BinarySearchFunc_VarCell ct_slices_BinarySearchFunc_VarCell Try.f59 cd = tree_slices_BinarySearchFunc_VarCell := by
  intro cd h
  injection h with h
  subst h
  kernel_rfl
theorem fok_slices_BinarySearchFunc_VarCell {g0 : List D → Option (List D)} {g : List D → Option (List D)} (h0 : FOk ct_cells_byVar g0) (h : ∀ ds outs, WfA ct_slices_BinarySearchFunc_VarCell.ars ds → g ds = some outs → tree_slices_BinarySearchFunc_VarCell.go (tblS [(ct_cells_byVar, g0)]) (fun o => o = outs) ds fun _ _ => False) : FOk ct_slices_BinarySearchFunc_VarCell g :=
  fok_of ann_slices_BinarySearchFunc_VarCell Try.f59 _ (.cons h0 .nil) rfl rfl enter_slices_BinarySearchFunc_VarCell (by decide) fun ds outs hw hg => by rw [code_slices_BinarySearchFunc_VarCell g0 _ rfl]; exact h ds outs hw hg

def ct_cells_kept : Ct := ⟨61, [.val (.st 36)], [(.st 36, false)], [], none⟩
theorem enter_cells_kept (args : Array Value) (w : World) : (callFunc ct_cells_kept.f args).run Try.prog w = .ok (.enter ct_cells_kept.f args) w := by kernel_rfl
def ann_cells_kept : Ann := ⟨[0, 1, 2, 5], []⟩
def tree_cells_kept : Tree := (.br (.eq (.fld (.tok 0) 0) (.lit (.i 5))) (.leaf [(.set (.tok 0) 0 (.lit (.i 0)))]) (.leaf [(.tok 0)]))
set_option maxRecDepth 100000 in
theorem code_cells_kept : ∀ cd, Try.f61.body = some cd → treeOf Try.prog [] ann_cells_kept ct_cells_kept Try.f61 cd = tree_cells_kept := by
  intro cd h
  injection h with h
  subst h
  kernel_rfl
theorem fok_cells_kept {g : List D → Option (List D)}  (h : ∀ ds outs, WfA ct_cells_kept.ars ds → g ds = some outs → tree_cells_kept.go (tblS []) (fun o => o = outs) ds fun _ _ => False) : FOk ct_cells_kept g :=
  fok_of ann_cells_kept Try.f61 _ .nil rfl rfl enter_cells_kept (by decide) fun ds outs hw hg => by rw [code_cells_kept  _ rfl]; exact h ds outs hw hg

def ct_cells_Fresh : Ct := ⟨19, [.ref (.st 26)], [(.st 36, false), (.int .i64, false)], [], none⟩
theorem enter_cells_Fresh (args : Array Value) (w : World) : (callFunc ct_cells_Fresh.f args).run Try.prog w = .ok (.enter ct_cells_Fresh.f args) w := by kernel_rfl
def ann_cells_Fresh : Ann := ⟨[0, 2, 3, 5, 16], []⟩
def tree_cells_Fresh : Tree := (.br (.le (.fld (.tok 0) 5) (.len (.fld (.tok 0) 0))) (.leaf [(.lit (.a [(.i 0), (.i 0)])), (.lit (.i 13)), (.tok 0)]) (.need [(.le (.add (.len (.fld (.tok 0) 0)) (.lit (.i 1))) (.lit (.i 8796093021952)))] (.leaf [(.mk [(.lit (.i 0)), (.len (.fld (.tok 0) 0))]), (.lit (.i 0)), (.set (.tok 0) 0 (.app (.fld (.tok 0) 0) (.row [(.mk [(.lit (.i 0)), (.len (.fld (.tok 0) 0))])])))])))
set_option maxRecDepth 100000 in
theorem code_cells_Fresh : ∀ cd, Try.f19.body = some cd → treeOf Try.prog [] ann_cells_Fresh ct_cells_Fresh Try.f19 cd = tree_cells_Fresh := by
  intro cd h
  injection h with h
  subst h
  kernel_rfl
theorem fok_cells_Fresh {g : List D → Option (List D)}  (h : ∀ ds outs, WfA ct_cells_Fresh.ars ds → g ds = some outs → tree_cells_Fresh.go (tblS []) (fun o => o = outs) ds fun _ _ => False) : FOk ct_cells_Fresh g :=
  fok_of ann_cells_Fresh Try.f19 _ .nil rfl rfl enter_cells_Fresh (by decide) fun ds outs hw hg => by rw [code_cells_Fresh  _ rfl]; exact h ds outs hw hg

def ct_slices_Insert_VarCell : Ct := ⟨62, [.own (.row 49), .val (.int .i64), .own (.row 49)], [(.row 49, true)], [], none⟩
theorem enter_slices_Insert_VarCell (args : Array Value) (w : World) : (callFunc ct_slices_Insert_VarCell.f args).run Try.prog w = .ok (.enter ct_slices_Insert_VarCell.f args) w := by kernel_rfl
def ann_slices_Insert_VarCell : Ann := ⟨[0, 1, 2, 6, 7, 8, 9, 16, 22, 31, 68], []⟩
def tree_slices_Insert_VarCell : Tree := (.need [(.le (.lit (.i 0)) (.tok 1)), (.le (.tok 1) (.len (.tok 0)))] (.br (.eq (.len (.tok 2)) (.lit (.i 0))) (.leaf [(.tok 0)]) (.br (.eq (.tok 1) (.len (.tok 0))) (.need [(.le (.add (.len (.tok 0)) (.len (.tok 2))) (.lit (.i 5864062014634)))] (.leaf [(.app (.tok 0) (.tok 2))])) (.bad 8004))))
set_option maxRecDepth 100000 in
theorem code_slices_Insert_VarCell : ∀ cd, Try.f62.body = some cd → treeOf Try.prog [] ann_slices_Insert_VarCell ct_slices_Insert_VarCell Try.f62 cd = tree_slices_Insert_VarCell := by
  intro cd h
  injection h with h
  subst h
  kernel_rfl
theorem fok_slices_Insert_VarCell {g : List D → Option (List D)}  (h : ∀ ds outs, WfA ct_slices_Insert_VarCell.ars ds → g ds = some outs → tree_slices_Insert_VarCell.go (tblS []) (fun o => o = outs) ds fun _ _ => False) : FOk ct_slices_Insert_VarCell g :=
  fok_of ann_slices_Insert_VarCell Try.f62 _ .nil rfl rfl enter_slices_Insert_VarCell (by decide) fun ds outs hw hg => by rw [code_slices_Insert_VarCell  _ rfl]; exact h ds outs hw hg

def ct_cells_Put_1 : Ct := ⟨58, [.val (.st 42), .val (.int .i64), .cell 34 5, .ref (.row 49), .cell 89 6], [(.st 36, false)], [(.cell 2, .ref (.st 26)), (.cell 4, .fn 58 [2, 3, 4])], none⟩
theorem enter_cells_Put_1 (args : Array Value) (w : World) : (callFunc ct_cells_Put_1.f args).run Try.prog w = .ok (.enter ct_cells_Put_1.f args) w := by kernel_rfl
def ann_cells_Put_1 : Ann := ⟨[0, 1, 2, 3, 4, 5, 7, 8, 10, 11, 12, 13, 15, 16, 17, 18, 19, 21, 22, 27, 38, 47, 57, 110, 111, 112, 113], [(21, ⟨[(112, .int .i64, false)], [3, 100000], [113, 114, 115, 116, 17, 16, 117, 118, 119, 120, 18, 121, 122, 123, 124, 19, 125, 126, 127, 128, 129, 130, 131, 132], []⟩)]⟩
def tree_cells_Put_1 : Tree := (.br (.eq (.fld (.tok 0) 0) (.lit (.i 1))) (.leaf [(.mk [(.lit (.i 1)), (.fld (.tok 0) 1)]), (.tok 2), (.tok 3)]) (.br (.eq (.fld (.tok 0) 0) (.lit (.i 2))) (.need [(.ok 1 [(.tok 3), (.fld (.tok 0) 2), (.lit (.i 0))])] (.leaf [(.mk [(.lit (.i 2)), (.call 1 0 [(.tok 3), (.fld (.tok 0) 2), (.lit (.i 0))])]), (.tok 2), (.call 1 2 [(.tok 3), (.fld (.tok 0) 2), (.lit (.i 0))])])) (.br (.eq (.fld (.tok 0) 0) (.lit (.i 0))) (.need [(.ok 2 [(.tok 2), (.fld (.tok 0) 1)])] (.br (.call 2 1 [(.tok 2), (.fld (.tok 0) 1)]) (.need [(.le (.lit (.i 0)) (.call 2 0 [(.tok 2), (.fld (.tok 0) 1)])), (.lt (.call 2 0 [(.tok 2), (.fld (.tok 0) 1)]) (.len (.tok 2))), (.ok 3 [(.fld (.get (.tok 2) (.call 2 0 [(.tok 2), (.fld (.tok 0) 1)])) 1)])] (.leaf [(.call 3 0 [(.fld (.get (.tok 2) (.call 2 0 [(.tok 2), (.fld (.tok 0) 1)])) 1)]), (.tok 2), (.tok 3)])) (.br (.lt (.tok 1) (.lit (.i 0))) (.need [(.ok 4 [(.tok 3)])] (.need [(.ok 5 [(.tok 2), (.call 2 0 [(.tok 2), (.fld (.tok 0) 1)]), (.row [(.mk [(.fld (.tok 0) 1), (.call 4 0 [(.tok 3)])])])])] (.leaf [(.call 4 0 [(.tok 3)]), (.call 5 0 [(.tok 2), (.call 2 0 [(.tok 2), (.fld (.tok 0) 1)]), (.row [(.mk [(.fld (.tok 0) 1), (.call 4 0 [(.tok 3)])])])]), (.call 4 2 [(.tok 3)])]))) (.need [(.ok 5 [(.tok 2), (.call 2 0 [(.tok 2), (.fld (.tok 0) 1)]), (.row [(.mk [(.fld (.tok 0) 1), (.mk [(.lit (.i 0)), (.tok 1)])])])])] (.leaf [(.mk [(.lit (.i 0)), (.tok 1)]), (.call 5 0 [(.tok 2), (.call 2 0 [(.tok 2), (.fld (.tok 0) 1)]), (.row [(.mk [(.fld (.tok 0) 1), (.mk [(.lit (.i 0)), (.tok 1)])])])]), (.tok 3)]))))) (.need [(.ok 1 [(.tok 3), (.fld (.tok 0) 2), (.len (.fld (.tok 0) 3))])] (.need [(.le (.add (.len (.fld (.call 1 2 [(.tok 3), (.fld (.tok 0) 2), (.len (.fld (.tok 0) 3))]) 0)) (.lit (.i 1))) (.lit (.i 8796093021952)))] (.need [(.le (.lit (.i 0)) (.len (.fld (.tok 0) 3))), (.le (.len (.fld (.tok 0) 3)) (.lit (.i 16777216))), (.le (.add (.len (.fld (.set (.call 1 2 [(.tok 3), (.fld (.tok 0) 2), (.len (.fld (.tok 0) 3))]) 0 (.app (.fld (.call 1 2 [(.tok 3), (.fld (.tok 0) 2), (.len (.fld (.tok 0) 3))]) 0) (.row [(.mk [(.lit (.i 4)), (.call 1 0 [(.tok 3), (.fld (.tok 0) 2), (.len (.fld (.tok 0) 3))])])]))) 0)) (.len (.fld (.tok 0) 3))) (.lit (.i 8796093021952)))] (.loop 21 4 [(.lit (.i 0)), (.tok 2), (.set (.set (.call 1 2 [(.tok 3), (.fld (.tok 0) 2), (.len (.fld (.tok 0) 3))]) 0 (.app (.fld (.call 1 2 [(.tok 3), (.fld (.tok 0) 2), (.len (.fld (.tok 0) 3))]) 0) (.row [(.mk [(.lit (.i 4)), (.call 1 0 [(.tok 3), (.fld (.tok 0) 2), (.len (.fld (.tok 0) 3))])])]))) 0 (.app (.fld (.set (.call 1 2 [(.tok 3), (.fld (.tok 0) 2), (.len (.fld (.tok 0) 3))]) 0 (.app (.fld (.call 1 2 [(.tok 3), (.fld (.tok 0) 2), (.len (.fld (.tok 0) 3))]) 0) (.row [(.mk [(.lit (.i 4)), (.call 1 0 [(.tok 3), (.fld (.tok 0) 2), (.len (.fld (.tok 0) 3))])])]))) 0) (.rep (.len (.fld (.tok 0) 3)) (.lit (.a [(.i 0), (.i 0)])))))] (.br (.lt (.tok 4) (.len (.fld (.tok 0) 3))) (.need [(.le (.lit (.i 0)) (.tok 4)), (.lt (.tok 4) (.len (.fld (.tok 0) 3)))] (.need [(.rng .i64 (.add (.len (.fld (.call 1 2 [(.tok 3), (.fld (.tok 0) 2), (.len (.fld (.tok 0) 3))]) 0)) (.lit (.i 1)))), (.rng .i64 (.add (.add (.len (.fld (.call 1 2 [(.tok 3), (.fld (.tok 0) 2), (.len (.fld (.tok 0) 3))]) 0)) (.lit (.i 1))) (.tok 4)))] (.need [(.ok 0 [(.get (.fld (.tok 0) 3) (.tok 4)), (.add (.add (.len (.fld (.call 1 2 [(.tok 3), (.fld (.tok 0) 2), (.len (.fld (.tok 0) 3))]) 0)) (.lit (.i 1))) (.tok 4)), (.tok 5), (.tok 6)])] (.need [(.le (.lit (.i 0)) (.add (.add (.len (.fld (.call 1 2 [(.tok 3), (.fld (.tok 0) 2), (.len (.fld (.tok 0) 3))]) 0)) (.lit (.i 1))) (.tok 4))), (.lt (.add (.add (.len (.fld (.call 1 2 [(.tok 3), (.fld (.tok 0) 2), (.len (.fld (.tok 0) 3))]) 0)) (.lit (.i 1))) (.tok 4)) (.len (.fld (.call 0 2 [(.get (.fld (.tok 0) 3) (.tok 4)), (.add (.add (.len (.fld (.call 1 2 [(.tok 3), (.fld (.tok 0) 2), (.len (.fld (.tok 0) 3))]) 0)) (.lit (.i 1))) (.tok 4)), (.tok 5), (.tok 6)]) 0)))] (.need [(.rng .i64 (.add (.tok 4) (.lit (.i 1))))] (.back 21 [(.add (.tok 4) (.lit (.i 1))), (.call 0 1 [(.get (.fld (.tok 0) 3) (.tok 4)), (.add (.add (.len (.fld (.call 1 2 [(.tok 3), (.fld (.tok 0) 2), (.len (.fld (.tok 0) 3))]) 0)) (.lit (.i 1))) (.tok 4)), (.tok 5), (.tok 6)]), (.set (.call 0 2 [(.get (.fld (.tok 0) 3) (.tok 4)), (.add (.add (.len (.fld (.call 1 2 [(.tok 3), (.fld (.tok 0) 2), (.len (.fld (.tok 0) 3))]) 0)) (.lit (.i 1))) (.tok 4)), (.tok 5), (.tok 6)]) 0 (.put (.fld (.call 0 2 [(.get (.fld (.tok 0) 3) (.tok 4)), (.add (.add (.len (.fld (.call 1 2 [(.tok 3), (.fld (.tok 0) 2), (.len (.fld (.tok 0) 3))]) 0)) (.lit (.i 1))) (.tok 4)), (.tok 5), (.tok 6)]) 0) (.add (.add (.len (.fld (.call 1 2 [(.tok 3), (.fld (.tok 0) 2), (.len (.fld (.tok 0) 3))]) 0)) (.lit (.i 1))) (.tok 4)) (.call 0 0 [(.get (.fld (.tok 0) 3) (.tok 4)), (.add (.add (.len (.fld (.call 1 2 [(.tok 3), (.fld (.tok 0) 2), (.len (.fld (.tok 0) 3))]) 0)) (.lit (.i 1))) (.tok 4)), (.tok 5), (.tok 6)])))])))))) (.leaf [(.mk [(.lit (.i 3)), (.len (.fld (.call 1 2 [(.tok 3), (.fld (.tok 0) 2), (.len (.fld (.tok 0) 3))]) 0))]), (.tok 5), (.tok 6)])))))))))
set_option maxRecDepth 100000 in
theorem code_cells_Put_1 (g0 g1 g2 g3 g4 g5 : List D → Option (List D)) : ∀ cd, Try.f58.body = some cd → treeOf Try.prog [(ct_cells_Put_1, g0), (ct_cells_Symbol, g1), (ct_slices_BinarySearchFunc_VarCell, g2), (ct_cells_kept, g3), (ct_cells_Fresh, g4), (ct_slices_Insert_VarCell, g5)] ann_cells_Put_1 ct_cells_Put_1 Try.f58 cd = tree_cells_Put_1 := by
  intro cd h
  injection h with h
  subst h
  kernel_rfl
theorem fok_cells_Put_1 {g0 g1 g2 g3 g4 g5 : List D → Option (List D)} {g : List D → Option (List D)} (h0 : FOk ct_cells_Put_1 g0) (h1 : FOk ct_cells_Symbol g1) (h2 : FOk ct_slices_BinarySearchFunc_VarCell g2) (h3 : FOk ct_cells_kept g3) (h4 : FOk ct_cells_Fresh g4) (h5 : FOk ct_slices_Insert_VarCell g5) (h : ∀ ds outs, WfA ct_cells_Put_1.ars ds → g ds = some outs → tree_cells_Put_1.go (tblS [(ct_cells_Put_1, g0), (ct_cells_Symbol, g1), (ct_slices_BinarySearchFunc_VarCell, g2), (ct_cells_kept, g3), (ct_cells_Fresh, g4), (ct_slices_Insert_VarCell, g5)]) (fun o => o = outs) ds fun _ _ => False) : FOk ct_cells_Put_1 g :=
  fok_of ann_cells_Put_1 Try.f58 _ (.cons h0 (.cons h1 (.cons h2 (.cons h3 (.cons h4 (.cons h5 .nil)))))) rfl rfl enter_cells_Put_1 (by decide) fun ds outs hw hg => by rw [code_cells_Put_1 g0 g1 g2 g3 g4 g5 _ rfl]; exact h ds outs hw hg

def ct_term_Size_1 : Ct := ⟨110, [.val (.st 42), .ref (.int .i64), .cell 116 3], [], [(.cell 2, .fn 110 [1, 2])], none⟩
theorem enter_term_Size_1 (args : Array Value) (w : World) : (callFunc ct_term_Size_1.f args).run Try.prog w = .ok (.enter ct_term_Size_1.f args) w := by kernel_rfl
def ann_term_Size_1 : Ann := ⟨[0, 1, 2, 3, 4, 15], [(3, ⟨[(4, .int .i64, false)], [1], [7, 8, 9, 10, 11, 12, 13, 14, 15, 18, 19, 20, 21, 22, 23, 24, 16, 17], []⟩)]⟩
def tree_term_Size_1 : Tree := (.need [(.rng .i64 (.sub (.tok 1) (.lit (.i 1))))] (.loop 3 2 [(.lit (.i 0)), (.sub (.tok 1) (.lit (.i 1)))] (.br (.and (.lt (.tok 2) (.len (.fld (.tok 0) 3))) (.lt (.lit (.i 0)) (.tok 3))) (.need [(.ok 0 [(.get (.fld (.tok 0) 3) (.tok 2)), (.tok 3)]), (.le (.lit (.i 0)) (.tok 2)), (.lt (.tok 2) (.len (.fld (.tok 0) 3)))] (.need [(.rng .i64 (.add (.tok 2) (.lit (.i 1))))] (.back 3 [(.add (.tok 2) (.lit (.i 1))), (.call 0 0 [(.get (.fld (.tok 0) 3) (.tok 2)), (.tok 3)])]))) (.leaf [(.tok 3)]))))
set_option maxRecDepth 100000 in
theorem code_term_Size_1 (g0 : List D → Option (List D)) : ∀ cd, Try.f110.body = some cd → treeOf Try.prog [(ct_term_Size_1, g0)] ann_term_Size_1 ct_term_Size_1 Try.f110 cd = tree_term_Size_1 := by
  intro cd h
  injection h with h
  subst h
  kernel_rfl
theorem fok_term_Size_1 {g0 : List D → Option (List D)} {g : List D → Option (List D)} (h0 : FOk ct_term_Size_1 g0) (h : ∀ ds outs, WfA ct_term_Size_1.ars ds → g ds = some outs → tree_term_Size_1.go (tblS [(ct_term_Size_1, g0)]) (fun o => o = outs) ds fun _ _ => False) : FOk ct_term_Size_1 g :=
  fok_of ann_term_Size_1 Try.f110 _ (.cons h0 .nil) rfl rfl enter_term_Size_1 (by decide) fun ds outs hw hg => by rw [code_term_Size_1 g0 _ rfl]; exact h ds outs hw hg

def ct_term_Size : Ct := ⟨95, [.val (.st 42)], [(.int .i64, false)], [], none⟩
theorem enter_term_Size (args : Array Value) (w : World) : (callFunc ct_term_Size.f args).run Try.prog w = .ok (.enter ct_term_Size.f args) w := by kernel_rfl
def ann_term_Size : Ann := ⟨[0, 1, 2, 3, 4], []⟩
def tree_term_Size : Tree := (.need [(.ok 0 [(.tok 0), (.lit (.i 2001))])] (.need [(.rng .i64 (.sub (.lit (.i 2001)) (.call 0 0 [(.tok 0), (.lit (.i 2001))])))] (.leaf [(.sub (.lit (.i 2001)) (.call 0 0 [(.tok 0), (.lit (.i 2001))]))])))
set_option maxRecDepth 100000 in
theorem code_term_Size (g0 : List D → Option (List D)) : ∀ cd, Try.f95.body = some cd → treeOf Try.prog [(ct_term_Size_1, g0)] ann_term_Size ct_term_Size Try.f95 cd = tree_term_Size := by
  intro cd h
  injection h with h
  subst h
  kernel_rfl
theorem fok_term_Size {g0 : List D → Option (List D)} {g : List D → Option (List D)} (h0 : FOk ct_term_Size_1 g0) (h : ∀ ds outs, WfA ct_term_Size.ars ds → g ds = some outs → tree_term_Size.go (tblS [(ct_term_Size_1, g0)]) (fun o => o = outs) ds fun _ _ => False) : FOk ct_term_Size g :=
  fok_of ann_term_Size Try.f95 _ (.cons h0 .nil) rfl rfl enter_term_Size (by decide) fun ds outs hw hg => by rw [code_term_Size g0 _ rfl]; exact h ds outs hw hg

def ct_term_fits : Ct := ⟨96, [.val (.st 42)], [(.bool, false)], [], none⟩
theorem enter_term_fits (args : Array Value) (w : World) : (callFunc ct_term_fits.f args).run Try.prog w = .ok (.enter ct_term_fits.f args) w := by kernel_rfl
def ann_term_fits : Ann := ⟨[0, 1, 2, 3, 4, 6, 7, 28, 39, 56, 86], [(12, ⟨[(3, .bool, false), (4, .int .i64, false)], [], [79, 80, 81, 82, 83, 84, 85, 86, 89, 90, 91, 92, 93, 94, 87, 88], []⟩)]⟩
def tree_term_fits : Tree := (.br (.eq (.fld (.tok 0) 0) (.lit (.i 0))) (.loop 12 1 [(.and (.and (.and (.le (.lit (.i 0)) (.fld (.tok 0) 1)) (.le (.fld (.tok 0) 1) (.lit (.i 1099511627776)))) (.eq (.fld (.tok 0) 2) (.lit (.s ⟨#[]⟩)))) (.eq (.len (.fld (.tok 0) 3)) (.lit (.i 0)))), (.lit (.i 0))] (.br (.and (.lt (.tok 2) (.len (.fld (.tok 0) 3))) (.tok 1)) (.need [(.le (.lit (.i 0)) (.tok 2)), (.lt (.tok 2) (.len (.fld (.tok 0) 3))), (.ok 0 [(.get (.fld (.tok 0) 3) (.tok 2))])] (.need [(.rng .i64 (.add (.tok 2) (.lit (.i 1))))] (.back 12 [(.call 0 0 [(.get (.fld (.tok 0) 3) (.tok 2))]), (.add (.tok 2) (.lit (.i 1)))]))) (.leaf [(.tok 1)]))) (.br (.eq (.fld (.tok 0) 0) (.lit (.i 1))) (.loop 12 1 [(.and (.eq (.fld (.tok 0) 2) (.lit (.s ⟨#[]⟩))) (.eq (.len (.fld (.tok 0) 3)) (.lit (.i 0)))), (.lit (.i 0))] (.br (.and (.lt (.tok 2) (.len (.fld (.tok 0) 3))) (.tok 1)) (.need [(.le (.lit (.i 0)) (.tok 2)), (.lt (.tok 2) (.len (.fld (.tok 0) 3))), (.ok 0 [(.get (.fld (.tok 0) 3) (.tok 2))])] (.need [(.rng .i64 (.add (.tok 2) (.lit (.i 1))))] (.back 12 [(.call 0 0 [(.get (.fld (.tok 0) 3) (.tok 2))]), (.add (.tok 2) (.lit (.i 1)))]))) (.leaf [(.tok 1)]))) (.br (.eq (.fld (.tok 0) 0) (.lit (.i 2))) (.loop 12 1 [(.and (.and (.eq (.fld (.tok 0) 1) (.lit (.i 0))) (.le (.slen (.fld (.tok 0) 2)) (.lit (.i 100)))) (.eq (.len (.fld (.tok 0) 3)) (.lit (.i 0)))), (.lit (.i 0))] (.br (.and (.lt (.tok 2) (.len (.fld (.tok 0) 3))) (.tok 1)) (.need [(.le (.lit (.i 0)) (.tok 2)), (.lt (.tok 2) (.len (.fld (.tok 0) 3))), (.ok 0 [(.get (.fld (.tok 0) 3) (.tok 2))])] (.need [(.rng .i64 (.add (.tok 2) (.lit (.i 1))))] (.back 12 [(.call 0 0 [(.get (.fld (.tok 0) 3) (.tok 2))]), (.add (.tok 2) (.lit (.i 1)))]))) (.leaf [(.tok 1)]))) (.br (.eq (.fld (.tok 0) 0) (.lit (.i 3))) (.loop 12 1 [(.and (.and (.and (.eq (.fld (.tok 0) 1) (.lit (.i 0))) (.le (.slen (.fld (.tok 0) 2)) (.lit (.i 100)))) (.lt (.lit (.i 0)) (.len (.fld (.tok 0) 3)))) (.le (.len (.fld (.tok 0) 3)) (.lit (.i 8)))), (.lit (.i 0))] (.br (.and (.lt (.tok 2) (.len (.fld (.tok 0) 3))) (.tok 1)) (.need [(.le (.lit (.i 0)) (.tok 2)), (.lt (.tok 2) (.len (.fld (.tok 0) 3))), (.ok 0 [(.get (.fld (.tok 0) 3) (.tok 2))])] (.need [(.rng .i64 (.add (.tok 2) (.lit (.i 1))))] (.back 12 [(.call 0 0 [(.get (.fld (.tok 0) 3) (.tok 2))]), (.add (.tok 2) (.lit (.i 1)))]))) (.leaf [(.tok 1)]))) (.loop 12 1 [(.lit (.b .false)), (.lit (.i 0))] (.br (.and (.lt (.tok 2) (.len (.fld (.tok 0) 3))) (.tok 1)) (.need [(.le (.lit (.i 0)) (.tok 2)), (.lt (.tok 2) (.len (.fld (.tok 0) 3))), (.ok 0 [(.get (.fld (.tok 0) 3) (.tok 2))])] (.need [(.rng .i64 (.add (.tok 2) (.lit (.i 1))))] (.back 12 [(.call 0 0 [(.get (.fld (.tok 0) 3) (.tok 2))]), (.add (.tok 2) (.lit (.i 1)))]))) (.leaf [(.tok 1)])))))))
set_option maxRecDepth 100000 in
theorem code_term_fits (g0 : List D → Option (List D)) : ∀ cd, Try.f96.body = some cd → treeOf Try.prog [(ct_term_fits, g0)] ann_term_fits ct_term_fits Try.f96 cd = tree_term_fits := by
  intro cd h
  injection h with h
  subst h
  kernel_rfl
theorem fok_term_fits {g0 : List D → Option (List D)} {g : List D → Option (List D)} (h0 : FOk ct_term_fits g0) (h : ∀ ds outs, WfA ct_term_fits.ars ds → g ds = some outs → tree_term_fits.go (tblS [(ct_term_fits, g0)]) (fun o => o = outs) ds fun _ _ => False) : FOk ct_term_fits g :=
  fok_of ann_term_fits Try.f96 _ (.cons h0 .nil) rfl rfl enter_term_fits (by decide) fun ds outs hw hg => by rw [code_term_fits g0 _ rfl]; exact h ds outs hw hg

def ct_term_Valid : Ct := ⟨54, [.val (.st 42)], [(.bool, false)], [], none⟩
theorem enter_term_Valid (args : Array Value) (w : World) : (callFunc ct_term_Valid.f args).run Try.prog w = .ok (.enter ct_term_Valid.f args) w := by kernel_rfl
def ann_term_Valid : Ann := ⟨[0, 1, 2], []⟩
def tree_term_Valid : Tree := (.need [(.ok 0 [(.tok 0)]), (.imp (.le (.call 0 0 [(.tok 0)]) (.lit (.i 2000))) (.ok 1 [(.tok 0)]))] (.leaf [(.and (.le (.call 0 0 [(.tok 0)]) (.lit (.i 2000))) (.call 1 0 [(.tok 0)]))]))
set_option maxRecDepth 100000 in
theorem code_term_Valid (g0 g1 : List D → Option (List D)) : ∀ cd, Try.f54.body = some cd → treeOf Try.prog [(ct_term_Size, g0), (ct_term_fits, g1)] ann_term_Valid ct_term_Valid Try.f54 cd = tree_term_Valid := by
  intro cd h
  injection h with h
  subst h
  kernel_rfl
theorem fok_term_Valid {g0 g1 : List D → Option (List D)} {g : List D → Option (List D)} (h0 : FOk ct_term_Size g0) (h1 : FOk ct_term_fits g1) (h : ∀ ds outs, WfA ct_term_Valid.ars ds → g ds = some outs → tree_term_Valid.go (tblS [(ct_term_Size, g0), (ct_term_fits, g1)]) (fun o => o = outs) ds fun _ _ => False) : FOk ct_term_Valid g :=
  fok_of ann_term_Valid Try.f54 _ (.cons h0 (.cons h1 .nil)) rfl rfl enter_term_Valid (by decide) fun ds outs hw hg => by rw [code_term_Valid g0 g1 _ rfl]; exact h ds outs hw hg

def ct_cells_arity : Ct := ⟨67, [.val (.st 26), .val (.int .i64)], [(.int .i64, false)], [], none⟩
theorem enter_cells_arity (args : Array Value) (w : World) : (callFunc ct_cells_arity.f args).run Try.prog w = .ok (.enter ct_cells_arity.f args) w := by kernel_rfl
def ann_cells_arity : Ann := ⟨[0, 1, 2, 4, 13], []⟩
def tree_cells_arity : Tree := (.br (.or (.lt (.tok 1) (.lit (.i 0))) (.le (.len (.fld (.tok 0) 1)) (.tok 1))) (.leaf [(.lit (.i (-1)))]) (.need [(.le (.lit (.i 0)) (.tok 1)), (.lt (.tok 1) (.len (.fld (.tok 0) 1)))] (.leaf [(.fld (.get (.fld (.tok 0) 1) (.tok 1)) 1)])))
set_option maxRecDepth 100000 in
theorem code_cells_arity : ∀ cd, Try.f67.body = some cd → treeOf Try.prog [] ann_cells_arity ct_cells_arity Try.f67 cd = tree_cells_arity := by
  intro cd h
  injection h with h
  subst h
  kernel_rfl
theorem fok_cells_arity {g : List D → Option (List D)}  (h : ∀ ds outs, WfA ct_cells_arity.ars ds → g ds = some outs → tree_cells_arity.go (tblS []) (fun o => o = outs) ds fun _ _ => False) : FOk ct_cells_arity g :=
  fok_of ann_cells_arity Try.f67 _ .nil rfl rfl enter_cells_arity (by decide) fun ds outs hw hg => by rw [code_cells_arity  _ rfl]; exact h ds outs hw hg

def ct_cells_tag : Ct := ⟨69, [.val (.st 26), .val (.int .i64)], [(.int .i64, false)], [], none⟩
theorem enter_cells_tag (args : Array Value) (w : World) : (callFunc ct_cells_tag.f args).run Try.prog w = .ok (.enter ct_cells_tag.f args) w := by kernel_rfl
def ann_cells_tag : Ann := ⟨[0, 1, 2, 4, 13], []⟩
def tree_cells_tag : Tree := (.br (.or (.lt (.tok 1) (.lit (.i 0))) (.le (.len (.fld (.tok 0) 0)) (.tok 1))) (.leaf [(.lit (.i (-1)))]) (.need [(.le (.lit (.i 0)) (.tok 1)), (.lt (.tok 1) (.len (.fld (.tok 0) 0)))] (.leaf [(.fld (.get (.fld (.tok 0) 0) (.tok 1)) 0)])))
set_option maxRecDepth 100000 in
theorem code_cells_tag : ∀ cd, Try.f69.body = some cd → treeOf Try.prog [] ann_cells_tag ct_cells_tag Try.f69 cd = tree_cells_tag := by
  intro cd h
  injection h with h
  subst h
  kernel_rfl
theorem fok_cells_tag {g : List D → Option (List D)}  (h : ∀ ds outs, WfA ct_cells_tag.ars ds → g ds = some outs → tree_cells_tag.go (tblS []) (fun o => o = outs) ds fun _ _ => False) : FOk ct_cells_tag g :=
  fok_of ann_cells_tag Try.f69 _ .nil rfl rfl enter_cells_tag (by decide) fun ds outs hw hg => by rw [code_cells_tag  _ rfl]; exact h ds outs hw hg

def ct_cells_ValidCell : Ct := ⟨38, [.val (.st 26), .val (.st 36)], [(.bool, false)], [], none⟩
theorem enter_cells_ValidCell (args : Array Value) (w : World) : (callFunc ct_cells_ValidCell.f args).run Try.prog w = .ok (.enter ct_cells_ValidCell.f args) w := by kernel_rfl
def ann_cells_ValidCell : Ann := ⟨[0, 1, 2, 3, 4, 5, 7, 8, 10, 17, 29, 36], []⟩
def tree_cells_ValidCell : Tree := (.br (.eq (.fld (.tok 1) 0) (.lit (.i 1))) (.leaf [(.lit (.b .true))]) (.br (.eq (.fld (.tok 1) 0) (.lit (.i 2))) (.need [(.ok 0 [(.tok 0), (.fld (.tok 1) 1)])] (.leaf [(.eq (.call 0 0 [(.tok 0), (.fld (.tok 1) 1)]) (.lit (.i 0)))])) (.br (.eq (.fld (.tok 1) 0) (.lit (.i 0))) (.need [(.ok 1 [(.tok 0), (.fld (.tok 1) 1)])] (.leaf [(.and (.le (.lit (.i 0)) (.call 1 0 [(.tok 0), (.fld (.tok 1) 1)])) (.not (.eq (.call 1 0 [(.tok 0), (.fld (.tok 1) 1)]) (.lit (.i 4)))))])) (.br (.eq (.fld (.tok 1) 0) (.lit (.i 3))) (.need [(.ok 1 [(.tok 0), (.fld (.tok 1) 1)])] (.leaf [(.eq (.call 1 0 [(.tok 0), (.fld (.tok 1) 1)]) (.lit (.i 4)))])) (.br (.eq (.fld (.tok 1) 0) (.lit (.i 5))) (.need [(.ok 1 [(.tok 0), (.fld (.tok 1) 1)])] (.leaf [(.eq (.call 1 0 [(.tok 0), (.fld (.tok 1) 1)]) (.lit (.i 5)))])) (.leaf [(.lit (.b .false))]))))))
set_option maxRecDepth 100000 in
theorem code_cells_ValidCell (g0 g1 : List D → Option (List D)) : ∀ cd, Try.f38.body = some cd → treeOf Try.prog [(ct_cells_arity, g0), (ct_cells_tag, g1)] ann_cells_ValidCell ct_cells_ValidCell Try.f38 cd = tree_cells_ValidCell := by
  intro cd h
  injection h with h
  subst h
  kernel_rfl
theorem fok_cells_ValidCell {g0 g1 : List D → Option (List D)} {g : List D → Option (List D)} (h0 : FOk ct_cells_arity g0) (h1 : FOk ct_cells_tag g1) (h : ∀ ds outs, WfA ct_cells_ValidCell.ars ds → g ds = some outs → tree_cells_ValidCell.go (tblS [(ct_cells_arity, g0), (ct_cells_tag, g1)]) (fun o => o = outs) ds fun _ _ => False) : FOk ct_cells_ValidCell g :=
  fok_of ann_cells_ValidCell Try.f38 _ (.cons h0 (.cons h1 .nil)) rfl rfl enter_cells_ValidCell (by decide) fun ds outs hw hg => by rw [code_cells_ValidCell g0 g1 _ rfl]; exact h ds outs hw hg

def ct_cells_validVars : Ct := ⟨55, [.val (.st 26), .val (.row 49)], [(.bool, false)], [], none⟩
theorem enter_cells_validVars (args : Array Value) (w : World) : (callFunc ct_cells_validVars.f args).run Try.prog w = .ok (.enter ct_cells_validVars.f args) w := by kernel_rfl
def ann_cells_validVars : Ann := ⟨[0, 1, 2, 4, 5, 6, 7, 8, 9, 10, 43], [(2, ⟨[(4, .bool, false), (9, .int .i64, false)], [], [10, 11, 12, 13, 6, 5, 14, 15, 16, 17, 18, 19, 20, 21, 22, 23, 24, 25, 26, 27, 28, 29, 30, 31, 32, 33, 34, 35, 36, 37, 38, 39, 40, 41, 42, 43, 44], []⟩)]⟩
def tree_cells_validVars : Tree := (.loop 2 2 [(.lit (.b .false)), (.lit (.i 0))] (.br (.lt (.tok 3) (.len (.tok 1))) (.need [(.le (.lit (.i 0)) (.tok 3)), (.lt (.tok 3) (.len (.tok 1)))] (.need [(.imp (.not (.or (.or (.lt (.fld (.get (.tok 1) (.tok 3)) 0) (.lit (.i 0))) (.lt (.lit (.i 1099511627776)) (.fld (.get (.tok 1) (.tok 3)) 0))) (.and (.lt (.lit (.i 0)) (.tok 3)) (.le (.fld (.get (.tok 1) (.tok 3)) 0) (.fld (.get (.tok 1) (.sub (.tok 3) (.lit (.i 1)))) 0))))) (.ok 0 [(.tok 0), (.fld (.get (.tok 1) (.tok 3)) 1)])), (.imp (.and (.not (.or (.lt (.fld (.get (.tok 1) (.tok 3)) 0) (.lit (.i 0))) (.lt (.lit (.i 1099511627776)) (.fld (.get (.tok 1) (.tok 3)) 0)))) (.lt (.lit (.i 0)) (.tok 3))) (.le (.lit (.i 0)) (.sub (.tok 3) (.lit (.i 1))))), (.imp (.and (.not (.or (.lt (.fld (.get (.tok 1) (.tok 3)) 0) (.lit (.i 0))) (.lt (.lit (.i 1099511627776)) (.fld (.get (.tok 1) (.tok 3)) 0)))) (.lt (.lit (.i 0)) (.tok 3))) (.lt (.sub (.tok 3) (.lit (.i 1))) (.len (.tok 1)))), (.imp (.and (.not (.or (.lt (.fld (.get (.tok 1) (.tok 3)) 0) (.lit (.i 0))) (.lt (.lit (.i 1099511627776)) (.fld (.get (.tok 1) (.tok 3)) 0)))) (.lt (.lit (.i 0)) (.tok 3))) (.le (.lit (.i 0)) (.sub (.tok 3) (.lit (.i 1))))), (.imp (.and (.not (.or (.lt (.fld (.get (.tok 1) (.tok 3)) 0) (.lit (.i 0))) (.lt (.lit (.i 1099511627776)) (.fld (.get (.tok 1) (.tok 3)) 0)))) (.lt (.lit (.i 0)) (.tok 3))) (.lt (.sub (.tok 3) (.lit (.i 1))) (.len (.tok 1)))), (.imp (.and (.not (.or (.lt (.fld (.get (.tok 1) (.tok 3)) 0) (.lit (.i 0))) (.lt (.lit (.i 1099511627776)) (.fld (.get (.tok 1) (.tok 3)) 0)))) (.lt (.lit (.i 0)) (.tok 3))) (.rng .i64 (.sub (.tok 3) (.lit (.i 1))))), (.imp (.and (.not (.or (.lt (.fld (.get (.tok 1) (.tok 3)) 0) (.lit (.i 0))) (.lt (.lit (.i 1099511627776)) (.fld (.get (.tok 1) (.tok 3)) 0)))) (.lt (.lit (.i 0)) (.tok 3))) (.rng .i64 (.sub (.tok 3) (.lit (.i 1))))), (.imp (.and (.not (.or (.lt (.fld (.get (.tok 1) (.tok 3)) 0) (.lit (.i 0))) (.lt (.lit (.i 1099511627776)) (.fld (.get (.tok 1) (.tok 3)) 0)))) (.lt (.lit (.i 0)) (.tok 3))) (.rng .i64 (.sub (.tok 3) (.lit (.i 1)))))] (.br (.or (.or (.or (.lt (.fld (.get (.tok 1) (.tok 3)) 0) (.lit (.i 0))) (.lt (.lit (.i 1099511627776)) (.fld (.get (.tok 1) (.tok 3)) 0))) (.and (.lt (.lit (.i 0)) (.tok 3)) (.le (.fld (.get (.tok 1) (.tok 3)) 0) (.fld (.get (.tok 1) (.sub (.tok 3) (.lit (.i 1)))) 0)))) (.not (.call 0 0 [(.tok 0), (.fld (.get (.tok 1) (.tok 3)) 1)]))) (.leaf [(.lit (.b .false))]) (.need [(.rng .i64 (.add (.tok 3) (.lit (.i 1))))] (.back 2 [(.tok 2), (.add (.tok 3) (.lit (.i 1)))]))))) (.leaf [(.lit (.b .true))])))
set_option maxRecDepth 100000 in
theorem code_cells_validVars (g0 : List D → Option (List D)) : ∀ cd, Try.f55.body = some cd → treeOf Try.prog [(ct_cells_ValidCell, g0)] ann_cells_validVars ct_cells_validVars Try.f55 cd = tree_cells_validVars := by
  intro cd h
  injection h with h
  subst h
  kernel_rfl
theorem fok_cells_validVars {g0 : List D → Option (List D)} {g : List D → Option (List D)} (h0 : FOk ct_cells_ValidCell g0) (h : ∀ ds outs, WfA ct_cells_validVars.ars ds → g ds = some outs → tree_cells_validVars.go (tblS [(ct_cells_ValidCell, g0)]) (fun o => o = outs) ds fun _ _ => False) : FOk ct_cells_validVars g :=
  fok_of ann_cells_validVars Try.f55 _ (.cons h0 .nil) rfl rfl enter_cells_validVars (by decide) fun ds outs hw hg => by rw [code_cells_validVars g0 _ rfl]; exact h ds outs hw hg

def ct_cells_room_1 : Ct := ⟨97, [.val (.st 42), .ref (.map 72 4), .cell 34 5, .ref (.int .i64), .cell 116 6], [], [(.cell 2, .rref (.st 26)), (.cell 4, .fn 97 [1, 2, 3, 4])], none⟩
theorem enter_cells_room_1 (args : Array Value) (w : World) : (callFunc ct_cells_room_1.f args).run Try.prog w = .ok (.enter ct_cells_room_1.f args) w := by kernel_rfl
def ann_cells_room_1 : Ann := ⟨[0, 1, 2, 3, 4, 5, 6, 8, 16, 32, 37, 45, 46, 47, 48], [(8, ⟨[(47, .int .i64, false)], [1, 3], [48, 49, 50, 8, 51, 52, 53, 54], []⟩)]⟩
def tree_cells_room_1 : Tree := (.br (.or (.eq (.fld (.tok 0) 0) (.lit (.i 2))) (.eq (.fld (.tok 0) 0) (.lit (.i 3)))) (.need [(.imp (.not (.fn 0 [(.tok 1), (.mk [(.fld (.tok 0) 2), (.len (.fld (.tok 0) 3))]), (.lit (.b .false))])) (.ok 1 [(.tok 3), (.mk [(.fld (.tok 0) 2), (.len (.fld (.tok 0) 3))])]))] (.br (.and (.not (.fn 0 [(.tok 1), (.mk [(.fld (.tok 0) 2), (.len (.fld (.tok 0) 3))]), (.lit (.b .false))])) (.lt (.call 1 0 [(.tok 3), (.mk [(.fld (.tok 0) 2), (.len (.fld (.tok 0) 3))])]) (.lit (.i 0)))) (.br (.eq (.fld (.tok 0) 0) (.lit (.i 3))) (.need [(.rng .i64 (.add (.len (.fld (.tok 0) 3)) (.lit (.i 1)))), (.rng .i64 (.add (.tok 2) (.add (.len (.fld (.tok 0) 3)) (.lit (.i 1)))))] (.loop 8 4 [(.lit (.i 0)), (.fn 2 [(.tok 1), (.mk [(.fld (.tok 0) 2), (.len (.fld (.tok 0) 3))]), (.lit (.b .true))]), (.add (.tok 2) (.add (.len (.fld (.tok 0) 3)) (.lit (.i 1))))] (.br (.lt (.tok 4) (.len (.fld (.tok 0) 3))) (.need [(.le (.lit (.i 0)) (.tok 4)), (.lt (.tok 4) (.len (.fld (.tok 0) 3)))] (.need [(.ok 0 [(.get (.fld (.tok 0) 3) (.tok 4)), (.tok 5), (.tok 6), (.tok 3)])] (.need [(.rng .i64 (.add (.tok 4) (.lit (.i 1))))] (.back 8 [(.add (.tok 4) (.lit (.i 1))), (.call 0 0 [(.get (.fld (.tok 0) 3) (.tok 4)), (.tok 5), (.tok 6), (.tok 3)]), (.call 0 1 [(.get (.fld (.tok 0) 3) (.tok 4)), (.tok 5), (.tok 6), (.tok 3)])])))) (.leaf [(.tok 5), (.tok 6)])))) (.loop 8 4 [(.lit (.i 0)), (.fn 2 [(.tok 1), (.mk [(.fld (.tok 0) 2), (.len (.fld (.tok 0) 3))]), (.lit (.b .true))]), (.tok 2)] (.br (.lt (.tok 4) (.len (.fld (.tok 0) 3))) (.need [(.le (.lit (.i 0)) (.tok 4)), (.lt (.tok 4) (.len (.fld (.tok 0) 3)))] (.need [(.ok 0 [(.get (.fld (.tok 0) 3) (.tok 4)), (.tok 5), (.tok 6), (.tok 3)])] (.need [(.rng .i64 (.add (.tok 4) (.lit (.i 1))))] (.back 8 [(.add (.tok 4) (.lit (.i 1))), (.call 0 0 [(.get (.fld (.tok 0) 3) (.tok 4)), (.tok 5), (.tok 6), (.tok 3)]), (.call 0 1 [(.get (.fld (.tok 0) 3) (.tok 4)), (.tok 5), (.tok 6), (.tok 3)])])))) (.leaf [(.tok 5), (.tok 6)])))) (.br (.eq (.fld (.tok 0) 0) (.lit (.i 3))) (.need [(.rng .i64 (.add (.len (.fld (.tok 0) 3)) (.lit (.i 1)))), (.rng .i64 (.add (.tok 2) (.add (.len (.fld (.tok 0) 3)) (.lit (.i 1)))))] (.loop 8 4 [(.lit (.i 0)), (.tok 1), (.add (.tok 2) (.add (.len (.fld (.tok 0) 3)) (.lit (.i 1))))] (.br (.lt (.tok 4) (.len (.fld (.tok 0) 3))) (.need [(.le (.lit (.i 0)) (.tok 4)), (.lt (.tok 4) (.len (.fld (.tok 0) 3)))] (.need [(.ok 0 [(.get (.fld (.tok 0) 3) (.tok 4)), (.tok 5), (.tok 6), (.tok 3)])] (.need [(.rng .i64 (.add (.tok 4) (.lit (.i 1))))] (.back 8 [(.add (.tok 4) (.lit (.i 1))), (.call 0 0 [(.get (.fld (.tok 0) 3) (.tok 4)), (.tok 5), (.tok 6), (.tok 3)]), (.call 0 1 [(.get (.fld (.tok 0) 3) (.tok 4)), (.tok 5), (.tok 6), (.tok 3)])])))) (.leaf [(.tok 5), (.tok 6)])))) (.loop 8 4 [(.lit (.i 0)), (.tok 1), (.tok 2)] (.br (.lt (.tok 4) (.len (.fld (.tok 0) 3))) (.need [(.le (.lit (.i 0)) (.tok 4)), (.lt (.tok 4) (.len (.fld (.tok 0) 3)))] (.need [(.ok 0 [(.get (.fld (.tok 0) 3) (.tok 4)), (.tok 5), (.tok 6), (.tok 3)])] (.need [(.rng .i64 (.add (.tok 4) (.lit (.i 1))))] (.back 8 [(.add (.tok 4) (.lit (.i 1))), (.call 0 0 [(.get (.fld (.tok 0) 3) (.tok 4)), (.tok 5), (.tok 6), (.tok 3)]), (.call 0 1 [(.get (.fld (.tok 0) 3) (.tok 4)), (.tok 5), (.tok 6), (.tok 3)])])))) (.leaf [(.tok 5), (.tok 6)])))))) (.br (.eq (.fld (.tok 0) 0) (.lit (.i 3))) (.need [(.rng .i64 (.add (.len (.fld (.tok 0) 3)) (.lit (.i 1)))), (.rng .i64 (.add (.tok 2) (.add (.len (.fld (.tok 0) 3)) (.lit (.i 1)))))] (.loop 8 4 [(.lit (.i 0)), (.tok 1), (.add (.tok 2) (.add (.len (.fld (.tok 0) 3)) (.lit (.i 1))))] (.br (.lt (.tok 4) (.len (.fld (.tok 0) 3))) (.need [(.le (.lit (.i 0)) (.tok 4)), (.lt (.tok 4) (.len (.fld (.tok 0) 3)))] (.need [(.ok 0 [(.get (.fld (.tok 0) 3) (.tok 4)), (.tok 5), (.tok 6), (.tok 3)])] (.need [(.rng .i64 (.add (.tok 4) (.lit (.i 1))))] (.back 8 [(.add (.tok 4) (.lit (.i 1))), (.call 0 0 [(.get (.fld (.tok 0) 3) (.tok 4)), (.tok 5), (.tok 6), (.tok 3)]), (.call 0 1 [(.get (.fld (.tok 0) 3) (.tok 4)), (.tok 5), (.tok 6), (.tok 3)])])))) (.leaf [(.tok 5), (.tok 6)])))) (.loop 8 4 [(.lit (.i 0)), (.tok 1), (.tok 2)] (.br (.lt (.tok 4) (.len (.fld (.tok 0) 3))) (.need [(.le (.lit (.i 0)) (.tok 4)), (.lt (.tok 4) (.len (.fld (.tok 0) 3)))] (.need [(.ok 0 [(.get (.fld (.tok 0) 3) (.tok 4)), (.tok 5), (.tok 6), (.tok 3)])] (.need [(.rng .i64 (.add (.tok 4) (.lit (.i 1))))] (.back 8 [(.add (.tok 4) (.lit (.i 1))), (.call 0 0 [(.get (.fld (.tok 0) 3) (.tok 4)), (.tok 5), (.tok 6), (.tok 3)]), (.call 0 1 [(.get (.fld (.tok 0) 3) (.tok 4)), (.tok 5), (.tok 6), (.tok 3)])])))) (.leaf [(.tok 5), (.tok 6)])))))
set_option maxRecDepth 100000 in
theorem code_cells_room_1 (g0 g1 : List D → Option (List D)) : ∀ cd, Try.f97.body = some cd → treeOf Try.prog [(ct_cells_room_1, g0), (ct_cells_find, g1)] ann_cells_room_1 ct_cells_room_1 Try.f97 cd = tree_cells_room_1 := by
  intro cd h
  injection h with h
  subst h
  kernel_rfl
theorem fok_cells_room_1 {g0 g1 : List D → Option (List D)} {g : List D → Option (List D)} (h0 : FOk ct_cells_room_1 g0) (h1 : FOk ct_cells_find g1) (h : ∀ ds outs, WfA ct_cells_room_1.ars ds → g ds = some outs → tree_cells_room_1.go (tblS [(ct_cells_room_1, g0), (ct_cells_find, g1)]) (fun o => o = outs) ds fun _ _ => False) : FOk ct_cells_room_1 g :=
  fok_of ann_cells_room_1 Try.f97 _ (.cons h0 (.cons h1 .nil)) rfl rfl enter_cells_room_1 (by decide) fun ds outs hw hg => by rw [code_cells_room_1 g0 g1 _ rfl]; exact h ds outs hw hg

def ct_cells_room : Ct := ⟨56, [.rref (.st 26), .val (.st 42), .val (.row 49)], [(.bool, false)], [], none⟩
theorem enter_cells_room (args : Array Value) (w : World) : (callFunc ct_cells_room.f args).run Try.prog w = .ok (.enter ct_cells_room.f args) w := by kernel_rfl
def ann_cells_room : Ann := ⟨[0, 1, 2, 3, 4, 6, 7, 9, 10, 11, 14, 23], []⟩
def tree_cells_room : Tree := (.br (.eq (.fld (.tok 1) 0) (.lit (.i 0))) (.need [(.ok 1 [(.tok 2), (.fld (.tok 1) 1)])] (.br (.not (.call 1 1 [(.tok 2), (.fld (.tok 1) 1)])) (.need [(.rng .i64 (.lit (.i 1)))] (.need [(.ok 0 [(.tok 1), (.lit (.mp [])), (.lit (.i 1)), (.tok 0)])] (.need [(.imp (.le (.call 0 1 [(.tok 1), (.lit (.mp [])), (.lit (.i 1)), (.tok 0)]) (.sub (.fld (.tok 0) 5) (.len (.fld (.tok 0) 0)))) (.rng .i64 (.fn 3 [(.call 0 0 [(.tok 1), (.lit (.mp [])), (.lit (.i 1)), (.tok 0)])]))), (.imp (.le (.call 0 1 [(.tok 1), (.lit (.mp [])), (.lit (.i 1)), (.tok 0)]) (.sub (.fld (.tok 0) 5) (.len (.fld (.tok 0) 0)))) (.rng .i64 (.fn 3 [(.call 0 0 [(.tok 1), (.lit (.mp [])), (.lit (.i 1)), (.tok 0)])]))), (.imp (.le (.call 0 1 [(.tok 1), (.lit (.mp [])), (.lit (.i 1)), (.tok 0)]) (.sub (.fld (.tok 0) 5) (.len (.fld (.tok 0) 0)))) (.rng .i64 (.sub (.lit (.i 1048576)) (.len (.fld (.tok 0) 1))))), (.imp (.le (.call 0 1 [(.tok 1), (.lit (.mp [])), (.lit (.i 1)), (.tok 0)]) (.sub (.fld (.tok 0) 5) (.len (.fld (.tok 0) 0)))) (.rng .i64 (.fn 3 [(.call 0 0 [(.tok 1), (.lit (.mp [])), (.lit (.i 1)), (.tok 0)])]))), (.imp (.le (.call 0 1 [(.tok 1), (.lit (.mp [])), (.lit (.i 1)), (.tok 0)]) (.sub (.fld (.tok 0) 5) (.len (.fld (.tok 0) 0)))) (.rng .i64 (.fn 3 [(.call 0 0 [(.tok 1), (.lit (.mp [])), (.lit (.i 1)), (.tok 0)])]))), (.rng .i64 (.sub (.fld (.tok 0) 5) (.len (.fld (.tok 0) 0))))] (.leaf [(.and (.le (.call 0 1 [(.tok 1), (.lit (.mp [])), (.lit (.i 1)), (.tok 0)]) (.sub (.fld (.tok 0) 5) (.len (.fld (.tok 0) 0)))) (.le (.fn 3 [(.call 0 0 [(.tok 1), (.lit (.mp [])), (.lit (.i 1)), (.tok 0)])]) (.sub (.lit (.i 1048576)) (.len (.fld (.tok 0) 1)))))])))) (.need [(.ok 0 [(.tok 1), (.lit (.mp [])), (.lit (.i 0)), (.tok 0)])] (.need [(.imp (.le (.call 0 1 [(.tok 1), (.lit (.mp [])), (.lit (.i 0)), (.tok 0)]) (.sub (.fld (.tok 0) 5) (.len (.fld (.tok 0) 0)))) (.rng .i64 (.fn 3 [(.call 0 0 [(.tok 1), (.lit (.mp [])), (.lit (.i 0)), (.tok 0)])]))), (.imp (.le (.call 0 1 [(.tok 1), (.lit (.mp [])), (.lit (.i 0)), (.tok 0)]) (.sub (.fld (.tok 0) 5) (.len (.fld (.tok 0) 0)))) (.rng .i64 (.fn 3 [(.call 0 0 [(.tok 1), (.lit (.mp [])), (.lit (.i 0)), (.tok 0)])]))), (.imp (.le (.call 0 1 [(.tok 1), (.lit (.mp [])), (.lit (.i 0)), (.tok 0)]) (.sub (.fld (.tok 0) 5) (.len (.fld (.tok 0) 0)))) (.rng .i64 (.sub (.lit (.i 1048576)) (.len (.fld (.tok 0) 1))))), (.imp (.le (.call 0 1 [(.tok 1), (.lit (.mp [])), (.lit (.i 0)), (.tok 0)]) (.sub (.fld (.tok 0) 5) (.len (.fld (.tok 0) 0)))) (.rng .i64 (.fn 3 [(.call 0 0 [(.tok 1), (.lit (.mp [])), (.lit (.i 0)), (.tok 0)])]))), (.imp (.le (.call 0 1 [(.tok 1), (.lit (.mp [])), (.lit (.i 0)), (.tok 0)]) (.sub (.fld (.tok 0) 5) (.len (.fld (.tok 0) 0)))) (.rng .i64 (.fn 3 [(.call 0 0 [(.tok 1), (.lit (.mp [])), (.lit (.i 0)), (.tok 0)])]))), (.rng .i64 (.sub (.fld (.tok 0) 5) (.len (.fld (.tok 0) 0))))] (.leaf [(.and (.le (.call 0 1 [(.tok 1), (.lit (.mp [])), (.lit (.i 0)), (.tok 0)]) (.sub (.fld (.tok 0) 5) (.len (.fld (.tok 0) 0)))) (.le (.fn 3 [(.call 0 0 [(.tok 1), (.lit (.mp [])), (.lit (.i 0)), (.tok 0)])]) (.sub (.lit (.i 1048576)) (.len (.fld (.tok 0) 1)))))]))))) (.need [(.ok 0 [(.tok 1), (.lit (.mp [])), (.lit (.i 0)), (.tok 0)])] (.need [(.imp (.le (.call 0 1 [(.tok 1), (.lit (.mp [])), (.lit (.i 0)), (.tok 0)]) (.sub (.fld (.tok 0) 5) (.len (.fld (.tok 0) 0)))) (.rng .i64 (.fn 3 [(.call 0 0 [(.tok 1), (.lit (.mp [])), (.lit (.i 0)), (.tok 0)])]))), (.imp (.le (.call 0 1 [(.tok 1), (.lit (.mp [])), (.lit (.i 0)), (.tok 0)]) (.sub (.fld (.tok 0) 5) (.len (.fld (.tok 0) 0)))) (.rng .i64 (.fn 3 [(.call 0 0 [(.tok 1), (.lit (.mp [])), (.lit (.i 0)), (.tok 0)])]))), (.imp (.le (.call 0 1 [(.tok 1), (.lit (.mp [])), (.lit (.i 0)), (.tok 0)]) (.sub (.fld (.tok 0) 5) (.len (.fld (.tok 0) 0)))) (.rng .i64 (.sub (.lit (.i 1048576)) (.len (.fld (.tok 0) 1))))), (.imp (.le (.call 0 1 [(.tok 1), (.lit (.mp [])), (.lit (.i 0)), (.tok 0)]) (.sub (.fld (.tok 0) 5) (.len (.fld (.tok 0) 0)))) (.rng .i64 (.fn 3 [(.call 0 0 [(.tok 1), (.lit (.mp [])), (.lit (.i 0)), (.tok 0)])]))), (.imp (.le (.call 0 1 [(.tok 1), (.lit (.mp [])), (.lit (.i 0)), (.tok 0)]) (.sub (.fld (.tok 0) 5) (.len (.fld (.tok 0) 0)))) (.rng .i64 (.fn 3 [(.call 0 0 [(.tok 1), (.lit (.mp [])), (.lit (.i 0)), (.tok 0)])]))), (.rng .i64 (.sub (.fld (.tok 0) 5) (.len (.fld (.tok 0) 0))))] (.leaf [(.and (.le (.call 0 1 [(.tok 1), (.lit (.mp [])), (.lit (.i 0)), (.tok 0)]) (.sub (.fld (.tok 0) 5) (.len (.fld (.tok 0) 0)))) (.le (.fn 3 [(.call 0 0 [(.tok 1), (.lit (.mp [])), (.lit (.i 0)), (.tok 0)])]) (.sub (.lit (.i 1048576)) (.len (.fld (.tok 0) 1)))))]))))
set_option maxRecDepth 100000 in
theorem code_cells_room (g0 g1 : List D → Option (List D)) : ∀ cd, Try.f56.body = some cd → treeOf Try.prog [(ct_cells_room_1, g0), (ct_slices_BinarySearchFunc_VarCell, g1)] ann_cells_room ct_cells_room Try.f56 cd = tree_cells_room := by
  intro cd h
  injection h with h
  subst h
  kernel_rfl
theorem fok_cells_room {g0 g1 : List D → Option (List D)} {g : List D → Option (List D)} (h0 : FOk ct_cells_room_1 g0) (h1 : FOk ct_slices_BinarySearchFunc_VarCell g1) (h : ∀ ds outs, WfA ct_cells_room.ars ds → g ds = some outs → tree_cells_room.go (tblS [(ct_cells_room_1, g0), (ct_slices_BinarySearchFunc_VarCell, g1)]) (fun o => o = outs) ds fun _ _ => False) : FOk ct_cells_room g :=
  fok_of ann_cells_room Try.f56 _ (.cons h0 (.cons h1 .nil)) rfl rfl enter_cells_room (by decide) fun ds outs hw hg => by rw [code_cells_room g0 g1 _ rfl]; exact h ds outs hw hg

def ct_slices_Clone_VarCell : Ct := ⟨57, [.val (.row 49)], [(.row 49, true)], [], none⟩
theorem enter_slices_Clone_VarCell (args : Array Value) (w : World) : (callFunc ct_slices_Clone_VarCell.f args).run Try.prog w = .ok (.enter ct_slices_Clone_VarCell.f args) w := by kernel_rfl
def ann_slices_Clone_VarCell : Ann := ⟨[0, 2, 4], []⟩
def tree_slices_Clone_VarCell : Tree := (.amb (.tok 0) .false (.leaf [(.lit (.r []))]) (.need [(.le (.add (.lit (.i 0)) (.len (.tok 0))) (.lit (.i 5864062014634)))] (.leaf [(.app (.row []) (.tok 0))])))
set_option maxRecDepth 100000 in
theorem code_slices_Clone_VarCell : ∀ cd, Try.f57.body = some cd → treeOf Try.prog [] ann_slices_Clone_VarCell ct_slices_Clone_VarCell Try.f57 cd = tree_slices_Clone_VarCell := by
  intro cd h
  injection h with h
  subst h
  kernel_rfl
theorem fok_slices_Clone_VarCell {g : List D → Option (List D)}  (h : ∀ ds outs, WfA ct_slices_Clone_VarCell.ars ds → g ds = some outs → tree_slices_Clone_VarCell.go (tblS []) (fun o => o = outs) ds fun _ _ => False) : FOk ct_slices_Clone_VarCell g :=
  fok_of ann_slices_Clone_VarCell Try.f57 _ .nil rfl rfl enter_slices_Clone_VarCell (by decide) fun ds outs hw hg => by rw [code_slices_Clone_VarCell  _ rfl]; exact h ds outs hw hg

def ct_cells_Put : Ct := ⟨21, [.ref (.st 26), .val (.st 42), .val (.row 49)], [(.st 36, false), (.row 49, false), (.int .i64, false)], [], none⟩
theorem enter_cells_Put (args : Array Value) (w : World) : (callFunc ct_cells_Put.f args).run Try.prog w = .ok (.enter ct_cells_Put.f args) w := by kernel_rfl
def ann_cells_Put : Ann := ⟨[0, 1, 2, 3, 4, 6, 7, 8, 9, 24, 30], []⟩
def tree_cells_Put : Tree := (.need [(.ok 1 [(.tok 1)]), (.imp (.not (.not (.call 1 0 [(.tok 1)]))) (.ok 2 [(.tok 0), (.tok 2)]))] (.br (.or (.not (.call 1 0 [(.tok 1)])) (.not (.call 2 0 [(.tok 0), (.tok 2)]))) (.leaf [(.lit (.a [(.i 0), (.i 0)])), (.lit (.r [])), (.lit (.i 1)), (.tok 0)]) (.need [(.ok 3 [(.tok 0), (.tok 1), (.tok 2)])] (.br (.not (.call 3 0 [(.tok 0), (.tok 1), (.tok 2)])) (.leaf [(.lit (.a [(.i 0), (.i 0)])), (.lit (.r [])), (.lit (.i 13)), (.tok 0)]) (.need [(.ok 4 [(.tok 2)])] (.need [(.ok 0 [(.tok 1), (.lit (.i (-1))), (.call 4 0 [(.tok 2)]), (.tok 0)])] (.leaf [(.call 0 0 [(.tok 1), (.lit (.i (-1))), (.call 4 0 [(.tok 2)]), (.tok 0)]), (.call 0 1 [(.tok 1), (.lit (.i (-1))), (.call 4 0 [(.tok 2)]), (.tok 0)]), (.lit (.i 0)), (.call 0 2 [(.tok 1), (.lit (.i (-1))), (.call 4 0 [(.tok 2)]), (.tok 0)])])))))))
set_option maxRecDepth 100000 in
theorem code_cells_Put (g0 g1 g2 g3 g4 : List D → Option (List D)) : ∀ cd, Try.f21.body = some cd → treeOf Try.prog [(ct_cells_Put_1, g0), (ct_term_Valid, g1), (ct_cells_validVars, g2), (ct_cells_room, g3), (ct_slices_Clone_VarCell, g4)] ann_cells_Put ct_cells_Put Try.f21 cd = tree_cells_Put := by
  intro cd h
  injection h with h
  subst h
  kernel_rfl
theorem fok_cells_Put {g0 g1 g2 g3 g4 : List D → Option (List D)} {g : List D → Option (List D)} (h0 : FOk ct_cells_Put_1 g0) (h1 : FOk ct_term_Valid g1) (h2 : FOk ct_cells_validVars g2) (h3 : FOk ct_cells_room g3) (h4 : FOk ct_slices_Clone_VarCell g4) (h : ∀ ds outs, WfA ct_cells_Put.ars ds → g ds = some outs → tree_cells_Put.go (tblS [(ct_cells_Put_1, g0), (ct_term_Valid, g1), (ct_cells_validVars, g2), (ct_cells_room, g3), (ct_slices_Clone_VarCell, g4)]) (fun o => o = outs) ds fun _ _ => False) : FOk ct_cells_Put g :=
  fok_of ann_cells_Put Try.f21 _ (.cons h0 (.cons h1 (.cons h2 (.cons h3 (.cons h4 .nil))))) rfl rfl enter_cells_Put (by decide) fun ds outs hw hg => by rw [code_cells_Put g0 g1 g2 g3 g4 _ rfl]; exact h ds outs hw hg

def ct_law30_str : Ct := ⟨44, [.val (.int .i64)], [(.st 36, false)], [], none⟩
theorem enter_law30_str (args : Array Value) (w : World) : (callFunc ct_law30_str.f args).run Try.prog w = .ok (.enter ct_law30_str.f args) w := by kernel_rfl
def ann_law30_str : Ann := ⟨[0, 2], []⟩
def tree_law30_str : Tree := (.leaf [(.mk [(.lit (.i 3)), (.tok 0)])])
set_option maxRecDepth 100000 in
theorem code_law30_str : ∀ cd, Try.f44.body = some cd → treeOf Try.prog [] ann_law30_str ct_law30_str Try.f44 cd = tree_law30_str := by
  intro cd h
  injection h with h
  subst h
  kernel_rfl
theorem fok_law30_str {g : List D → Option (List D)}  (h : ∀ ds outs, WfA ct_law30_str.ars ds → g ds = some outs → tree_law30_str.go (tblS []) (fun o => o = outs) ds fun _ _ => False) : FOk ct_law30_str g :=
  fok_of ann_law30_str Try.f44 _ .nil rfl rfl enter_law30_str (by decide) fun ds outs hw hg => by rw [code_law30_str  _ rfl]; exact h ds outs hw hg

def ct_law30_ref : Ct := ⟨39, [.val (.int .i64)], [(.st 36, false)], [], none⟩
theorem enter_law30_ref (args : Array Value) (w : World) : (callFunc ct_law30_ref.f args).run Try.prog w = .ok (.enter ct_law30_ref.f args) w := by kernel_rfl
def ann_law30_ref : Ann := ⟨[0, 2], []⟩
def tree_law30_ref : Tree := (.leaf [(.mk [(.lit (.i 0)), (.tok 0)])])
set_option maxRecDepth 100000 in
theorem code_law30_ref : ∀ cd, Try.f39.body = some cd → treeOf Try.prog [] ann_law30_ref ct_law30_ref Try.f39 cd = tree_law30_ref := by
  intro cd h
  injection h with h
  subst h
  kernel_rfl
theorem fok_law30_ref {g : List D → Option (List D)}  (h : ∀ ds outs, WfA ct_law30_ref.ars ds → g ds = some outs → tree_law30_ref.go (tblS []) (fun o => o = outs) ds fun _ _ => False) : FOk ct_law30_ref g :=
  fok_of ann_law30_ref Try.f39 _ .nil rfl rfl enter_law30_ref (by decide) fun ds outs hw hg => by rw [code_law30_ref  _ rfl]; exact h ds outs hw hg

def ct_law30_vars : Ct := ⟨23, [.val (.row 49), .val (.row 49)], [(.bool, false)], [], none⟩
theorem enter_law30_vars (args : Array Value) (w : World) : (callFunc ct_law30_vars.f args).run Try.prog w = .ok (.enter ct_law30_vars.f args) w := by kernel_rfl
def ann_law30_vars : Ann := ⟨[0, 1, 4, 5, 10, 14, 25], [(4, ⟨[(4, .bool, false), (5, .int .i64, false)], [], [11, 12, 13, 14, 17, 18, 19, 20, 21, 22, 23, 24, 25, 15, 16], []⟩)]⟩
def tree_law30_vars : Tree := (.br (.not (.eq (.len (.tok 0)) (.len (.tok 1)))) (.leaf [(.lit (.b .false))]) (.loop 4 2 [(.lit (.b .false)), (.lit (.i 0))] (.br (.lt (.tok 3) (.len (.tok 0))) (.need [(.le (.lit (.i 0)) (.tok 3)), (.lt (.tok 3) (.len (.tok 1))), (.le (.lit (.i 0)) (.tok 3)), (.lt (.tok 3) (.len (.tok 0)))] (.br (.not (.eq (.get (.tok 0) (.tok 3)) (.get (.tok 1) (.tok 3)))) (.leaf [(.lit (.b .false))]) (.need [(.rng .i64 (.add (.tok 3) (.lit (.i 1))))] (.back 4 [(.tok 2), (.add (.tok 3) (.lit (.i 1)))])))) (.leaf [(.lit (.b .true))]))))
set_option maxRecDepth 100000 in
theorem code_law30_vars : ∀ cd, Try.f23.body = some cd → treeOf Try.prog [] ann_law30_vars ct_law30_vars Try.f23 cd = tree_law30_vars := by
  intro cd h
  injection h with h
  subst h
  kernel_rfl
theorem fok_law30_vars {g : List D → Option (List D)}  (h : ∀ ds outs, WfA ct_law30_vars.ars ds → g ds = some outs → tree_law30_vars.go (tblS []) (fun o => o = outs) ds fun _ _ => False) : FOk ct_law30_vars g :=
  fok_of ann_law30_vars Try.f23 _ .nil rfl rfl enter_law30_vars (by decide) fun ds outs hw hg => by rw [code_law30_vars  _ rfl]; exact h ds outs hw hg

def ct_cells_Deref : Ct := ⟨26, [.val (.st 26), .val (.st 36)], [(.st 36, false)], [], none⟩
theorem enter_cells_Deref (args : Array Value) (w : World) : (callFunc ct_cells_Deref.f args).run Try.prog w = .ok (.enter ct_cells_Deref.f args) w := by kernel_rfl
def ann_cells_Deref : Ann := ⟨[0, 1, 2, 3, 4, 8, 12, 13, 14, 34], [(4, ⟨[(13, .int .i64, false)], [3], [14, 15, 16, 17, 18, 19, 20, 21, 22, 23, 24, 25, 26, 27, 28, 29, 30, 31, 32, 33, 34, 35, 36, 37, 38, 39, 40, 41], []⟩)]⟩
def tree_cells_Deref : Tree := (.need [(.ok 0 [(.tok 0), (.tok 1)])] (.br (.not (.call 0 0 [(.tok 0), (.tok 1)])) (.leaf [(.lit (.a [(.i 0), (.i 0)]))]) (.loop 4 2 [(.lit (.i 0)), (.tok 1)] (.br (.lt (.tok 2) (.len (.fld (.tok 0) 0))) (.need [(.imp (.not (.or (.not (.eq (.fld (.tok 3) 0) (.lit (.i 0)))) (.lt (.call 1 0 [(.tok 0), (.fld (.tok 3) 1)]) (.lit (.i 0))))) (.le (.lit (.i 0)) (.fld (.tok 3) 1))), (.imp (.not (.or (.not (.eq (.fld (.tok 3) 0) (.lit (.i 0)))) (.lt (.call 1 0 [(.tok 0), (.fld (.tok 3) 1)]) (.lit (.i 0))))) (.lt (.fld (.tok 3) 1) (.len (.fld (.tok 0) 0)))), (.imp (.not (.or (.not (.eq (.fld (.tok 3) 0) (.lit (.i 0)))) (.lt (.call 1 0 [(.tok 0), (.fld (.tok 3) 1)]) (.lit (.i 0))))) (.le (.lit (.i 0)) (.fld (.tok 3) 1))), (.imp (.not (.or (.not (.eq (.fld (.tok 3) 0) (.lit (.i 0)))) (.lt (.call 1 0 [(.tok 0), (.fld (.tok 3) 1)]) (.lit (.i 0))))) (.lt (.fld (.tok 3) 1) (.len (.fld (.tok 0) 0)))), (.imp (.not (.not (.eq (.fld (.tok 3) 0) (.lit (.i 0))))) (.ok 1 [(.tok 0), (.fld (.tok 3) 1)]))] (.br (.or (.or (.not (.eq (.fld (.tok 3) 0) (.lit (.i 0)))) (.lt (.call 1 0 [(.tok 0), (.fld (.tok 3) 1)]) (.lit (.i 0)))) (.eq (.get (.fld (.tok 0) 0) (.fld (.tok 3) 1)) (.tok 3))) (.leaf [(.tok 3)]) (.need [(.le (.lit (.i 0)) (.fld (.tok 3) 1)), (.lt (.fld (.tok 3) 1) (.len (.fld (.tok 0) 0)))] (.need [(.rng .i64 (.add (.tok 2) (.lit (.i 1))))] (.back 4 [(.add (.tok 2) (.lit (.i 1))), (.get (.fld (.tok 0) 0) (.fld (.tok 3) 1))]))))) (.leaf [(.tok 3)])))))
set_option maxRecDepth 100000 in
theorem code_cells_Deref (g0 g1 : List D → Option (List D)) : ∀ cd, Try.f26.body = some cd → treeOf Try.prog [(ct_cells_ValidCell, g0), (ct_cells_tag, g1)] ann_cells_Deref ct_cells_Deref Try.f26 cd = tree_cells_Deref := by
  intro cd h
  injection h with h
  subst h
  kernel_rfl
theorem fok_cells_Deref {g0 g1 : List D → Option (List D)} {g : List D → Option (List D)} (h0 : FOk ct_cells_ValidCell g0) (h1 : FOk ct_cells_tag g1) (h : ∀ ds outs, WfA ct_cells_Deref.ars ds → g ds = some outs → tree_cells_Deref.go (tblS [(ct_cells_ValidCell, g0), (ct_cells_tag, g1)]) (fun o => o = outs) ds fun _ _ => False) : FOk ct_cells_Deref g :=
  fok_of ann_cells_Deref Try.f26 _ (.cons h0 (.cons h1 .nil)) rfl rfl enter_cells_Deref (by decide) fun ds outs hw hg => by rw [code_cells_Deref g0 g1 _ rfl]; exact h ds outs hw hg

def ct_term_Int : Ct := ⟨66, [.val (.int .i64)], [(.st 42, false)], [], none⟩
theorem enter_term_Int (args : Array Value) (w : World) : (callFunc ct_term_Int.f args).run Try.prog w = .ok (.enter ct_term_Int.f args) w := by kernel_rfl
def ann_term_Int : Ann := ⟨[0, 2], []⟩
def tree_term_Int : Tree := (.leaf [(.set (.set (.lit (.a [(.i 0), (.i 0), (.s ⟨#[]⟩), (.r [])])) 0 (.lit (.i 1))) 1 (.tok 0))])
set_option maxRecDepth 100000 in
theorem code_term_Int : ∀ cd, Try.f66.body = some cd → treeOf Try.prog [] ann_term_Int ct_term_Int Try.f66 cd = tree_term_Int := by
  intro cd h
  injection h with h
  subst h
  kernel_rfl
theorem fok_term_Int {g : List D → Option (List D)}  (h : ∀ ds outs, WfA ct_term_Int.ars ds → g ds = some outs → tree_term_Int.go (tblS []) (fun o => o = outs) ds fun _ _ => False) : FOk ct_term_Int g :=
  fok_of ann_term_Int Try.f66 _ .nil rfl rfl enter_term_Int (by decide) fun ds outs hw hg => by rw [code_term_Int  _ rfl]; exact h ds outs hw hg

def ct_term_Clone_1 : Ct := ⟨114, [.val (.st 42)], [(.st 42, false)], [], none⟩
theorem enter_term_Clone_1 (args : Array Value) (w : World) : (callFunc ct_term_Clone_1.f args).run Try.prog w = .ok (.enter ct_term_Clone_1.f args) w := by kernel_rfl
def ann_term_Clone_1 : Ann := ⟨[0, 1, 2], []⟩
def tree_term_Clone_1 : Tree := (.leaf [(.tok 0)])
set_option maxRecDepth 100000 in
theorem code_term_Clone_1 : ∀ cd, Try.f114.body = some cd → treeOf Try.prog [] ann_term_Clone_1 ct_term_Clone_1 Try.f114 cd = tree_term_Clone_1 := by
  intro cd h
  injection h with h
  subst h
  kernel_rfl
theorem fok_term_Clone_1 {g : List D → Option (List D)}  (h : ∀ ds outs, WfA ct_term_Clone_1.ars ds → g ds = some outs → tree_term_Clone_1.go (tblS []) (fun o => o = outs) ds fun _ _ => False) : FOk ct_term_Clone_1 g :=
  fok_of ann_term_Clone_1 Try.f114 _ .nil rfl rfl enter_term_Clone_1 (by decide) fun ds outs hw hg => by rw [code_term_Clone_1  _ rfl]; exact h ds outs hw hg

def ct_term_apply : Ct := ⟨113, [.val (.st 42), .fn 114 []], [(.st 42, false)], [], none⟩
theorem enter_term_apply (args : Array Value) (w : World) : (callFunc ct_term_apply.f args).run Try.prog w = .ok (.enter ct_term_apply.f args) w := by kernel_rfl
def ann_term_apply : Ann := ⟨[0, 1, 2, 4, 5, 7, 10, 22, 23, 24, 25], [(5, ⟨[(24, .int .i64, false)], [5], [25, 26, 27, 7, 28, 29, 30, 31, 32, 33, 34, 35, 36], []⟩)]⟩
def tree_term_apply : Tree := (.br (.eq (.fld (.tok 0) 0) (.lit (.i 0))) (.need [(.ok 0 [(.tok 0)])] (.leaf [(.call 0 0 [(.tok 0)])])) (.loop 5 1 [(.lit (.i 0)), (.set (.set (.set (.lit (.a [(.i 0), (.i 0), (.s ⟨#[]⟩), (.r [])])) 0 (.fld (.tok 0) 0)) 1 (.fld (.tok 0) 1)) 2 (.fld (.tok 0) 2))] (.br (.lt (.tok 1) (.len (.fld (.tok 0) 3))) (.need [(.le (.lit (.i 0)) (.tok 1)), (.lt (.tok 1) (.len (.fld (.tok 0) 3)))] (.need [(.ok 1 [(.get (.fld (.tok 0) 3) (.tok 1))]), (.le (.add (.len (.fld (.tok 2) 3)) (.lit (.i 1))) (.lit (.i 2513169434843)))] (.need [(.rng .i64 (.add (.tok 1) (.lit (.i 1))))] (.back 5 [(.add (.tok 1) (.lit (.i 1))), (.set (.tok 2) 3 (.app (.fld (.tok 2) 3) (.row [(.call 1 0 [(.get (.fld (.tok 0) 3) (.tok 1))])])))])))) (.leaf [(.tok 2)]))))
set_option maxRecDepth 100000 in
theorem code_term_apply (g0 g1 : List D → Option (List D)) : ∀ cd, Try.f113.body = some cd → treeOf Try.prog [(ct_term_Clone_1, g0), (ct_term_apply, g1)] ann_term_apply ct_term_apply Try.f113 cd = tree_term_apply := by
  intro cd h
  injection h with h
  subst h
  kernel_rfl
theorem fok_term_apply {g0 g1 : List D → Option (List D)} {g : List D → Option (List D)} (h0 : FOk ct_term_Clone_1 g0) (h1 : FOk ct_term_apply g1) (h : ∀ ds outs, WfA ct_term_apply.ars ds → g ds = some outs → tree_term_apply.go (tblS [(ct_term_Clone_1, g0), (ct_term_apply, g1)]) (fun o => o = outs) ds fun _ _ => False) : FOk ct_term_apply g :=
  fok_of ann_term_apply Try.f113 _ (.cons h0 (.cons h1 .nil)) rfl rfl enter_term_apply (by decide) fun ds outs hw hg => by rw [code_term_apply g0 g1 _ rfl]; exact h ds outs hw hg

def ct_term_Clone : Ct := ⟨105, [.val (.st 42)], [(.st 42, false)], [], none⟩
theorem enter_term_Clone (args : Array Value) (w : World) : (callFunc ct_term_Clone.f args).run Try.prog w = .ok (.enter ct_term_Clone.f args) w := by kernel_rfl
def ann_term_Clone : Ann := ⟨[0, 1, 2, 5], []⟩
def tree_term_Clone : Tree := (.need [(.ok 0 [(.tok 0)])] (.br (.not (.call 0 0 [(.tok 0)])) (.leaf [(.lit (.a [(.i 0), (.i 0), (.s ⟨#[]⟩), (.r [])]))]) (.need [(.ok 1 [(.tok 0)])] (.leaf [(.call 1 0 [(.tok 0)])]))))
set_option maxRecDepth 100000 in
theorem code_term_Clone (g0 g1 : List D → Option (List D)) : ∀ cd, Try.f105.body = some cd → treeOf Try.prog [(ct_term_Valid, g0), (ct_term_apply, g1)] ann_term_Clone ct_term_Clone Try.f105 cd = tree_term_Clone := by
  intro cd h
  injection h with h
  subst h
  kernel_rfl
theorem fok_term_Clone {g0 g1 : List D → Option (List D)} {g : List D → Option (List D)} (h0 : FOk ct_term_Valid g0) (h1 : FOk ct_term_apply g1) (h : ∀ ds outs, WfA ct_term_Clone.ars ds → g ds = some outs → tree_term_Clone.go (tblS [(ct_term_Valid, g0), (ct_term_apply, g1)]) (fun o => o = outs) ds fun _ _ => False) : FOk ct_term_Clone g :=
  fok_of ann_term_Clone Try.f105 _ (.cons h0 (.cons h1 .nil)) rfl rfl enter_term_Clone (by decide) fun ds outs hw hg => by rw [code_term_Clone g0 g1 _ rfl]; exact h ds outs hw hg

def ct_term_Atom : Ct := ⟨68, [.val (.str)], [(.st 42, false)], [], none⟩
theorem enter_term_Atom (args : Array Value) (w : World) : (callFunc ct_term_Atom.f args).run Try.prog w = .ok (.enter ct_term_Atom.f args) w := by kernel_rfl
def ann_term_Atom : Ann := ⟨[0, 2], []⟩
def tree_term_Atom : Tree := (.need [(.ok 0 [(.set (.set (.lit (.a [(.i 0), (.i 0), (.s ⟨#[]⟩), (.r [])])) 0 (.lit (.i 2))) 2 (.tok 0))])] (.leaf [(.call 0 0 [(.set (.set (.lit (.a [(.i 0), (.i 0), (.s ⟨#[]⟩), (.r [])])) 0 (.lit (.i 2))) 2 (.tok 0))])]))
set_option maxRecDepth 100000 in
theorem code_term_Atom (g0 : List D → Option (List D)) : ∀ cd, Try.f68.body = some cd → treeOf Try.prog [(ct_term_Clone, g0)] ann_term_Atom ct_term_Atom Try.f68 cd = tree_term_Atom := by
  intro cd h
  injection h with h
  subst h
  kernel_rfl
theorem fok_term_Atom {g0 : List D → Option (List D)} {g : List D → Option (List D)} (h0 : FOk ct_term_Clone g0) (h : ∀ ds outs, WfA ct_term_Atom.ars ds → g ds = some outs → tree_term_Atom.go (tblS [(ct_term_Clone, g0)]) (fun o => o = outs) ds fun _ _ => False) : FOk ct_term_Atom g :=
  fok_of ann_term_Atom Try.f68 _ (.cons h0 .nil) rfl rfl enter_term_Atom (by decide) fun ds outs hw hg => by rw [code_term_Atom g0 _ rfl]; exact h ds outs hw hg

def ct_cells_Get_1 : Ct := ⟨65, [.val (.st 36), .ref (.int .i64), .rref (.st 26), .cell 97 4], [(.st 42, false)], [(.cell 3, .fn 65 [1, 2, 3])], none⟩
theorem enter_cells_Get_1 (args : Array Value) (w : World) : (callFunc ct_cells_Get_1.f args).run Try.prog w = .ok (.enter ct_cells_Get_1.f args) w := by kernel_rfl
def ann_cells_Get_1 : Ann := ⟨[0, 1, 2, 3, 4, 5, 6, 7, 8, 12, 17, 24, 43, 99], [(13, ⟨[(8, .int .i64, false)], [1, 7], [83, 84, 85, 86, 87, 88, 89, 90, 91, 92, 93, 94, 95, 96, 97, 98, 99, 102, 103, 104, 105, 106, 107, 108, 109, 110, 111, 112, 113, 100, 101], []⟩)]⟩
def tree_cells_Get_1 : Tree := (.need [(.rng .i64 (.sub (.tok 1) (.lit (.i 1))))] (.br (.lt (.sub (.tok 1) (.lit (.i 1))) (.lit (.i 0))) (.leaf [(.lit (.a [(.i 0), (.i 0), (.s ⟨#[]⟩), (.r [])])), (.sub (.tok 1) (.lit (.i 1)))]) (.need [(.ok 1 [(.tok 2), (.tok 0)])] (.br (.eq (.fld (.call 1 0 [(.tok 2), (.tok 0)]) 0) (.lit (.i 1))) (.need [(.ok 2 [(.fld (.call 1 0 [(.tok 2), (.tok 0)]) 1)])] (.leaf [(.call 2 0 [(.fld (.call 1 0 [(.tok 2), (.tok 0)]) 1)]), (.sub (.tok 1) (.lit (.i 1)))])) (.need [(.imp (.eq (.fld (.call 1 0 [(.tok 2), (.tok 0)]) 0) (.lit (.i 2))) (.ok 3 [(.tok 2), (.fld (.call 1 0 [(.tok 2), (.tok 0)]) 1)]))] (.br (.and (.eq (.fld (.call 1 0 [(.tok 2), (.tok 0)]) 0) (.lit (.i 2))) (.le (.lit (.i 0)) (.call 3 0 [(.tok 2), (.fld (.call 1 0 [(.tok 2), (.tok 0)]) 1)]))) (.need [(.le (.lit (.i 0)) (.fld (.call 1 0 [(.tok 2), (.tok 0)]) 1)), (.lt (.fld (.call 1 0 [(.tok 2), (.tok 0)]) 1) (.len (.fld (.tok 2) 1))), (.ok 4 [(.fld (.get (.fld (.tok 2) 1) (.fld (.call 1 0 [(.tok 2), (.tok 0)]) 1)) 0)])] (.leaf [(.call 4 0 [(.fld (.get (.fld (.tok 2) 1) (.fld (.call 1 0 [(.tok 2), (.tok 0)]) 1)) 0)]), (.sub (.tok 1) (.lit (.i 1)))])) (.need [(.imp (.and (.eq (.fld (.call 1 0 [(.tok 2), (.tok 0)]) 0) (.lit (.i 3))) (.eq (.call 5 0 [(.tok 2), (.fld (.call 1 0 [(.tok 2), (.tok 0)]) 1)]) (.lit (.i 4)))) (.ok 3 [(.tok 2), (.fld (.get (.fld (.tok 2) 0) (.fld (.call 1 0 [(.tok 2), (.tok 0)]) 1)) 1)])), (.imp (.and (.eq (.fld (.call 1 0 [(.tok 2), (.tok 0)]) 0) (.lit (.i 3))) (.eq (.call 5 0 [(.tok 2), (.fld (.call 1 0 [(.tok 2), (.tok 0)]) 1)]) (.lit (.i 4)))) (.le (.lit (.i 0)) (.fld (.call 1 0 [(.tok 2), (.tok 0)]) 1))), (.imp (.and (.eq (.fld (.call 1 0 [(.tok 2), (.tok 0)]) 0) (.lit (.i 3))) (.eq (.call 5 0 [(.tok 2), (.fld (.call 1 0 [(.tok 2), (.tok 0)]) 1)]) (.lit (.i 4)))) (.lt (.fld (.call 1 0 [(.tok 2), (.tok 0)]) 1) (.len (.fld (.tok 2) 0)))), (.imp (.eq (.fld (.call 1 0 [(.tok 2), (.tok 0)]) 0) (.lit (.i 3))) (.ok 5 [(.tok 2), (.fld (.call 1 0 [(.tok 2), (.tok 0)]) 1)]))] (.br (.and (.and (.eq (.fld (.call 1 0 [(.tok 2), (.tok 0)]) 0) (.lit (.i 3))) (.eq (.call 5 0 [(.tok 2), (.fld (.call 1 0 [(.tok 2), (.tok 0)]) 1)]) (.lit (.i 4)))) (.le (.lit (.i 0)) (.call 3 0 [(.tok 2), (.fld (.get (.fld (.tok 2) 0) (.fld (.call 1 0 [(.tok 2), (.tok 0)]) 1)) 1)]))) (.need [(.le (.lit (.i 0)) (.fld (.get (.fld (.tok 2) 0) (.fld (.call 1 0 [(.tok 2), (.tok 0)]) 1)) 1)), (.lt (.fld (.get (.fld (.tok 2) 0) (.fld (.call 1 0 [(.tok 2), (.tok 0)]) 1)) 1) (.len (.fld (.tok 2) 1))), (.le (.lit (.i 0)) (.fld (.call 1 0 [(.tok 2), (.tok 0)]) 1)), (.lt (.fld (.call 1 0 [(.tok 2), (.tok 0)]) 1) (.len (.fld (.tok 2) 0)))] (.need [(.rng .i64 (.add (.fld (.call 1 0 [(.tok 2), (.tok 0)]) 1) (.lit (.i 1))))] (.loop 13 3 [(.add (.fld (.call 1 0 [(.tok 2), (.tok 0)]) 1) (.lit (.i 1))), (.sub (.tok 1) (.lit (.i 1))), (.set (.set (.lit (.a [(.i 0), (.i 0), (.s ⟨#[]⟩), (.r [])])) 0 (.lit (.i 3))) 2 (.fld (.get (.fld (.tok 2) 1) (.fld (.get (.fld (.tok 2) 0) (.fld (.call 1 0 [(.tok 2), (.tok 0)]) 1)) 1)) 0))] (.need [(.rng .i64 (.add (.fld (.call 1 0 [(.tok 2), (.tok 0)]) 1) (.fld (.get (.fld (.tok 2) 1) (.fld (.get (.fld (.tok 2) 0) (.fld (.call 1 0 [(.tok 2), (.tok 0)]) 1)) 1)) 1))), (.imp (.le (.tok 3) (.add (.fld (.call 1 0 [(.tok 2), (.tok 0)]) 1) (.fld (.get (.fld (.tok 2) 1) (.fld (.get (.fld (.tok 2) 0) (.fld (.call 1 0 [(.tok 2), (.tok 0)]) 1)) 1)) 1))) (.ok 5 [(.tok 2), (.tok 3)]))] (.br (.and (.and (.le (.tok 3) (.add (.fld (.call 1 0 [(.tok 2), (.tok 0)]) 1) (.fld (.get (.fld (.tok 2) 1) (.fld (.get (.fld (.tok 2) 0) (.fld (.call 1 0 [(.tok 2), (.tok 0)]) 1)) 1)) 1))) (.le (.lit (.i 0)) (.call 5 0 [(.tok 2), (.tok 3)]))) (.le (.lit (.i 0)) (.tok 4))) (.need [(.le (.lit (.i 0)) (.tok 3)), (.lt (.tok 3) (.len (.fld (.tok 2) 0))), (.ok 0 [(.get (.fld (.tok 2) 0) (.tok 3)), (.tok 4), (.tok 2)]), (.le (.add (.len (.fld (.tok 5) 3)) (.lit (.i 1))) (.lit (.i 2513169434843)))] (.need [(.rng .i64 (.add (.tok 3) (.lit (.i 1))))] (.back 13 [(.add (.tok 3) (.lit (.i 1))), (.call 0 1 [(.get (.fld (.tok 2) 0) (.tok 3)), (.tok 4), (.tok 2)]), (.set (.tok 5) 3 (.app (.fld (.tok 5) 3) (.row [(.call 0 0 [(.get (.fld (.tok 2) 0) (.tok 3)), (.tok 4), (.tok 2)])])))]))) (.leaf [(.tok 5), (.tok 4)])))))) (.leaf [(.set (.set (.lit (.a [(.i 0), (.i 0), (.s ⟨#[]⟩), (.r [])])) 0 (.lit (.i 0))) 1 (.fld (.call 1 0 [(.tok 2), (.tok 0)]) 1)), (.sub (.tok 1) (.lit (.i 1)))])))))))))
set_option maxRecDepth 100000 in
theorem code_cells_Get_1 (g0 g1 g2 g3 g4 g5 : List D → Option (List D)) : ∀ cd, Try.f65.body = some cd → treeOf Try.prog [(ct_cells_Get_1, g0), (ct_cells_Deref, g1), (ct_term_Int, g2), (ct_cells_arity, g3), (ct_term_Atom, g4), (ct_cells_tag, g5)] ann_cells_Get_1 ct_cells_Get_1 Try.f65 cd = tree_cells_Get_1 := by
  intro cd h
  injection h with h
  subst h
  kernel_rfl
theorem fok_cells_Get_1 {g0 g1 g2 g3 g4 g5 : List D → Option (List D)} {g : List D → Option (List D)} (h0 : FOk ct_cells_Get_1 g0) (h1 : FOk ct_cells_Deref g1) (h2 : FOk ct_term_Int g2) (h3 : FOk ct_cells_arity g3) (h4 : FOk ct_term_Atom g4) (h5 : FOk ct_cells_tag g5) (h : ∀ ds outs, WfA ct_cells_Get_1.ars ds → g ds = some outs → tree_cells_Get_1.go (tblS [(ct_cells_Get_1, g0), (ct_cells_Deref, g1), (ct_term_Int, g2), (ct_cells_arity, g3), (ct_term_Atom, g4), (ct_cells_tag, g5)]) (fun o => o = outs) ds fun _ _ => False) : FOk ct_cells_Get_1 g :=
  fok_of ann_cells_Get_1 Try.f65 _ (.cons h0 (.cons h1 (.cons h2 (.cons h3 (.cons h4 (.cons h5 .nil)))))) rfl rfl enter_cells_Get_1 (by decide) fun ds outs hw hg => by rw [code_cells_Get_1 g0 g1 g2 g3 g4 g5 _ rfl]; exact h ds outs hw hg

def ct_cells_Get : Ct := ⟨24, [.val (.st 26), .val (.st 36)], [(.st 42, false), (.int .i64, false)], [], none⟩
theorem enter_cells_Get (args : Array Value) (w : World) : (callFunc ct_cells_Get.f args).run Try.prog w = .ok (.enter ct_cells_Get.f args) w := by kernel_rfl
def ann_cells_Get : Ann := ⟨[0, 1, 2, 3, 4, 5, 6, 7, 11, 18], []⟩
def tree_cells_Get : Tree := (.need [(.ok 1 [(.tok 0), (.tok 1)])] (.br (.not (.call 1 0 [(.tok 0), (.tok 1)])) (.leaf [(.lit (.a [(.i 0), (.i 0), (.s ⟨#[]⟩), (.r [])])), (.lit (.i 1))]) (.need [(.ok 0 [(.tok 1), (.lit (.i 2000)), (.tok 0)])] (.br (.lt (.call 0 1 [(.tok 1), (.lit (.i 2000)), (.tok 0)]) (.lit (.i 0))) (.leaf [(.lit (.a [(.i 0), (.i 0), (.s ⟨#[]⟩), (.r [])])), (.lit (.i 2))]) (.leaf [(.call 0 0 [(.tok 1), (.lit (.i 2000)), (.tok 0)]), (.lit (.i 0))])))))
set_option maxRecDepth 100000 in
theorem code_cells_Get (g0 g1 : List D → Option (List D)) : ∀ cd, Try.f24.body = some cd → treeOf Try.prog [(ct_cells_Get_1, g0), (ct_cells_ValidCell, g1)] ann_cells_Get ct_cells_Get Try.f24 cd = tree_cells_Get := by
  intro cd h
  injection h with h
  subst h
  kernel_rfl
theorem fok_cells_Get {g0 g1 : List D → Option (List D)} {g : List D → Option (List D)} (h0 : FOk ct_cells_Get_1 g0) (h1 : FOk ct_cells_ValidCell g1) (h : ∀ ds outs, WfA ct_cells_Get.ars ds → g ds = some outs → tree_cells_Get.go (tblS [(ct_cells_Get_1, g0), (ct_cells_ValidCell, g1)]) (fun o => o = outs) ds fun _ _ => False) : FOk ct_cells_Get g :=
  fok_of ann_cells_Get Try.f24 _ (.cons h0 (.cons h1 .nil)) rfl rfl enter_cells_Get (by decide) fun ds outs hw hg => by rw [code_cells_Get g0 g1 _ rfl]; exact h ds outs hw hg

def ct_ref03_Count : Ct := ⟨74, [.val (.st 42), .val (.int .i64)], [(.int .i64, false)], [], none⟩
theorem enter_ref03_Count (args : Array Value) (w : World) : (callFunc ct_ref03_Count.f args).run Try.prog w = .ok (.enter ct_ref03_Count.f args) w := by kernel_rfl
def ann_ref03_Count : Ann := ⟨[0, 1, 2, 4, 5, 6, 16], [(3, ⟨[(5, .int .i64, false), (6, .int .i64, false)], [], [7, 8, 9, 10, 11, 12, 13, 14, 15, 16, 19, 20, 21, 22, 23, 24, 25, 26, 27, 28, 29, 17, 18], []⟩)]⟩
def tree_ref03_Count : Tree := (.loop 3 2 [(.lit (.i 1)), (.lit (.i 0))] (.br (.and (.lt (.tok 3) (.len (.fld (.tok 0) 3))) (.lt (.tok 2) (.tok 1))) (.need [(.le (.lit (.i 0)) (.tok 3)), (.lt (.tok 3) (.len (.fld (.tok 0) 3))), (.rng .i64 (.sub (.tok 1) (.tok 2))), (.ok 0 [(.get (.fld (.tok 0) 3) (.tok 3)), (.sub (.tok 1) (.tok 2))]), (.rng .i64 (.add (.tok 2) (.call 0 0 [(.get (.fld (.tok 0) 3) (.tok 3)), (.sub (.tok 1) (.tok 2))])))] (.need [(.rng .i64 (.add (.tok 3) (.lit (.i 1))))] (.back 3 [(.add (.tok 2) (.call 0 0 [(.get (.fld (.tok 0) 3) (.tok 3)), (.sub (.tok 1) (.tok 2))])), (.add (.tok 3) (.lit (.i 1)))]))) (.leaf [(.tok 2)])))
set_option maxRecDepth 100000 in
theorem code_ref03_Count (g0 : List D → Option (List D)) : ∀ cd, Try.f74.body = some cd → treeOf Try.prog [(ct_ref03_Count, g0)] ann_ref03_Count ct_ref03_Count Try.f74 cd = tree_ref03_Count := by
  intro cd h
  injection h with h
  subst h
  kernel_rfl
theorem fok_ref03_Count {g0 : List D → Option (List D)} {g : List D → Option (List D)} (h0 : FOk ct_ref03_Count g0) (h : ∀ ds outs, WfA ct_ref03_Count.ars ds → g ds = some outs → tree_ref03_Count.go (tblS [(ct_ref03_Count, g0)]) (fun o => o = outs) ds fun _ _ => False) : FOk ct_ref03_Count g :=
  fok_of ann_ref03_Count Try.f74 _ (.cons h0 .nil) rfl rfl enter_ref03_Count (by decide) fun ds outs hw hg => by rw [code_ref03_Count g0 _ rfl]; exact h ds outs hw hg

def ct_ref03_Size : Ct := ⟨30, [.val (.st 42)], [(.int .i64, false)], [], none⟩
theorem enter_ref03_Size (args : Array Value) (w : World) : (callFunc ct_ref03_Size.f args).run Try.prog w = .ok (.enter ct_ref03_Size.f args) w := by kernel_rfl
def ann_ref03_Size : Ann := ⟨[0, 1, 2], []⟩
def tree_ref03_Size : Tree := (.need [(.ok 0 [(.tok 0), (.lit (.i 2001))])] (.leaf [(.call 0 0 [(.tok 0), (.lit (.i 2001))])]))
set_option maxRecDepth 100000 in
theorem code_ref03_Size (g0 : List D → Option (List D)) : ∀ cd, Try.f30.body = some cd → treeOf Try.prog [(ct_ref03_Count, g0)] ann_ref03_Size ct_ref03_Size Try.f30 cd = tree_ref03_Size := by
  intro cd h
  injection h with h
  subst h
  kernel_rfl
theorem fok_ref03_Size {g0 : List D → Option (List D)} {g : List D → Option (List D)} (h0 : FOk ct_ref03_Count g0) (h : ∀ ds outs, WfA ct_ref03_Size.ars ds → g ds = some outs → tree_ref03_Size.go (tblS [(ct_ref03_Count, g0)]) (fun o => o = outs) ds fun _ _ => False) : FOk ct_ref03_Size g :=
  fok_of ann_ref03_Size Try.f30 _ (.cons h0 .nil) rfl rfl enter_ref03_Size (by decide) fun ds outs hw hg => by rw [code_ref03_Size g0 _ rfl]; exact h ds outs hw hg

def ct_ref03_node : Ct := ⟨106, [.val (.st 42)], [(.bool, false)], [], none⟩
theorem enter_ref03_node (args : Array Value) (w : World) : (callFunc ct_ref03_node.f args).run Try.prog w = .ok (.enter ct_ref03_node.f args) w := by kernel_rfl
def ann_ref03_node : Ann := ⟨[0, 1, 2, 4, 5, 26, 37, 54], []⟩
def tree_ref03_node : Tree := (.br (.eq (.fld (.tok 0) 0) (.lit (.i 0))) (.leaf [(.and (.and (.and (.le (.lit (.i 0)) (.fld (.tok 0) 1)) (.le (.fld (.tok 0) 1) (.lit (.i 1099511627776)))) (.eq (.fld (.tok 0) 2) (.lit (.s ⟨#[]⟩)))) (.eq (.len (.fld (.tok 0) 3)) (.lit (.i 0))))]) (.br (.eq (.fld (.tok 0) 0) (.lit (.i 1))) (.leaf [(.and (.eq (.fld (.tok 0) 2) (.lit (.s ⟨#[]⟩))) (.eq (.len (.fld (.tok 0) 3)) (.lit (.i 0))))]) (.br (.eq (.fld (.tok 0) 0) (.lit (.i 2))) (.leaf [(.and (.and (.eq (.fld (.tok 0) 1) (.lit (.i 0))) (.le (.slen (.fld (.tok 0) 2)) (.lit (.i 100)))) (.eq (.len (.fld (.tok 0) 3)) (.lit (.i 0))))]) (.br (.eq (.fld (.tok 0) 0) (.lit (.i 3))) (.leaf [(.and (.and (.and (.eq (.fld (.tok 0) 1) (.lit (.i 0))) (.le (.slen (.fld (.tok 0) 2)) (.lit (.i 100)))) (.le (.lit (.i 1)) (.len (.fld (.tok 0) 3)))) (.le (.len (.fld (.tok 0) 3)) (.lit (.i 8))))]) (.leaf [(.lit (.b .false))])))))
set_option maxRecDepth 100000 in
theorem code_ref03_node : ∀ cd, Try.f106.body = some cd → treeOf Try.prog [] ann_ref03_node ct_ref03_node Try.f106 cd = tree_ref03_node := by
  intro cd h
  injection h with h
  subst h
  kernel_rfl
theorem fok_ref03_node {g : List D → Option (List D)}  (h : ∀ ds outs, WfA ct_ref03_node.ars ds → g ds = some outs → tree_ref03_node.go (tblS []) (fun o => o = outs) ds fun _ _ => False) : FOk ct_ref03_node g :=
  fok_of ann_ref03_node Try.f106 _ .nil rfl rfl enter_ref03_node (by decide) fun ds outs hw hg => by rw [code_ref03_node  _ rfl]; exact h ds outs hw hg

def ct_ref03_nodes : Ct := ⟨73, [.val (.st 42)], [(.bool, false)], [], none⟩
theorem enter_ref03_nodes (args : Array Value) (w : World) : (callFunc ct_ref03_nodes.f args).run Try.prog w = .ok (.enter ct_ref03_nodes.f args) w := by kernel_rfl
def ann_ref03_nodes : Ann := ⟨[0, 1, 2, 3, 6, 11, 20], [(4, ⟨[(2, .bool, false), (3, .int .i64, false)], [], [7, 8, 9, 10, 11, 14, 15, 16, 17, 18, 19, 20, 12, 13], []⟩)]⟩
def tree_ref03_nodes : Tree := (.need [(.ok 0 [(.tok 0)])] (.br (.not (.call 0 0 [(.tok 0)])) (.leaf [(.lit (.b .false))]) (.loop 4 1 [(.lit (.b .false)), (.lit (.i 0))] (.br (.lt (.tok 2) (.len (.fld (.tok 0) 3))) (.need [(.le (.lit (.i 0)) (.tok 2)), (.lt (.tok 2) (.len (.fld (.tok 0) 3))), (.ok 1 [(.get (.fld (.tok 0) 3) (.tok 2))])] (.br (.not (.call 1 0 [(.get (.fld (.tok 0) 3) (.tok 2))])) (.leaf [(.lit (.b .false))]) (.need [(.rng .i64 (.add (.tok 2) (.lit (.i 1))))] (.back 4 [(.tok 1), (.add (.tok 2) (.lit (.i 1)))])))) (.leaf [(.lit (.b .true))])))))
set_option maxRecDepth 100000 in
theorem code_ref03_nodes (g0 g1 : List D → Option (List D)) : ∀ cd, Try.f73.body = some cd → treeOf Try.prog [(ct_ref03_node, g0), (ct_ref03_nodes, g1)] ann_ref03_nodes ct_ref03_nodes Try.f73 cd = tree_ref03_nodes := by
  intro cd h
  injection h with h
  subst h
  kernel_rfl
theorem fok_ref03_nodes {g0 g1 : List D → Option (List D)} {g : List D → Option (List D)} (h0 : FOk ct_ref03_node g0) (h1 : FOk ct_ref03_nodes g1) (h : ∀ ds outs, WfA ct_ref03_nodes.ars ds → g ds = some outs → tree_ref03_nodes.go (tblS [(ct_ref03_node, g0), (ct_ref03_nodes, g1)]) (fun o => o = outs) ds fun _ _ => False) : FOk ct_ref03_nodes g :=
  fok_of ann_ref03_nodes Try.f73 _ (.cons h0 (.cons h1 .nil)) rfl rfl enter_ref03_nodes (by decide) fun ds outs hw hg => by rw [code_ref03_nodes g0 g1 _ rfl]; exact h ds outs hw hg

def ct_ref03_Valid : Ct := ⟨29, [.val (.st 42)], [(.bool, false)], [], none⟩
theorem enter_ref03_Valid (args : Array Value) (w : World) : (callFunc ct_ref03_Valid.f args).run Try.prog w = .ok (.enter ct_ref03_Valid.f args) w := by kernel_rfl
def ann_ref03_Valid : Ann := ⟨[0, 1, 2], []⟩
def tree_ref03_Valid : Tree := (.need [(.ok 0 [(.tok 0)]), (.imp (.le (.call 0 0 [(.tok 0)]) (.lit (.i 2000))) (.ok 1 [(.tok 0)]))] (.leaf [(.and (.le (.call 0 0 [(.tok 0)]) (.lit (.i 2000))) (.call 1 0 [(.tok 0)]))]))
set_option maxRecDepth 100000 in
theorem code_ref03_Valid (g0 g1 : List D → Option (List D)) : ∀ cd, Try.f29.body = some cd → treeOf Try.prog [(ct_ref03_Size, g0), (ct_ref03_nodes, g1)] ann_ref03_Valid ct_ref03_Valid Try.f29 cd = tree_ref03_Valid := by
  intro cd h
  injection h with h
  subst h
  kernel_rfl
theorem fok_ref03_Valid {g0 g1 : List D → Option (List D)} {g : List D → Option (List D)} (h0 : FOk ct_ref03_Size g0) (h1 : FOk ct_ref03_nodes g1) (h : ∀ ds outs, WfA ct_ref03_Valid.ars ds → g ds = some outs → tree_ref03_Valid.go (tblS [(ct_ref03_Size, g0), (ct_ref03_nodes, g1)]) (fun o => o = outs) ds fun _ _ => False) : FOk ct_ref03_Valid g :=
  fok_of ann_ref03_Valid Try.f29 _ (.cons h0 (.cons h1 .nil)) rfl rfl enter_ref03_Valid (by decide) fun ds outs hw hg => by rw [code_ref03_Valid g0 g1 _ rfl]; exact h ds outs hw hg

def ct_ref03_identical : Ct := ⟨72, [.val (.st 42), .val (.st 42)], [(.bool, false)], [], none⟩
theorem enter_ref03_identical (args : Array Value) (w : World) : (callFunc ct_ref03_identical.f args).run Try.prog w = .ok (.enter ct_ref03_identical.f args) w := by kernel_rfl
def ann_ref03_identical : Ann := ⟨[0, 1, 2, 3, 4, 5, 33, 38, 52], [(4, ⟨[(4, .bool, false), (5, .int .i64, false)], [], [34, 35, 36, 37, 38, 41, 42, 43, 44, 45, 46, 47, 48, 49, 50, 51, 52, 39, 40], []⟩)]⟩
def tree_ref03_identical : Tree := (.br (.or (.or (.or (.not (.eq (.fld (.tok 0) 0) (.fld (.tok 1) 0))) (.not (.eq (.fld (.tok 0) 1) (.fld (.tok 1) 1)))) (.not (.eq (.fld (.tok 0) 2) (.fld (.tok 1) 2)))) (.not (.eq (.len (.fld (.tok 0) 3)) (.len (.fld (.tok 1) 3))))) (.leaf [(.lit (.b .false))]) (.loop 4 2 [(.lit (.b .false)), (.lit (.i 0))] (.br (.lt (.tok 3) (.len (.fld (.tok 0) 3))) (.need [(.ok 0 [(.get (.fld (.tok 0) 3) (.tok 3)), (.get (.fld (.tok 1) 3) (.tok 3))]), (.le (.lit (.i 0)) (.tok 3)), (.lt (.tok 3) (.len (.fld (.tok 1) 3))), (.le (.lit (.i 0)) (.tok 3)), (.lt (.tok 3) (.len (.fld (.tok 0) 3)))] (.br (.not (.call 0 0 [(.get (.fld (.tok 0) 3) (.tok 3)), (.get (.fld (.tok 1) 3) (.tok 3))])) (.leaf [(.lit (.b .false))]) (.need [(.rng .i64 (.add (.tok 3) (.lit (.i 1))))] (.back 4 [(.tok 2), (.add (.tok 3) (.lit (.i 1)))])))) (.leaf [(.lit (.b .true))]))))
set_option maxRecDepth 100000 in
theorem code_ref03_identical (g0 : List D → Option (List D)) : ∀ cd, Try.f72.body = some cd → treeOf Try.prog [(ct_ref03_identical, g0)] ann_ref03_identical ct_ref03_identical Try.f72 cd = tree_ref03_identical := by
  intro cd h
  injection h with h
  subst h
  kernel_rfl
theorem fok_ref03_identical {g0 : List D → Option (List D)} {g : List D → Option (List D)} (h0 : FOk ct_ref03_identical g0) (h : ∀ ds outs, WfA ct_ref03_identical.ars ds → g ds = some outs → tree_ref03_identical.go (tblS [(ct_ref03_identical, g0)]) (fun o => o = outs) ds fun _ _ => False) : FOk ct_ref03_identical g :=
  fok_of ann_ref03_identical Try.f72 _ (.cons h0 .nil) rfl rfl enter_ref03_identical (by decide) fun ds outs hw hg => by rw [code_ref03_identical g0 _ rfl]; exact h ds outs hw hg

def ct_ref03_Same : Ct := ⟨28, [.val (.st 42), .val (.st 42)], [(.bool, false)], [], none⟩
theorem enter_ref03_Same (args : Array Value) (w : World) : (callFunc ct_ref03_Same.f args).run Try.prog w = .ok (.enter ct_ref03_Same.f args) w := by kernel_rfl
def ann_ref03_Same : Ann := ⟨[0, 1, 2, 3, 4], []⟩
def tree_ref03_Same : Tree := (.need [(.ok 0 [(.tok 0)]), (.imp (.call 0 0 [(.tok 0)]) (.ok 0 [(.tok 1)])), (.imp (.and (.call 0 0 [(.tok 0)]) (.call 0 0 [(.tok 1)])) (.ok 1 [(.tok 0), (.tok 1)]))] (.leaf [(.and (.and (.call 0 0 [(.tok 0)]) (.call 0 0 [(.tok 1)])) (.call 1 0 [(.tok 0), (.tok 1)]))]))
set_option maxRecDepth 100000 in
theorem code_ref03_Same (g0 g1 : List D → Option (List D)) : ∀ cd, Try.f28.body = some cd → treeOf Try.prog [(ct_ref03_Valid, g0), (ct_ref03_identical, g1)] ann_ref03_Same ct_ref03_Same Try.f28 cd = tree_ref03_Same := by
  intro cd h
  injection h with h
  subst h
  kernel_rfl
theorem fok_ref03_Same {g0 g1 : List D → Option (List D)} {g : List D → Option (List D)} (h0 : FOk ct_ref03_Valid g0) (h1 : FOk ct_ref03_identical g1) (h : ∀ ds outs, WfA ct_ref03_Same.ars ds → g ds = some outs → tree_ref03_Same.go (tblS [(ct_ref03_Valid, g0), (ct_ref03_identical, g1)]) (fun o => o = outs) ds fun _ _ => False) : FOk ct_ref03_Same g :=
  fok_of ann_ref03_Same Try.f28 _ (.cons h0 (.cons h1 .nil)) rfl rfl enter_ref03_Same (by decide) fun ds outs hw hg => by rw [code_ref03_Same g0 g1 _ rfl]; exact h ds outs hw hg

def ct_law30_awake : Ct := ⟨14, [], [(.bool, false)], [], none⟩
theorem enter_law30_awake (args : Array Value) (w : World) : (callFunc ct_law30_awake.f args).run Try.prog w = .ok (.enter ct_law30_awake.f args) w := by kernel_rfl
def ann_law30_awake : Ann := ⟨[0, 1, 2, 3, 4, 5, 6, 7, 8, 9, 10, 11, 57, 59, 75], [(6, ⟨[(0, .bool, false), (6, .int .i64, false)], [], [58, 59, 62, 63, 64, 65, 66, 67, 68, 69, 70, 71, 72, 73, 74, 75, 60, 61], []⟩)]⟩
def tree_law30_awake : Tree := (.need [(.ok 0 [(.lit (.i 10))])] (.need [(.ok 1 [(.lit (.i 0))]), (.ok 2 [(.lit (.s ⟨#[103]⟩)), (.row [(.call 1 0 [(.lit (.i 0))])])]), (.ok 1 [(.lit (.i 0))]), (.ok 2 [(.lit (.s ⟨#[102]⟩)), (.row [(.call 2 0 [(.lit (.s ⟨#[103]⟩)), (.row [(.call 1 0 [(.lit (.i 0))])])]), (.call 1 0 [(.lit (.i 0))])])]), (.ok 3 [(.call 0 0 [(.lit (.i 10))]), (.call 2 0 [(.lit (.s ⟨#[102]⟩)), (.row [(.call 2 0 [(.lit (.s ⟨#[103]⟩)), (.row [(.call 1 0 [(.lit (.i 0))])])]), (.call 1 0 [(.lit (.i 0))])])]), (.lit (.r []))])] (.need [(.imp (.not (.or (.or (.not (.eq (.call 0 1 [(.lit (.i 10))]) (.lit (.i 0)))) (.not (.eq (.call 3 2 [(.call 0 0 [(.lit (.i 10))]), (.call 2 0 [(.lit (.s ⟨#[102]⟩)), (.row [(.call 2 0 [(.lit (.s ⟨#[103]⟩)), (.row [(.call 1 0 [(.lit (.i 0))])])]), (.call 1 0 [(.lit (.i 0))])])]), (.lit (.r []))]) (.lit (.i 0))))) (.not (.eq (.call 3 0 [(.call 0 0 [(.lit (.i 10))]), (.call 2 0 [(.lit (.s ⟨#[102]⟩)), (.row [(.call 2 0 [(.lit (.s ⟨#[103]⟩)), (.row [(.call 1 0 [(.lit (.i 0))])])]), (.call 1 0 [(.lit (.i 0))])])]), (.lit (.r []))]) (.call 4 0 [(.lit (.i 0))]))))) (.ok 6 [(.call 3 1 [(.call 0 0 [(.lit (.i 10))]), (.call 2 0 [(.lit (.s ⟨#[102]⟩)), (.row [(.call 2 0 [(.lit (.s ⟨#[103]⟩)), (.row [(.call 1 0 [(.lit (.i 0))])])]), (.call 1 0 [(.lit (.i 0))])])]), (.lit (.r []))]), (.row [(.mk [(.lit (.i 0)), (.call 5 0 [(.lit (.i 4))])])])])), (.imp (.not (.or (.or (.not (.eq (.call 0 1 [(.lit (.i 10))]) (.lit (.i 0)))) (.not (.eq (.call 3 2 [(.call 0 0 [(.lit (.i 10))]), (.call 2 0 [(.lit (.s ⟨#[102]⟩)), (.row [(.call 2 0 [(.lit (.s ⟨#[103]⟩)), (.row [(.call 1 0 [(.lit (.i 0))])])]), (.call 1 0 [(.lit (.i 0))])])]), (.lit (.r []))]) (.lit (.i 0))))) (.not (.eq (.call 3 0 [(.call 0 0 [(.lit (.i 10))]), (.call 2 0 [(.lit (.s ⟨#[102]⟩)), (.row [(.call 2 0 [(.lit (.s ⟨#[103]⟩)), (.row [(.call 1 0 [(.lit (.i 0))])])]), (.call 1 0 [(.lit (.i 0))])])]), (.lit (.r []))]) (.call 4 0 [(.lit (.i 0))]))))) (.ok 5 [(.lit (.i 4))])), (.imp (.not (.or (.not (.eq (.call 0 1 [(.lit (.i 10))]) (.lit (.i 0)))) (.not (.eq (.call 3 2 [(.call 0 0 [(.lit (.i 10))]), (.call 2 0 [(.lit (.s ⟨#[102]⟩)), (.row [(.call 2 0 [(.lit (.s ⟨#[103]⟩)), (.row [(.call 1 0 [(.lit (.i 0))])])]), (.call 1 0 [(.lit (.i 0))])])]), (.lit (.r []))]) (.lit (.i 0)))))) (.ok 4 [(.lit (.i 0))]))] (.br (.or (.or (.or (.or (.or (.not (.eq (.call 0 1 [(.lit (.i 10))]) (.lit (.i 0)))) (.not (.eq (.call 3 2 [(.call 0 0 [(.lit (.i 10))]), (.call 2 0 [(.lit (.s ⟨#[102]⟩)), (.row [(.call 2 0 [(.lit (.s ⟨#[103]⟩)), (.row [(.call 1 0 [(.lit (.i 0))])])]), (.call 1 0 [(.lit (.i 0))])])]), (.lit (.r []))]) (.lit (.i 0))))) (.not (.eq (.call 3 0 [(.call 0 0 [(.lit (.i 10))]), (.call 2 0 [(.lit (.s ⟨#[102]⟩)), (.row [(.call 2 0 [(.lit (.s ⟨#[103]⟩)), (.row [(.call 1 0 [(.lit (.i 0))])])]), (.call 1 0 [(.lit (.i 0))])])]), (.lit (.r []))]) (.call 4 0 [(.lit (.i 0))])))) (.not (.call 6 0 [(.call 3 1 [(.call 0 0 [(.lit (.i 10))]), (.call 2 0 [(.lit (.s ⟨#[102]⟩)), (.row [(.call 2 0 [(.lit (.s ⟨#[103]⟩)), (.row [(.call 1 0 [(.lit (.i 0))])])]), (.call 1 0 [(.lit (.i 0))])])]), (.lit (.r []))]), (.row [(.mk [(.lit (.i 0)), (.call 5 0 [(.lit (.i 4))])])])]))) (.not (.eq (.len (.fld (.call 3 3 [(.call 0 0 [(.lit (.i 10))]), (.call 2 0 [(.lit (.s ⟨#[102]⟩)), (.row [(.call 2 0 [(.lit (.s ⟨#[103]⟩)), (.row [(.call 1 0 [(.lit (.i 0))])])]), (.call 1 0 [(.lit (.i 0))])])]), (.lit (.r []))]) 0)) (.lit (.i 5))))) (.not (.eq (.len (.fld (.call 3 3 [(.call 0 0 [(.lit (.i 10))]), (.call 2 0 [(.lit (.s ⟨#[102]⟩)), (.row [(.call 2 0 [(.lit (.s ⟨#[103]⟩)), (.row [(.call 1 0 [(.lit (.i 0))])])]), (.call 1 0 [(.lit (.i 0))])])]), (.lit (.r []))]) 1)) (.lit (.i 2))))) (.leaf [(.lit (.b .false))]) (.loop 6 0 [(.lit (.b .false)), (.lit (.i 0))] (.br (.lt (.tok 1) (.lit (.i 5))) (.need [(.le (.lit (.i 0)) (.tok 1)), (.lt (.tok 1) (.lit (.i 5))), (.ok 5 [(.lit (.i 4))]), (.ok 5 [(.lit (.i 4))]), (.ok 5 [(.lit (.i 4))]), (.ok 4 [(.lit (.i 3))]), (.ok 4 [(.lit (.i 3))]), (.le (.lit (.i 0)) (.tok 1)), (.lt (.tok 1) (.len (.fld (.call 3 3 [(.call 0 0 [(.lit (.i 10))]), (.call 2 0 [(.lit (.s ⟨#[102]⟩)), (.row [(.call 2 0 [(.lit (.s ⟨#[103]⟩)), (.row [(.call 1 0 [(.lit (.i 0))])])]), (.call 1 0 [(.lit (.i 0))])])]), (.lit (.r []))]) 0)))] (.br (.not (.eq (.get (.fld (.call 3 3 [(.call 0 0 [(.lit (.i 10))]), (.call 2 0 [(.lit (.s ⟨#[102]⟩)), (.row [(.call 2 0 [(.lit (.s ⟨#[103]⟩)), (.row [(.call 1 0 [(.lit (.i 0))])])]), (.call 1 0 [(.lit (.i 0))])])]), (.lit (.r []))]) 0) (.tok 1)) (.get (.row [(.mk [(.lit (.i 4)), (.lit (.i 0))]), (.call 4 0 [(.lit (.i 3))]), (.call 5 0 [(.lit (.i 4))]), (.mk [(.lit (.i 4)), (.lit (.i 1))]), (.call 5 0 [(.lit (.i 4))])]) (.tok 1)))) (.leaf [(.lit (.b .false))]) (.need [(.rng .i64 (.add (.tok 1) (.lit (.i 1))))] (.back 6 [(.tok 0), (.add (.tok 1) (.lit (.i 1)))])))) (.need [(.ok 1 [(.lit (.i 1))]), (.ok 3 [(.call 3 3 [(.call 0 0 [(.lit (.i 10))]), (.call 2 0 [(.lit (.s ⟨#[102]⟩)), (.row [(.call 2 0 [(.lit (.s ⟨#[103]⟩)), (.row [(.call 1 0 [(.lit (.i 0))])])]), (.call 1 0 [(.lit (.i 0))])])]), (.lit (.r []))]), (.call 1 0 [(.lit (.i 1))]), (.call 3 1 [(.call 0 0 [(.lit (.i 10))]), (.call 2 0 [(.lit (.s ⟨#[102]⟩)), (.row [(.call 2 0 [(.lit (.s ⟨#[103]⟩)), (.row [(.call 1 0 [(.lit (.i 0))])])]), (.call 1 0 [(.lit (.i 0))])])]), (.lit (.r []))])])] (.need [(.ok 7 [(.call 3 3 [(.call 3 3 [(.call 0 0 [(.lit (.i 10))]), (.call 2 0 [(.lit (.s ⟨#[102]⟩)), (.row [(.call 2 0 [(.lit (.s ⟨#[103]⟩)), (.row [(.call 1 0 [(.lit (.i 0))])])]), (.call 1 0 [(.lit (.i 0))])])]), (.lit (.r []))]), (.call 1 0 [(.lit (.i 1))]), (.call 3 1 [(.call 0 0 [(.lit (.i 10))]), (.call 2 0 [(.lit (.s ⟨#[102]⟩)), (.row [(.call 2 0 [(.lit (.s ⟨#[103]⟩)), (.row [(.call 1 0 [(.lit (.i 0))])])]), (.call 1 0 [(.lit (.i 0))])])]), (.lit (.r []))])]), (.call 4 0 [(.lit (.i 0))])]), (.ok 4 [(.lit (.i 0))]), (.ok 4 [(.lit (.i 0))])] (.need [(.imp (.and (.and (.and (.and (.and (.and (.eq (.call 3 2 [(.call 3 3 [(.call 0 0 [(.lit (.i 10))]), (.call 2 0 [(.lit (.s ⟨#[102]⟩)), (.row [(.call 2 0 [(.lit (.s ⟨#[103]⟩)), (.row [(.call 1 0 [(.lit (.i 0))])])]), (.call 1 0 [(.lit (.i 0))])])]), (.lit (.r []))]), (.call 1 0 [(.lit (.i 1))]), (.call 3 1 [(.call 0 0 [(.lit (.i 10))]), (.call 2 0 [(.lit (.s ⟨#[102]⟩)), (.row [(.call 2 0 [(.lit (.s ⟨#[103]⟩)), (.row [(.call 1 0 [(.lit (.i 0))])])]), (.call 1 0 [(.lit (.i 0))])])]), (.lit (.r []))])]) (.lit (.i 0))) (.eq (.call 3 0 [(.call 3 3 [(.call 0 0 [(.lit (.i 10))]), (.call 2 0 [(.lit (.s ⟨#[102]⟩)), (.row [(.call 2 0 [(.lit (.s ⟨#[103]⟩)), (.row [(.call 1 0 [(.lit (.i 0))])])]), (.call 1 0 [(.lit (.i 0))])])]), (.lit (.r []))]), (.call 1 0 [(.lit (.i 1))]), (.call 3 1 [(.call 0 0 [(.lit (.i 10))]), (.call 2 0 [(.lit (.s ⟨#[102]⟩)), (.row [(.call 2 0 [(.lit (.s ⟨#[103]⟩)), (.row [(.call 1 0 [(.lit (.i 0))])])]), (.call 1 0 [(.lit (.i 0))])])]), (.lit (.r []))])]) (.call 5 0 [(.lit (.i 5))]))) (.call 6 0 [(.call 3 1 [(.call 3 3 [(.call 0 0 [(.lit (.i 10))]), (.call 2 0 [(.lit (.s ⟨#[102]⟩)), (.row [(.call 2 0 [(.lit (.s ⟨#[103]⟩)), (.row [(.call 1 0 [(.lit (.i 0))])])]), (.call 1 0 [(.lit (.i 0))])])]), (.lit (.r []))]), (.call 1 0 [(.lit (.i 1))]), (.call 3 1 [(.call 0 0 [(.lit (.i 10))]), (.call 2 0 [(.lit (.s ⟨#[102]⟩)), (.row [(.call 2 0 [(.lit (.s ⟨#[103]⟩)), (.row [(.call 1 0 [(.lit (.i 0))])])]), (.call 1 0 [(.lit (.i 0))])])]), (.lit (.r []))])]), (.row [(.mk [(.lit (.i 0)), (.call 5 0 [(.lit (.i 4))])]), (.mk [(.lit (.i 1)), (.call 5 0 [(.lit (.i 5))])])])])) (.eq (.call 7 1 [(.call 3 3 [(.call 3 3 [(.call 0 0 [(.lit (.i 10))]), (.call 2 0 [(.lit (.s ⟨#[102]⟩)), (.row [(.call 2 0 [(.lit (.s ⟨#[103]⟩)), (.row [(.call 1 0 [(.lit (.i 0))])])]), (.call 1 0 [(.lit (.i 0))])])]), (.lit (.r []))]), (.call 1 0 [(.lit (.i 1))]), (.call 3 1 [(.call 0 0 [(.lit (.i 10))]), (.call 2 0 [(.lit (.s ⟨#[102]⟩)), (.row [(.call 2 0 [(.lit (.s ⟨#[103]⟩)), (.row [(.call 1 0 [(.lit (.i 0))])])]), (.call 1 0 [(.lit (.i 0))])])]), (.lit (.r []))])]), (.call 4 0 [(.lit (.i 0))])]) (.lit (.i 0)))) (.call 8 0 [(.call 7 0 [(.call 3 3 [(.call 3 3 [(.call 0 0 [(.lit (.i 10))]), (.call 2 0 [(.lit (.s ⟨#[102]⟩)), (.row [(.call 2 0 [(.lit (.s ⟨#[103]⟩)), (.row [(.call 1 0 [(.lit (.i 0))])])]), (.call 1 0 [(.lit (.i 0))])])]), (.lit (.r []))]), (.call 1 0 [(.lit (.i 1))]), (.call 3 1 [(.call 0 0 [(.lit (.i 10))]), (.call 2 0 [(.lit (.s ⟨#[102]⟩)), (.row [(.call 2 0 [(.lit (.s ⟨#[103]⟩)), (.row [(.call 1 0 [(.lit (.i 0))])])]), (.call 1 0 [(.lit (.i 0))])])]), (.lit (.r []))])]), (.call 4 0 [(.lit (.i 0))])]), (.call 2 0 [(.lit (.s ⟨#[102]⟩)), (.row [(.call 2 0 [(.lit (.s ⟨#[103]⟩)), (.row [(.call 1 0 [(.lit (.i 4))])])]), (.call 1 0 [(.lit (.i 4))])])])])) (.eq (.call 9 0 [(.call 3 3 [(.call 3 3 [(.call 0 0 [(.lit (.i 10))]), (.call 2 0 [(.lit (.s ⟨#[102]⟩)), (.row [(.call 2 0 [(.lit (.s ⟨#[103]⟩)), (.row [(.call 1 0 [(.lit (.i 0))])])]), (.call 1 0 [(.lit (.i 0))])])]), (.lit (.r []))]), (.call 1 0 [(.lit (.i 1))]), (.call 3 1 [(.call 0 0 [(.lit (.i 10))]), (.call 2 0 [(.lit (.s ⟨#[102]⟩)), (.row [(.call 2 0 [(.lit (.s ⟨#[103]⟩)), (.row [(.call 1 0 [(.lit (.i 0))])])]), (.call 1 0 [(.lit (.i 0))])])]), (.lit (.r []))])]), (.call 5 0 [(.lit (.i 2))])]) (.call 5 0 [(.lit (.i 4))]))) (.eq (.call 9 0 [(.call 3 3 [(.call 3 3 [(.call 0 0 [(.lit (.i 10))]), (.call 2 0 [(.lit (.s ⟨#[102]⟩)), (.row [(.call 2 0 [(.lit (.s ⟨#[103]⟩)), (.row [(.call 1 0 [(.lit (.i 0))])])]), (.call 1 0 [(.lit (.i 0))])])]), (.lit (.r []))]), (.call 1 0 [(.lit (.i 1))]), (.call 3 1 [(.call 0 0 [(.lit (.i 10))]), (.call 2 0 [(.lit (.s ⟨#[102]⟩)), (.row [(.call 2 0 [(.lit (.s ⟨#[103]⟩)), (.row [(.call 1 0 [(.lit (.i 0))])])]), (.call 1 0 [(.lit (.i 0))])])]), (.lit (.r []))])]), (.call 5 0 [(.lit (.i 1))])]) (.call 4 0 [(.lit (.i 3))]))) (.lit (.b .true))), (.imp (.and (.and (.and (.and (.and (.and (.eq (.call 3 2 [(.call 3 3 [(.call 0 0 [(.lit (.i 10))]), (.call 2 0 [(.lit (.s ⟨#[102]⟩)), (.row [(.call 2 0 [(.lit (.s ⟨#[103]⟩)), (.row [(.call 1 0 [(.lit (.i 0))])])]), (.call 1 0 [(.lit (.i 0))])])]), (.lit (.r []))]), (.call 1 0 [(.lit (.i 1))]), (.call 3 1 [(.call 0 0 [(.lit (.i 10))]), (.call 2 0 [(.lit (.s ⟨#[102]⟩)), (.row [(.call 2 0 [(.lit (.s ⟨#[103]⟩)), (.row [(.call 1 0 [(.lit (.i 0))])])]), (.call 1 0 [(.lit (.i 0))])])]), (.lit (.r []))])]) (.lit (.i 0))) (.eq (.call 3 0 [(.call 3 3 [(.call 0 0 [(.lit (.i 10))]), (.call 2 0 [(.lit (.s ⟨#[102]⟩)), (.row [(.call 2 0 [(.lit (.s ⟨#[103]⟩)), (.row [(.call 1 0 [(.lit (.i 0))])])]), (.call 1 0 [(.lit (.i 0))])])]), (.lit (.r []))]), (.call 1 0 [(.lit (.i 1))]), (.call 3 1 [(.call 0 0 [(.lit (.i 10))]), (.call 2 0 [(.lit (.s ⟨#[102]⟩)), (.row [(.call 2 0 [(.lit (.s ⟨#[103]⟩)), (.row [(.call 1 0 [(.lit (.i 0))])])]), (.call 1 0 [(.lit (.i 0))])])]), (.lit (.r []))])]) (.call 5 0 [(.lit (.i 5))]))) (.call 6 0 [(.call 3 1 [(.call 3 3 [(.call 0 0 [(.lit (.i 10))]), (.call 2 0 [(.lit (.s ⟨#[102]⟩)), (.row [(.call 2 0 [(.lit (.s ⟨#[103]⟩)), (.row [(.call 1 0 [(.lit (.i 0))])])]), (.call 1 0 [(.lit (.i 0))])])]), (.lit (.r []))]), (.call 1 0 [(.lit (.i 1))]), (.call 3 1 [(.call 0 0 [(.lit (.i 10))]), (.call 2 0 [(.lit (.s ⟨#[102]⟩)), (.row [(.call 2 0 [(.lit (.s ⟨#[103]⟩)), (.row [(.call 1 0 [(.lit (.i 0))])])]), (.call 1 0 [(.lit (.i 0))])])]), (.lit (.r []))])]), (.row [(.mk [(.lit (.i 0)), (.call 5 0 [(.lit (.i 4))])]), (.mk [(.lit (.i 1)), (.call 5 0 [(.lit (.i 5))])])])])) (.eq (.call 7 1 [(.call 3 3 [(.call 3 3 [(.call 0 0 [(.lit (.i 10))]), (.call 2 0 [(.lit (.s ⟨#[102]⟩)), (.row [(.call 2 0 [(.lit (.s ⟨#[103]⟩)), (.row [(.call 1 0 [(.lit (.i 0))])])]), (.call 1 0 [(.lit (.i 0))])])]), (.lit (.r []))]), (.call 1 0 [(.lit (.i 1))]), (.call 3 1 [(.call 0 0 [(.lit (.i 10))]), (.call 2 0 [(.lit (.s ⟨#[102]⟩)), (.row [(.call 2 0 [(.lit (.s ⟨#[103]⟩)), (.row [(.call 1 0 [(.lit (.i 0))])])]), (.call 1 0 [(.lit (.i 0))])])]), (.lit (.r []))])]), (.call 4 0 [(.lit (.i 0))])]) (.lit (.i 0)))) (.call 8 0 [(.call 7 0 [(.call 3 3 [(.call 3 3 [(.call 0 0 [(.lit (.i 10))]), (.call 2 0 [(.lit (.s ⟨#[102]⟩)), (.row [(.call 2 0 [(.lit (.s ⟨#[103]⟩)), (.row [(.call 1 0 [(.lit (.i 0))])])]), (.call 1 0 [(.lit (.i 0))])])]), (.lit (.r []))]), (.call 1 0 [(.lit (.i 1))]), (.call 3 1 [(.call 0 0 [(.lit (.i 10))]), (.call 2 0 [(.lit (.s ⟨#[102]⟩)), (.row [(.call 2 0 [(.lit (.s ⟨#[103]⟩)), (.row [(.call 1 0 [(.lit (.i 0))])])]), (.call 1 0 [(.lit (.i 0))])])]), (.lit (.r []))])]), (.call 4 0 [(.lit (.i 0))])]), (.call 2 0 [(.lit (.s ⟨#[102]⟩)), (.row [(.call 2 0 [(.lit (.s ⟨#[103]⟩)), (.row [(.call 1 0 [(.lit (.i 4))])])]), (.call 1 0 [(.lit (.i 4))])])])])) (.eq (.call 9 0 [(.call 3 3 [(.call 3 3 [(.call 0 0 [(.lit (.i 10))]), (.call 2 0 [(.lit (.s ⟨#[102]⟩)), (.row [(.call 2 0 [(.lit (.s ⟨#[103]⟩)), (.row [(.call 1 0 [(.lit (.i 0))])])]), (.call 1 0 [(.lit (.i 0))])])]), (.lit (.r []))]), (.call 1 0 [(.lit (.i 1))]), (.call 3 1 [(.call 0 0 [(.lit (.i 10))]), (.call 2 0 [(.lit (.s ⟨#[102]⟩)), (.row [(.call 2 0 [(.lit (.s ⟨#[103]⟩)), (.row [(.call 1 0 [(.lit (.i 0))])])]), (.call 1 0 [(.lit (.i 0))])])]), (.lit (.r []))])]), (.call 5 0 [(.lit (.i 2))])]) (.call 5 0 [(.lit (.i 4))]))) (.eq (.call 9 0 [(.call 3 3 [(.call 3 3 [(.call 0 0 [(.lit (.i 10))]), (.call 2 0 [(.lit (.s ⟨#[102]⟩)), (.row [(.call 2 0 [(.lit (.s ⟨#[103]⟩)), (.row [(.call 1 0 [(.lit (.i 0))])])]), (.call 1 0 [(.lit (.i 0))])])]), (.lit (.r []))]), (.call 1 0 [(.lit (.i 1))]), (.call 3 1 [(.call 0 0 [(.lit (.i 10))]), (.call 2 0 [(.lit (.s ⟨#[102]⟩)), (.row [(.call 2 0 [(.lit (.s ⟨#[103]⟩)), (.row [(.call 1 0 [(.lit (.i 0))])])]), (.call 1 0 [(.lit (.i 0))])])]), (.lit (.r []))])]), (.call 5 0 [(.lit (.i 1))])]) (.call 4 0 [(.lit (.i 3))]))) (.lt (.lit (.i 1)) (.len (.fld (.call 3 3 [(.call 3 3 [(.call 0 0 [(.lit (.i 10))]), (.call 2 0 [(.lit (.s ⟨#[102]⟩)), (.row [(.call 2 0 [(.lit (.s ⟨#[103]⟩)), (.row [(.call 1 0 [(.lit (.i 0))])])]), (.call 1 0 [(.lit (.i 0))])])]), (.lit (.r []))]), (.call 1 0 [(.lit (.i 1))]), (.call 3 1 [(.call 0 0 [(.lit (.i 10))]), (.call 2 0 [(.lit (.s ⟨#[102]⟩)), (.row [(.call 2 0 [(.lit (.s ⟨#[103]⟩)), (.row [(.call 1 0 [(.lit (.i 0))])])]), (.call 1 0 [(.lit (.i 0))])])]), (.lit (.r []))])]) 1)))), (.imp (.and (.and (.and (.and (.and (.and (.eq (.call 3 2 [(.call 3 3 [(.call 0 0 [(.lit (.i 10))]), (.call 2 0 [(.lit (.s ⟨#[102]⟩)), (.row [(.call 2 0 [(.lit (.s ⟨#[103]⟩)), (.row [(.call 1 0 [(.lit (.i 0))])])]), (.call 1 0 [(.lit (.i 0))])])]), (.lit (.r []))]), (.call 1 0 [(.lit (.i 1))]), (.call 3 1 [(.call 0 0 [(.lit (.i 10))]), (.call 2 0 [(.lit (.s ⟨#[102]⟩)), (.row [(.call 2 0 [(.lit (.s ⟨#[103]⟩)), (.row [(.call 1 0 [(.lit (.i 0))])])]), (.call 1 0 [(.lit (.i 0))])])]), (.lit (.r []))])]) (.lit (.i 0))) (.eq (.call 3 0 [(.call 3 3 [(.call 0 0 [(.lit (.i 10))]), (.call 2 0 [(.lit (.s ⟨#[102]⟩)), (.row [(.call 2 0 [(.lit (.s ⟨#[103]⟩)), (.row [(.call 1 0 [(.lit (.i 0))])])]), (.call 1 0 [(.lit (.i 0))])])]), (.lit (.r []))]), (.call 1 0 [(.lit (.i 1))]), (.call 3 1 [(.call 0 0 [(.lit (.i 10))]), (.call 2 0 [(.lit (.s ⟨#[102]⟩)), (.row [(.call 2 0 [(.lit (.s ⟨#[103]⟩)), (.row [(.call 1 0 [(.lit (.i 0))])])]), (.call 1 0 [(.lit (.i 0))])])]), (.lit (.r []))])]) (.call 5 0 [(.lit (.i 5))]))) (.call 6 0 [(.call 3 1 [(.call 3 3 [(.call 0 0 [(.lit (.i 10))]), (.call 2 0 [(.lit (.s ⟨#[102]⟩)), (.row [(.call 2 0 [(.lit (.s ⟨#[103]⟩)), (.row [(.call 1 0 [(.lit (.i 0))])])]), (.call 1 0 [(.lit (.i 0))])])]), (.lit (.r []))]), (.call 1 0 [(.lit (.i 1))]), (.call 3 1 [(.call 0 0 [(.lit (.i 10))]), (.call 2 0 [(.lit (.s ⟨#[102]⟩)), (.row [(.call 2 0 [(.lit (.s ⟨#[103]⟩)), (.row [(.call 1 0 [(.lit (.i 0))])])]), (.call 1 0 [(.lit (.i 0))])])]), (.lit (.r []))])]), (.row [(.mk [(.lit (.i 0)), (.call 5 0 [(.lit (.i 4))])]), (.mk [(.lit (.i 1)), (.call 5 0 [(.lit (.i 5))])])])])) (.eq (.call 7 1 [(.call 3 3 [(.call 3 3 [(.call 0 0 [(.lit (.i 10))]), (.call 2 0 [(.lit (.s ⟨#[102]⟩)), (.row [(.call 2 0 [(.lit (.s ⟨#[103]⟩)), (.row [(.call 1 0 [(.lit (.i 0))])])]), (.call 1 0 [(.lit (.i 0))])])]), (.lit (.r []))]), (.call 1 0 [(.lit (.i 1))]), (.call 3 1 [(.call 0 0 [(.lit (.i 10))]), (.call 2 0 [(.lit (.s ⟨#[102]⟩)), (.row [(.call 2 0 [(.lit (.s ⟨#[103]⟩)), (.row [(.call 1 0 [(.lit (.i 0))])])]), (.call 1 0 [(.lit (.i 0))])])]), (.lit (.r []))])]), (.call 4 0 [(.lit (.i 0))])]) (.lit (.i 0)))) (.call 8 0 [(.call 7 0 [(.call 3 3 [(.call 3 3 [(.call 0 0 [(.lit (.i 10))]), (.call 2 0 [(.lit (.s ⟨#[102]⟩)), (.row [(.call 2 0 [(.lit (.s ⟨#[103]⟩)), (.row [(.call 1 0 [(.lit (.i 0))])])]), (.call 1 0 [(.lit (.i 0))])])]), (.lit (.r []))]), (.call 1 0 [(.lit (.i 1))]), (.call 3 1 [(.call 0 0 [(.lit (.i 10))]), (.call 2 0 [(.lit (.s ⟨#[102]⟩)), (.row [(.call 2 0 [(.lit (.s ⟨#[103]⟩)), (.row [(.call 1 0 [(.lit (.i 0))])])]), (.call 1 0 [(.lit (.i 0))])])]), (.lit (.r []))])]), (.call 4 0 [(.lit (.i 0))])]), (.call 2 0 [(.lit (.s ⟨#[102]⟩)), (.row [(.call 2 0 [(.lit (.s ⟨#[103]⟩)), (.row [(.call 1 0 [(.lit (.i 4))])])]), (.call 1 0 [(.lit (.i 4))])])])])) (.eq (.call 9 0 [(.call 3 3 [(.call 3 3 [(.call 0 0 [(.lit (.i 10))]), (.call 2 0 [(.lit (.s ⟨#[102]⟩)), (.row [(.call 2 0 [(.lit (.s ⟨#[103]⟩)), (.row [(.call 1 0 [(.lit (.i 0))])])]), (.call 1 0 [(.lit (.i 0))])])]), (.lit (.r []))]), (.call 1 0 [(.lit (.i 1))]), (.call 3 1 [(.call 0 0 [(.lit (.i 10))]), (.call 2 0 [(.lit (.s ⟨#[102]⟩)), (.row [(.call 2 0 [(.lit (.s ⟨#[103]⟩)), (.row [(.call 1 0 [(.lit (.i 0))])])]), (.call 1 0 [(.lit (.i 0))])])]), (.lit (.r []))])]), (.call 5 0 [(.lit (.i 2))])]) (.call 5 0 [(.lit (.i 4))]))) (.eq (.call 9 0 [(.call 3 3 [(.call 3 3 [(.call 0 0 [(.lit (.i 10))]), (.call 2 0 [(.lit (.s ⟨#[102]⟩)), (.row [(.call 2 0 [(.lit (.s ⟨#[103]⟩)), (.row [(.call 1 0 [(.lit (.i 0))])])]), (.call 1 0 [(.lit (.i 0))])])]), (.lit (.r []))]), (.call 1 0 [(.lit (.i 1))]), (.call 3 1 [(.call 0 0 [(.lit (.i 10))]), (.call 2 0 [(.lit (.s ⟨#[102]⟩)), (.row [(.call 2 0 [(.lit (.s ⟨#[103]⟩)), (.row [(.call 1 0 [(.lit (.i 0))])])]), (.call 1 0 [(.lit (.i 0))])])]), (.lit (.r []))])]), (.call 5 0 [(.lit (.i 1))])]) (.call 4 0 [(.lit (.i 3))]))) (.lit (.b .true))), (.imp (.and (.and (.and (.and (.and (.and (.eq (.call 3 2 [(.call 3 3 [(.call 0 0 [(.lit (.i 10))]), (.call 2 0 [(.lit (.s ⟨#[102]⟩)), (.row [(.call 2 0 [(.lit (.s ⟨#[103]⟩)), (.row [(.call 1 0 [(.lit (.i 0))])])]), (.call 1 0 [(.lit (.i 0))])])]), (.lit (.r []))]), (.call 1 0 [(.lit (.i 1))]), (.call 3 1 [(.call 0 0 [(.lit (.i 10))]), (.call 2 0 [(.lit (.s ⟨#[102]⟩)), (.row [(.call 2 0 [(.lit (.s ⟨#[103]⟩)), (.row [(.call 1 0 [(.lit (.i 0))])])]), (.call 1 0 [(.lit (.i 0))])])]), (.lit (.r []))])]) (.lit (.i 0))) (.eq (.call 3 0 [(.call 3 3 [(.call 0 0 [(.lit (.i 10))]), (.call 2 0 [(.lit (.s ⟨#[102]⟩)), (.row [(.call 2 0 [(.lit (.s ⟨#[103]⟩)), (.row [(.call 1 0 [(.lit (.i 0))])])]), (.call 1 0 [(.lit (.i 0))])])]), (.lit (.r []))]), (.call 1 0 [(.lit (.i 1))]), (.call 3 1 [(.call 0 0 [(.lit (.i 10))]), (.call 2 0 [(.lit (.s ⟨#[102]⟩)), (.row [(.call 2 0 [(.lit (.s ⟨#[103]⟩)), (.row [(.call 1 0 [(.lit (.i 0))])])]), (.call 1 0 [(.lit (.i 0))])])]), (.lit (.r []))])]) (.call 5 0 [(.lit (.i 5))]))) (.call 6 0 [(.call 3 1 [(.call 3 3 [(.call 0 0 [(.lit (.i 10))]), (.call 2 0 [(.lit (.s ⟨#[102]⟩)), (.row [(.call 2 0 [(.lit (.s ⟨#[103]⟩)), (.row [(.call 1 0 [(.lit (.i 0))])])]), (.call 1 0 [(.lit (.i 0))])])]), (.lit (.r []))]), (.call 1 0 [(.lit (.i 1))]), (.call 3 1 [(.call 0 0 [(.lit (.i 10))]), (.call 2 0 [(.lit (.s ⟨#[102]⟩)), (.row [(.call 2 0 [(.lit (.s ⟨#[103]⟩)), (.row [(.call 1 0 [(.lit (.i 0))])])]), (.call 1 0 [(.lit (.i 0))])])]), (.lit (.r []))])]), (.row [(.mk [(.lit (.i 0)), (.call 5 0 [(.lit (.i 4))])]), (.mk [(.lit (.i 1)), (.call 5 0 [(.lit (.i 5))])])])])) (.eq (.call 7 1 [(.call 3 3 [(.call 3 3 [(.call 0 0 [(.lit (.i 10))]), (.call 2 0 [(.lit (.s ⟨#[102]⟩)), (.row [(.call 2 0 [(.lit (.s ⟨#[103]⟩)), (.row [(.call 1 0 [(.lit (.i 0))])])]), (.call 1 0 [(.lit (.i 0))])])]), (.lit (.r []))]), (.call 1 0 [(.lit (.i 1))]), (.call 3 1 [(.call 0 0 [(.lit (.i 10))]), (.call 2 0 [(.lit (.s ⟨#[102]⟩)), (.row [(.call 2 0 [(.lit (.s ⟨#[103]⟩)), (.row [(.call 1 0 [(.lit (.i 0))])])]), (.call 1 0 [(.lit (.i 0))])])]), (.lit (.r []))])]), (.call 4 0 [(.lit (.i 0))])]) (.lit (.i 0)))) (.call 8 0 [(.call 7 0 [(.call 3 3 [(.call 3 3 [(.call 0 0 [(.lit (.i 10))]), (.call 2 0 [(.lit (.s ⟨#[102]⟩)), (.row [(.call 2 0 [(.lit (.s ⟨#[103]⟩)), (.row [(.call 1 0 [(.lit (.i 0))])])]), (.call 1 0 [(.lit (.i 0))])])]), (.lit (.r []))]), (.call 1 0 [(.lit (.i 1))]), (.call 3 1 [(.call 0 0 [(.lit (.i 10))]), (.call 2 0 [(.lit (.s ⟨#[102]⟩)), (.row [(.call 2 0 [(.lit (.s ⟨#[103]⟩)), (.row [(.call 1 0 [(.lit (.i 0))])])]), (.call 1 0 [(.lit (.i 0))])])]), (.lit (.r []))])]), (.call 4 0 [(.lit (.i 0))])]), (.call 2 0 [(.lit (.s ⟨#[102]⟩)), (.row [(.call 2 0 [(.lit (.s ⟨#[103]⟩)), (.row [(.call 1 0 [(.lit (.i 4))])])]), (.call 1 0 [(.lit (.i 4))])])])])) (.eq (.call 9 0 [(.call 3 3 [(.call 3 3 [(.call 0 0 [(.lit (.i 10))]), (.call 2 0 [(.lit (.s ⟨#[102]⟩)), (.row [(.call 2 0 [(.lit (.s ⟨#[103]⟩)), (.row [(.call 1 0 [(.lit (.i 0))])])]), (.call 1 0 [(.lit (.i 0))])])]), (.lit (.r []))]), (.call 1 0 [(.lit (.i 1))]), (.call 3 1 [(.call 0 0 [(.lit (.i 10))]), (.call 2 0 [(.lit (.s ⟨#[102]⟩)), (.row [(.call 2 0 [(.lit (.s ⟨#[103]⟩)), (.row [(.call 1 0 [(.lit (.i 0))])])]), (.call 1 0 [(.lit (.i 0))])])]), (.lit (.r []))])]), (.call 5 0 [(.lit (.i 2))])]) (.call 5 0 [(.lit (.i 4))]))) (.eq (.call 9 0 [(.call 3 3 [(.call 3 3 [(.call 0 0 [(.lit (.i 10))]), (.call 2 0 [(.lit (.s ⟨#[102]⟩)), (.row [(.call 2 0 [(.lit (.s ⟨#[103]⟩)), (.row [(.call 1 0 [(.lit (.i 0))])])]), (.call 1 0 [(.lit (.i 0))])])]), (.lit (.r []))]), (.call 1 0 [(.lit (.i 1))]), (.call 3 1 [(.call 0 0 [(.lit (.i 10))]), (.call 2 0 [(.lit (.s ⟨#[102]⟩)), (.row [(.call 2 0 [(.lit (.s ⟨#[103]⟩)), (.row [(.call 1 0 [(.lit (.i 0))])])]), (.call 1 0 [(.lit (.i 0))])])]), (.lit (.r []))])]), (.call 5 0 [(.lit (.i 1))])]) (.call 4 0 [(.lit (.i 3))]))) (.lt (.lit (.i 1)) (.len (.fld (.call 3 3 [(.call 3 3 [(.call 0 0 [(.lit (.i 10))]), (.call 2 0 [(.lit (.s ⟨#[102]⟩)), (.row [(.call 2 0 [(.lit (.s ⟨#[103]⟩)), (.row [(.call 1 0 [(.lit (.i 0))])])]), (.call 1 0 [(.lit (.i 0))])])]), (.lit (.r []))]), (.call 1 0 [(.lit (.i 1))]), (.call 3 1 [(.call 0 0 [(.lit (.i 10))]), (.call 2 0 [(.lit (.s ⟨#[102]⟩)), (.row [(.call 2 0 [(.lit (.s ⟨#[103]⟩)), (.row [(.call 1 0 [(.lit (.i 0))])])]), (.call 1 0 [(.lit (.i 0))])])]), (.lit (.r []))])]) 1)))), (.imp (.and (.and (.and (.and (.and (.eq (.call 3 2 [(.call 3 3 [(.call 0 0 [(.lit (.i 10))]), (.call 2 0 [(.lit (.s ⟨#[102]⟩)), (.row [(.call 2 0 [(.lit (.s ⟨#[103]⟩)), (.row [(.call 1 0 [(.lit (.i 0))])])]), (.call 1 0 [(.lit (.i 0))])])]), (.lit (.r []))]), (.call 1 0 [(.lit (.i 1))]), (.call 3 1 [(.call 0 0 [(.lit (.i 10))]), (.call 2 0 [(.lit (.s ⟨#[102]⟩)), (.row [(.call 2 0 [(.lit (.s ⟨#[103]⟩)), (.row [(.call 1 0 [(.lit (.i 0))])])]), (.call 1 0 [(.lit (.i 0))])])]), (.lit (.r []))])]) (.lit (.i 0))) (.eq (.call 3 0 [(.call 3 3 [(.call 0 0 [(.lit (.i 10))]), (.call 2 0 [(.lit (.s ⟨#[102]⟩)), (.row [(.call 2 0 [(.lit (.s ⟨#[103]⟩)), (.row [(.call 1 0 [(.lit (.i 0))])])]), (.call 1 0 [(.lit (.i 0))])])]), (.lit (.r []))]), (.call 1 0 [(.lit (.i 1))]), (.call 3 1 [(.call 0 0 [(.lit (.i 10))]), (.call 2 0 [(.lit (.s ⟨#[102]⟩)), (.row [(.call 2 0 [(.lit (.s ⟨#[103]⟩)), (.row [(.call 1 0 [(.lit (.i 0))])])]), (.call 1 0 [(.lit (.i 0))])])]), (.lit (.r []))])]) (.call 5 0 [(.lit (.i 5))]))) (.call 6 0 [(.call 3 1 [(.call 3 3 [(.call 0 0 [(.lit (.i 10))]), (.call 2 0 [(.lit (.s ⟨#[102]⟩)), (.row [(.call 2 0 [(.lit (.s ⟨#[103]⟩)), (.row [(.call 1 0 [(.lit (.i 0))])])]), (.call 1 0 [(.lit (.i 0))])])]), (.lit (.r []))]), (.call 1 0 [(.lit (.i 1))]), (.call 3 1 [(.call 0 0 [(.lit (.i 10))]), (.call 2 0 [(.lit (.s ⟨#[102]⟩)), (.row [(.call 2 0 [(.lit (.s ⟨#[103]⟩)), (.row [(.call 1 0 [(.lit (.i 0))])])]), (.call 1 0 [(.lit (.i 0))])])]), (.lit (.r []))])]), (.row [(.mk [(.lit (.i 0)), (.call 5 0 [(.lit (.i 4))])]), (.mk [(.lit (.i 1)), (.call 5 0 [(.lit (.i 5))])])])])) (.eq (.call 7 1 [(.call 3 3 [(.call 3 3 [(.call 0 0 [(.lit (.i 10))]), (.call 2 0 [(.lit (.s ⟨#[102]⟩)), (.row [(.call 2 0 [(.lit (.s ⟨#[103]⟩)), (.row [(.call 1 0 [(.lit (.i 0))])])]), (.call 1 0 [(.lit (.i 0))])])]), (.lit (.r []))]), (.call 1 0 [(.lit (.i 1))]), (.call 3 1 [(.call 0 0 [(.lit (.i 10))]), (.call 2 0 [(.lit (.s ⟨#[102]⟩)), (.row [(.call 2 0 [(.lit (.s ⟨#[103]⟩)), (.row [(.call 1 0 [(.lit (.i 0))])])]), (.call 1 0 [(.lit (.i 0))])])]), (.lit (.r []))])]), (.call 4 0 [(.lit (.i 0))])]) (.lit (.i 0)))) (.call 8 0 [(.call 7 0 [(.call 3 3 [(.call 3 3 [(.call 0 0 [(.lit (.i 10))]), (.call 2 0 [(.lit (.s ⟨#[102]⟩)), (.row [(.call 2 0 [(.lit (.s ⟨#[103]⟩)), (.row [(.call 1 0 [(.lit (.i 0))])])]), (.call 1 0 [(.lit (.i 0))])])]), (.lit (.r []))]), (.call 1 0 [(.lit (.i 1))]), (.call 3 1 [(.call 0 0 [(.lit (.i 10))]), (.call 2 0 [(.lit (.s ⟨#[102]⟩)), (.row [(.call 2 0 [(.lit (.s ⟨#[103]⟩)), (.row [(.call 1 0 [(.lit (.i 0))])])]), (.call 1 0 [(.lit (.i 0))])])]), (.lit (.r []))])]), (.call 4 0 [(.lit (.i 0))])]), (.call 2 0 [(.lit (.s ⟨#[102]⟩)), (.row [(.call 2 0 [(.lit (.s ⟨#[103]⟩)), (.row [(.call 1 0 [(.lit (.i 4))])])]), (.call 1 0 [(.lit (.i 4))])])])])) (.eq (.call 9 0 [(.call 3 3 [(.call 3 3 [(.call 0 0 [(.lit (.i 10))]), (.call 2 0 [(.lit (.s ⟨#[102]⟩)), (.row [(.call 2 0 [(.lit (.s ⟨#[103]⟩)), (.row [(.call 1 0 [(.lit (.i 0))])])]), (.call 1 0 [(.lit (.i 0))])])]), (.lit (.r []))]), (.call 1 0 [(.lit (.i 1))]), (.call 3 1 [(.call 0 0 [(.lit (.i 10))]), (.call 2 0 [(.lit (.s ⟨#[102]⟩)), (.row [(.call 2 0 [(.lit (.s ⟨#[103]⟩)), (.row [(.call 1 0 [(.lit (.i 0))])])]), (.call 1 0 [(.lit (.i 0))])])]), (.lit (.r []))])]), (.call 5 0 [(.lit (.i 2))])]) (.call 5 0 [(.lit (.i 4))]))) (.ok 4 [(.lit (.i 3))])), (.imp (.and (.and (.and (.and (.and (.eq (.call 3 2 [(.call 3 3 [(.call 0 0 [(.lit (.i 10))]), (.call 2 0 [(.lit (.s ⟨#[102]⟩)), (.row [(.call 2 0 [(.lit (.s ⟨#[103]⟩)), (.row [(.call 1 0 [(.lit (.i 0))])])]), (.call 1 0 [(.lit (.i 0))])])]), (.lit (.r []))]), (.call 1 0 [(.lit (.i 1))]), (.call 3 1 [(.call 0 0 [(.lit (.i 10))]), (.call 2 0 [(.lit (.s ⟨#[102]⟩)), (.row [(.call 2 0 [(.lit (.s ⟨#[103]⟩)), (.row [(.call 1 0 [(.lit (.i 0))])])]), (.call 1 0 [(.lit (.i 0))])])]), (.lit (.r []))])]) (.lit (.i 0))) (.eq (.call 3 0 [(.call 3 3 [(.call 0 0 [(.lit (.i 10))]), (.call 2 0 [(.lit (.s ⟨#[102]⟩)), (.row [(.call 2 0 [(.lit (.s ⟨#[103]⟩)), (.row [(.call 1 0 [(.lit (.i 0))])])]), (.call 1 0 [(.lit (.i 0))])])]), (.lit (.r []))]), (.call 1 0 [(.lit (.i 1))]), (.call 3 1 [(.call 0 0 [(.lit (.i 10))]), (.call 2 0 [(.lit (.s ⟨#[102]⟩)), (.row [(.call 2 0 [(.lit (.s ⟨#[103]⟩)), (.row [(.call 1 0 [(.lit (.i 0))])])]), (.call 1 0 [(.lit (.i 0))])])]), (.lit (.r []))])]) (.call 5 0 [(.lit (.i 5))]))) (.call 6 0 [(.call 3 1 [(.call 3 3 [(.call 0 0 [(.lit (.i 10))]), (.call 2 0 [(.lit (.s ⟨#[102]⟩)), (.row [(.call 2 0 [(.lit (.s ⟨#[103]⟩)), (.row [(.call 1 0 [(.lit (.i 0))])])]), (.call 1 0 [(.lit (.i 0))])])]), (.lit (.r []))]), (.call 1 0 [(.lit (.i 1))]), (.call 3 1 [(.call 0 0 [(.lit (.i 10))]), (.call 2 0 [(.lit (.s ⟨#[102]⟩)), (.row [(.call 2 0 [(.lit (.s ⟨#[103]⟩)), (.row [(.call 1 0 [(.lit (.i 0))])])]), (.call 1 0 [(.lit (.i 0))])])]), (.lit (.r []))])]), (.row [(.mk [(.lit (.i 0)), (.call 5 0 [(.lit (.i 4))])]), (.mk [(.lit (.i 1)), (.call 5 0 [(.lit (.i 5))])])])])) (.eq (.call 7 1 [(.call 3 3 [(.call 3 3 [(.call 0 0 [(.lit (.i 10))]), (.call 2 0 [(.lit (.s ⟨#[102]⟩)), (.row [(.call 2 0 [(.lit (.s ⟨#[103]⟩)), (.row [(.call 1 0 [(.lit (.i 0))])])]), (.call 1 0 [(.lit (.i 0))])])]), (.lit (.r []))]), (.call 1 0 [(.lit (.i 1))]), (.call 3 1 [(.call 0 0 [(.lit (.i 10))]), (.call 2 0 [(.lit (.s ⟨#[102]⟩)), (.row [(.call 2 0 [(.lit (.s ⟨#[103]⟩)), (.row [(.call 1 0 [(.lit (.i 0))])])]), (.call 1 0 [(.lit (.i 0))])])]), (.lit (.r []))])]), (.call 4 0 [(.lit (.i 0))])]) (.lit (.i 0)))) (.call 8 0 [(.call 7 0 [(.call 3 3 [(.call 3 3 [(.call 0 0 [(.lit (.i 10))]), (.call 2 0 [(.lit (.s ⟨#[102]⟩)), (.row [(.call 2 0 [(.lit (.s ⟨#[103]⟩)), (.row [(.call 1 0 [(.lit (.i 0))])])]), (.call 1 0 [(.lit (.i 0))])])]), (.lit (.r []))]), (.call 1 0 [(.lit (.i 1))]), (.call 3 1 [(.call 0 0 [(.lit (.i 10))]), (.call 2 0 [(.lit (.s ⟨#[102]⟩)), (.row [(.call 2 0 [(.lit (.s ⟨#[103]⟩)), (.row [(.call 1 0 [(.lit (.i 0))])])]), (.call 1 0 [(.lit (.i 0))])])]), (.lit (.r []))])]), (.call 4 0 [(.lit (.i 0))])]), (.call 2 0 [(.lit (.s ⟨#[102]⟩)), (.row [(.call 2 0 [(.lit (.s ⟨#[103]⟩)), (.row [(.call 1 0 [(.lit (.i 4))])])]), (.call 1 0 [(.lit (.i 4))])])])])) (.eq (.call 9 0 [(.call 3 3 [(.call 3 3 [(.call 0 0 [(.lit (.i 10))]), (.call 2 0 [(.lit (.s ⟨#[102]⟩)), (.row [(.call 2 0 [(.lit (.s ⟨#[103]⟩)), (.row [(.call 1 0 [(.lit (.i 0))])])]), (.call 1 0 [(.lit (.i 0))])])]), (.lit (.r []))]), (.call 1 0 [(.lit (.i 1))]), (.call 3 1 [(.call 0 0 [(.lit (.i 10))]), (.call 2 0 [(.lit (.s ⟨#[102]⟩)), (.row [(.call 2 0 [(.lit (.s ⟨#[103]⟩)), (.row [(.call 1 0 [(.lit (.i 0))])])]), (.call 1 0 [(.lit (.i 0))])])]), (.lit (.r []))])]), (.call 5 0 [(.lit (.i 2))])]) (.call 5 0 [(.lit (.i 4))]))) (.ok 9 [(.call 3 3 [(.call 3 3 [(.call 0 0 [(.lit (.i 10))]), (.call 2 0 [(.lit (.s ⟨#[102]⟩)), (.row [(.call 2 0 [(.lit (.s ⟨#[103]⟩)), (.row [(.call 1 0 [(.lit (.i 0))])])]), (.call 1 0 [(.lit (.i 0))])])]), (.lit (.r []))]), (.call 1 0 [(.lit (.i 1))]), (.call 3 1 [(.call 0 0 [(.lit (.i 10))]), (.call 2 0 [(.lit (.s ⟨#[102]⟩)), (.row [(.call 2 0 [(.lit (.s ⟨#[103]⟩)), (.row [(.call 1 0 [(.lit (.i 0))])])]), (.call 1 0 [(.lit (.i 0))])])]), (.lit (.r []))])]), (.call 5 0 [(.lit (.i 1))])])), (.imp (.and (.and (.and (.and (.and (.eq (.call 3 2 [(.call 3 3 [(.call 0 0 [(.lit (.i 10))]), (.call 2 0 [(.lit (.s ⟨#[102]⟩)), (.row [(.call 2 0 [(.lit (.s ⟨#[103]⟩)), (.row [(.call 1 0 [(.lit (.i 0))])])]), (.call 1 0 [(.lit (.i 0))])])]), (.lit (.r []))]), (.call 1 0 [(.lit (.i 1))]), (.call 3 1 [(.call 0 0 [(.lit (.i 10))]), (.call 2 0 [(.lit (.s ⟨#[102]⟩)), (.row [(.call 2 0 [(.lit (.s ⟨#[103]⟩)), (.row [(.call 1 0 [(.lit (.i 0))])])]), (.call 1 0 [(.lit (.i 0))])])]), (.lit (.r []))])]) (.lit (.i 0))) (.eq (.call 3 0 [(.call 3 3 [(.call 0 0 [(.lit (.i 10))]), (.call 2 0 [(.lit (.s ⟨#[102]⟩)), (.row [(.call 2 0 [(.lit (.s ⟨#[103]⟩)), (.row [(.call 1 0 [(.lit (.i 0))])])]), (.call 1 0 [(.lit (.i 0))])])]), (.lit (.r []))]), (.call 1 0 [(.lit (.i 1))]), (.call 3 1 [(.call 0 0 [(.lit (.i 10))]), (.call 2 0 [(.lit (.s ⟨#[102]⟩)), (.row [(.call 2 0 [(.lit (.s ⟨#[103]⟩)), (.row [(.call 1 0 [(.lit (.i 0))])])]), (.call 1 0 [(.lit (.i 0))])])]), (.lit (.r []))])]) (.call 5 0 [(.lit (.i 5))]))) (.call 6 0 [(.call 3 1 [(.call 3 3 [(.call 0 0 [(.lit (.i 10))]), (.call 2 0 [(.lit (.s ⟨#[102]⟩)), (.row [(.call 2 0 [(.lit (.s ⟨#[103]⟩)), (.row [(.call 1 0 [(.lit (.i 0))])])]), (.call 1 0 [(.lit (.i 0))])])]), (.lit (.r []))]), (.call 1 0 [(.lit (.i 1))]), (.call 3 1 [(.call 0 0 [(.lit (.i 10))]), (.call 2 0 [(.lit (.s ⟨#[102]⟩)), (.row [(.call 2 0 [(.lit (.s ⟨#[103]⟩)), (.row [(.call 1 0 [(.lit (.i 0))])])]), (.call 1 0 [(.lit (.i 0))])])]), (.lit (.r []))])]), (.row [(.mk [(.lit (.i 0)), (.call 5 0 [(.lit (.i 4))])]), (.mk [(.lit (.i 1)), (.call 5 0 [(.lit (.i 5))])])])])) (.eq (.call 7 1 [(.call 3 3 [(.call 3 3 [(.call 0 0 [(.lit (.i 10))]), (.call 2 0 [(.lit (.s ⟨#[102]⟩)), (.row [(.call 2 0 [(.lit (.s ⟨#[103]⟩)), (.row [(.call 1 0 [(.lit (.i 0))])])]), (.call 1 0 [(.lit (.i 0))])])]), (.lit (.r []))]), (.call 1 0 [(.lit (.i 1))]), (.call 3 1 [(.call 0 0 [(.lit (.i 10))]), (.call 2 0 [(.lit (.s ⟨#[102]⟩)), (.row [(.call 2 0 [(.lit (.s ⟨#[103]⟩)), (.row [(.call 1 0 [(.lit (.i 0))])])]), (.call 1 0 [(.lit (.i 0))])])]), (.lit (.r []))])]), (.call 4 0 [(.lit (.i 0))])]) (.lit (.i 0)))) (.call 8 0 [(.call 7 0 [(.call 3 3 [(.call 3 3 [(.call 0 0 [(.lit (.i 10))]), (.call 2 0 [(.lit (.s ⟨#[102]⟩)), (.row [(.call 2 0 [(.lit (.s ⟨#[103]⟩)), (.row [(.call 1 0 [(.lit (.i 0))])])]), (.call 1 0 [(.lit (.i 0))])])]), (.lit (.r []))]), (.call 1 0 [(.lit (.i 1))]), (.call 3 1 [(.call 0 0 [(.lit (.i 10))]), (.call 2 0 [(.lit (.s ⟨#[102]⟩)), (.row [(.call 2 0 [(.lit (.s ⟨#[103]⟩)), (.row [(.call 1 0 [(.lit (.i 0))])])]), (.call 1 0 [(.lit (.i 0))])])]), (.lit (.r []))])]), (.call 4 0 [(.lit (.i 0))])]), (.call 2 0 [(.lit (.s ⟨#[102]⟩)), (.row [(.call 2 0 [(.lit (.s ⟨#[103]⟩)), (.row [(.call 1 0 [(.lit (.i 4))])])]), (.call 1 0 [(.lit (.i 4))])])])])) (.eq (.call 9 0 [(.call 3 3 [(.call 3 3 [(.call 0 0 [(.lit (.i 10))]), (.call 2 0 [(.lit (.s ⟨#[102]⟩)), (.row [(.call 2 0 [(.lit (.s ⟨#[103]⟩)), (.row [(.call 1 0 [(.lit (.i 0))])])]), (.call 1 0 [(.lit (.i 0))])])]), (.lit (.r []))]), (.call 1 0 [(.lit (.i 1))]), (.call 3 1 [(.call 0 0 [(.lit (.i 10))]), (.call 2 0 [(.lit (.s ⟨#[102]⟩)), (.row [(.call 2 0 [(.lit (.s ⟨#[103]⟩)), (.row [(.call 1 0 [(.lit (.i 0))])])]), (.call 1 0 [(.lit (.i 0))])])]), (.lit (.r []))])]), (.call 5 0 [(.lit (.i 2))])]) (.call 5 0 [(.lit (.i 4))]))) (.ok 5 [(.lit (.i 1))])), (.imp (.and (.and (.and (.and (.eq (.call 3 2 [(.call 3 3 [(.call 0 0 [(.lit (.i 10))]), (.call 2 0 [(.lit (.s ⟨#[102]⟩)), (.row [(.call 2 0 [(.lit (.s ⟨#[103]⟩)), (.row [(.call 1 0 [(.lit (.i 0))])])]), (.call 1 0 [(.lit (.i 0))])])]), (.lit (.r []))]), (.call 1 0 [(.lit (.i 1))]), (.call 3 1 [(.call 0 0 [(.lit (.i 10))]), (.call 2 0 [(.lit (.s ⟨#[102]⟩)), (.row [(.call 2 0 [(.lit (.s ⟨#[103]⟩)), (.row [(.call 1 0 [(.lit (.i 0))])])]), (.call 1 0 [(.lit (.i 0))])])]), (.lit (.r []))])]) (.lit (.i 0))) (.eq (.call 3 0 [(.call 3 3 [(.call 0 0 [(.lit (.i 10))]), (.call 2 0 [(.lit (.s ⟨#[102]⟩)), (.row [(.call 2 0 [(.lit (.s ⟨#[103]⟩)), (.row [(.call 1 0 [(.lit (.i 0))])])]), (.call 1 0 [(.lit (.i 0))])])]), (.lit (.r []))]), (.call 1 0 [(.lit (.i 1))]), (.call 3 1 [(.call 0 0 [(.lit (.i 10))]), (.call 2 0 [(.lit (.s ⟨#[102]⟩)), (.row [(.call 2 0 [(.lit (.s ⟨#[103]⟩)), (.row [(.call 1 0 [(.lit (.i 0))])])]), (.call 1 0 [(.lit (.i 0))])])]), (.lit (.r []))])]) (.call 5 0 [(.lit (.i 5))]))) (.call 6 0 [(.call 3 1 [(.call 3 3 [(.call 0 0 [(.lit (.i 10))]), (.call 2 0 [(.lit (.s ⟨#[102]⟩)), (.row [(.call 2 0 [(.lit (.s ⟨#[103]⟩)), (.row [(.call 1 0 [(.lit (.i 0))])])]), (.call 1 0 [(.lit (.i 0))])])]), (.lit (.r []))]), (.call 1 0 [(.lit (.i 1))]), (.call 3 1 [(.call 0 0 [(.lit (.i 10))]), (.call 2 0 [(.lit (.s ⟨#[102]⟩)), (.row [(.call 2 0 [(.lit (.s ⟨#[103]⟩)), (.row [(.call 1 0 [(.lit (.i 0))])])]), (.call 1 0 [(.lit (.i 0))])])]), (.lit (.r []))])]), (.row [(.mk [(.lit (.i 0)), (.call 5 0 [(.lit (.i 4))])]), (.mk [(.lit (.i 1)), (.call 5 0 [(.lit (.i 5))])])])])) (.eq (.call 7 1 [(.call 3 3 [(.call 3 3 [(.call 0 0 [(.lit (.i 10))]), (.call 2 0 [(.lit (.s ⟨#[102]⟩)), (.row [(.call 2 0 [(.lit (.s ⟨#[103]⟩)), (.row [(.call 1 0 [(.lit (.i 0))])])]), (.call 1 0 [(.lit (.i 0))])])]), (.lit (.r []))]), (.call 1 0 [(.lit (.i 1))]), (.call 3 1 [(.call 0 0 [(.lit (.i 10))]), (.call 2 0 [(.lit (.s ⟨#[102]⟩)), (.row [(.call 2 0 [(.lit (.s ⟨#[103]⟩)), (.row [(.call 1 0 [(.lit (.i 0))])])]), (.call 1 0 [(.lit (.i 0))])])]), (.lit (.r []))])]), (.call 4 0 [(.lit (.i 0))])]) (.lit (.i 0)))) (.call 8 0 [(.call 7 0 [(.call 3 3 [(.call 3 3 [(.call 0 0 [(.lit (.i 10))]), (.call 2 0 [(.lit (.s ⟨#[102]⟩)), (.row [(.call 2 0 [(.lit (.s ⟨#[103]⟩)), (.row [(.call 1 0 [(.lit (.i 0))])])]), (.call 1 0 [(.lit (.i 0))])])]), (.lit (.r []))]), (.call 1 0 [(.lit (.i 1))]), (.call 3 1 [(.call 0 0 [(.lit (.i 10))]), (.call 2 0 [(.lit (.s ⟨#[102]⟩)), (.row [(.call 2 0 [(.lit (.s ⟨#[103]⟩)), (.row [(.call 1 0 [(.lit (.i 0))])])]), (.call 1 0 [(.lit (.i 0))])])]), (.lit (.r []))])]), (.call 4 0 [(.lit (.i 0))])]), (.call 2 0 [(.lit (.s ⟨#[102]⟩)), (.row [(.call 2 0 [(.lit (.s ⟨#[103]⟩)), (.row [(.call 1 0 [(.lit (.i 4))])])]), (.call 1 0 [(.lit (.i 4))])])])])) (.ok 5 [(.lit (.i 4))])), (.imp (.and (.and (.and (.and (.eq (.call 3 2 [(.call 3 3 [(.call 0 0 [(.lit (.i 10))]), (.call 2 0 [(.lit (.s ⟨#[102]⟩)), (.row [(.call 2 0 [(.lit (.s ⟨#[103]⟩)), (.row [(.call 1 0 [(.lit (.i 0))])])]), (.call 1 0 [(.lit (.i 0))])])]), (.lit (.r []))]), (.call 1 0 [(.lit (.i 1))]), (.call 3 1 [(.call 0 0 [(.lit (.i 10))]), (.call 2 0 [(.lit (.s ⟨#[102]⟩)), (.row [(.call 2 0 [(.lit (.s ⟨#[103]⟩)), (.row [(.call 1 0 [(.lit (.i 0))])])]), (.call 1 0 [(.lit (.i 0))])])]), (.lit (.r []))])]) (.lit (.i 0))) (.eq (.call 3 0 [(.call 3 3 [(.call 0 0 [(.lit (.i 10))]), (.call 2 0 [(.lit (.s ⟨#[102]⟩)), (.row [(.call 2 0 [(.lit (.s ⟨#[103]⟩)), (.row [(.call 1 0 [(.lit (.i 0))])])]), (.call 1 0 [(.lit (.i 0))])])]), (.lit (.r []))]), (.call 1 0 [(.lit (.i 1))]), (.call 3 1 [(.call 0 0 [(.lit (.i 10))]), (.call 2 0 [(.lit (.s ⟨#[102]⟩)), (.row [(.call 2 0 [(.lit (.s ⟨#[103]⟩)), (.row [(.call 1 0 [(.lit (.i 0))])])]), (.call 1 0 [(.lit (.i 0))])])]), (.lit (.r []))])]) (.call 5 0 [(.lit (.i 5))]))) (.call 6 0 [(.call 3 1 [(.call 3 3 [(.call 0 0 [(.lit (.i 10))]), (.call 2 0 [(.lit (.s ⟨#[102]⟩)), (.row [(.call 2 0 [(.lit (.s ⟨#[103]⟩)), (.row [(.call 1 0 [(.lit (.i 0))])])]), (.call 1 0 [(.lit (.i 0))])])]), (.lit (.r []))]), (.call 1 0 [(.lit (.i 1))]), (.call 3 1 [(.call 0 0 [(.lit (.i 10))]), (.call 2 0 [(.lit (.s ⟨#[102]⟩)), (.row [(.call 2 0 [(.lit (.s ⟨#[103]⟩)), (.row [(.call 1 0 [(.lit (.i 0))])])]), (.call 1 0 [(.lit (.i 0))])])]), (.lit (.r []))])]), (.row [(.mk [(.lit (.i 0)), (.call 5 0 [(.lit (.i 4))])]), (.mk [(.lit (.i 1)), (.call 5 0 [(.lit (.i 5))])])])])) (.eq (.call 7 1 [(.call 3 3 [(.call 3 3 [(.call 0 0 [(.lit (.i 10))]), (.call 2 0 [(.lit (.s ⟨#[102]⟩)), (.row [(.call 2 0 [(.lit (.s ⟨#[103]⟩)), (.row [(.call 1 0 [(.lit (.i 0))])])]), (.call 1 0 [(.lit (.i 0))])])]), (.lit (.r []))]), (.call 1 0 [(.lit (.i 1))]), (.call 3 1 [(.call 0 0 [(.lit (.i 10))]), (.call 2 0 [(.lit (.s ⟨#[102]⟩)), (.row [(.call 2 0 [(.lit (.s ⟨#[103]⟩)), (.row [(.call 1 0 [(.lit (.i 0))])])]), (.call 1 0 [(.lit (.i 0))])])]), (.lit (.r []))])]), (.call 4 0 [(.lit (.i 0))])]) (.lit (.i 0)))) (.call 8 0 [(.call 7 0 [(.call 3 3 [(.call 3 3 [(.call 0 0 [(.lit (.i 10))]), (.call 2 0 [(.lit (.s ⟨#[102]⟩)), (.row [(.call 2 0 [(.lit (.s ⟨#[103]⟩)), (.row [(.call 1 0 [(.lit (.i 0))])])]), (.call 1 0 [(.lit (.i 0))])])]), (.lit (.r []))]), (.call 1 0 [(.lit (.i 1))]), (.call 3 1 [(.call 0 0 [(.lit (.i 10))]), (.call 2 0 [(.lit (.s ⟨#[102]⟩)), (.row [(.call 2 0 [(.lit (.s ⟨#[103]⟩)), (.row [(.call 1 0 [(.lit (.i 0))])])]), (.call 1 0 [(.lit (.i 0))])])]), (.lit (.r []))])]), (.call 4 0 [(.lit (.i 0))])]), (.call 2 0 [(.lit (.s ⟨#[102]⟩)), (.row [(.call 2 0 [(.lit (.s ⟨#[103]⟩)), (.row [(.call 1 0 [(.lit (.i 4))])])]), (.call 1 0 [(.lit (.i 4))])])])])) (.ok 9 [(.call 3 3 [(.call 3 3 [(.call 0 0 [(.lit (.i 10))]), (.call 2 0 [(.lit (.s ⟨#[102]⟩)), (.row [(.call 2 0 [(.lit (.s ⟨#[103]⟩)), (.row [(.call 1 0 [(.lit (.i 0))])])]), (.call 1 0 [(.lit (.i 0))])])]), (.lit (.r []))]), (.call 1 0 [(.lit (.i 1))]), (.call 3 1 [(.call 0 0 [(.lit (.i 10))]), (.call 2 0 [(.lit (.s ⟨#[102]⟩)), (.row [(.call 2 0 [(.lit (.s ⟨#[103]⟩)), (.row [(.call 1 0 [(.lit (.i 0))])])]), (.call 1 0 [(.lit (.i 0))])])]), (.lit (.r []))])]), (.call 5 0 [(.lit (.i 2))])])), (.imp (.and (.and (.and (.and (.eq (.call 3 2 [(.call 3 3 [(.call 0 0 [(.lit (.i 10))]), (.call 2 0 [(.lit (.s ⟨#[102]⟩)), (.row [(.call 2 0 [(.lit (.s ⟨#[103]⟩)), (.row [(.call 1 0 [(.lit (.i 0))])])]), (.call 1 0 [(.lit (.i 0))])])]), (.lit (.r []))]), (.call 1 0 [(.lit (.i 1))]), (.call 3 1 [(.call 0 0 [(.lit (.i 10))]), (.call 2 0 [(.lit (.s ⟨#[102]⟩)), (.row [(.call 2 0 [(.lit (.s ⟨#[103]⟩)), (.row [(.call 1 0 [(.lit (.i 0))])])]), (.call 1 0 [(.lit (.i 0))])])]), (.lit (.r []))])]) (.lit (.i 0))) (.eq (.call 3 0 [(.call 3 3 [(.call 0 0 [(.lit (.i 10))]), (.call 2 0 [(.lit (.s ⟨#[102]⟩)), (.row [(.call 2 0 [(.lit (.s ⟨#[103]⟩)), (.row [(.call 1 0 [(.lit (.i 0))])])]), (.call 1 0 [(.lit (.i 0))])])]), (.lit (.r []))]), (.call 1 0 [(.lit (.i 1))]), (.call 3 1 [(.call 0 0 [(.lit (.i 10))]), (.call 2 0 [(.lit (.s ⟨#[102]⟩)), (.row [(.call 2 0 [(.lit (.s ⟨#[103]⟩)), (.row [(.call 1 0 [(.lit (.i 0))])])]), (.call 1 0 [(.lit (.i 0))])])]), (.lit (.r []))])]) (.call 5 0 [(.lit (.i 5))]))) (.call 6 0 [(.call 3 1 [(.call 3 3 [(.call 0 0 [(.lit (.i 10))]), (.call 2 0 [(.lit (.s ⟨#[102]⟩)), (.row [(.call 2 0 [(.lit (.s ⟨#[103]⟩)), (.row [(.call 1 0 [(.lit (.i 0))])])]), (.call 1 0 [(.lit (.i 0))])])]), (.lit (.r []))]), (.call 1 0 [(.lit (.i 1))]), (.call 3 1 [(.call 0 0 [(.lit (.i 10))]), (.call 2 0 [(.lit (.s ⟨#[102]⟩)), (.row [(.call 2 0 [(.lit (.s ⟨#[103]⟩)), (.row [(.call 1 0 [(.lit (.i 0))])])]), (.call 1 0 [(.lit (.i 0))])])]), (.lit (.r []))])]), (.row [(.mk [(.lit (.i 0)), (.call 5 0 [(.lit (.i 4))])]), (.mk [(.lit (.i 1)), (.call 5 0 [(.lit (.i 5))])])])])) (.eq (.call 7 1 [(.call 3 3 [(.call 3 3 [(.call 0 0 [(.lit (.i 10))]), (.call 2 0 [(.lit (.s ⟨#[102]⟩)), (.row [(.call 2 0 [(.lit (.s ⟨#[103]⟩)), (.row [(.call 1 0 [(.lit (.i 0))])])]), (.call 1 0 [(.lit (.i 0))])])]), (.lit (.r []))]), (.call 1 0 [(.lit (.i 1))]), (.call 3 1 [(.call 0 0 [(.lit (.i 10))]), (.call 2 0 [(.lit (.s ⟨#[102]⟩)), (.row [(.call 2 0 [(.lit (.s ⟨#[103]⟩)), (.row [(.call 1 0 [(.lit (.i 0))])])]), (.call 1 0 [(.lit (.i 0))])])]), (.lit (.r []))])]), (.call 4 0 [(.lit (.i 0))])]) (.lit (.i 0)))) (.call 8 0 [(.call 7 0 [(.call 3 3 [(.call 3 3 [(.call 0 0 [(.lit (.i 10))]), (.call 2 0 [(.lit (.s ⟨#[102]⟩)), (.row [(.call 2 0 [(.lit (.s ⟨#[103]⟩)), (.row [(.call 1 0 [(.lit (.i 0))])])]), (.call 1 0 [(.lit (.i 0))])])]), (.lit (.r []))]), (.call 1 0 [(.lit (.i 1))]), (.call 3 1 [(.call 0 0 [(.lit (.i 10))]), (.call 2 0 [(.lit (.s ⟨#[102]⟩)), (.row [(.call 2 0 [(.lit (.s ⟨#[103]⟩)), (.row [(.call 1 0 [(.lit (.i 0))])])]), (.call 1 0 [(.lit (.i 0))])])]), (.lit (.r []))])]), (.call 4 0 [(.lit (.i 0))])]), (.call 2 0 [(.lit (.s ⟨#[102]⟩)), (.row [(.call 2 0 [(.lit (.s ⟨#[103]⟩)), (.row [(.call 1 0 [(.lit (.i 4))])])]), (.call 1 0 [(.lit (.i 4))])])])])) (.ok 5 [(.lit (.i 2))])), (.imp (.and (.and (.and (.eq (.call 3 2 [(.call 3 3 [(.call 0 0 [(.lit (.i 10))]), (.call 2 0 [(.lit (.s ⟨#[102]⟩)), (.row [(.call 2 0 [(.lit (.s ⟨#[103]⟩)), (.row [(.call 1 0 [(.lit (.i 0))])])]), (.call 1 0 [(.lit (.i 0))])])]), (.lit (.r []))]), (.call 1 0 [(.lit (.i 1))]), (.call 3 1 [(.call 0 0 [(.lit (.i 10))]), (.call 2 0 [(.lit (.s ⟨#[102]⟩)), (.row [(.call 2 0 [(.lit (.s ⟨#[103]⟩)), (.row [(.call 1 0 [(.lit (.i 0))])])]), (.call 1 0 [(.lit (.i 0))])])]), (.lit (.r []))])]) (.lit (.i 0))) (.eq (.call 3 0 [(.call 3 3 [(.call 0 0 [(.lit (.i 10))]), (.call 2 0 [(.lit (.s ⟨#[102]⟩)), (.row [(.call 2 0 [(.lit (.s ⟨#[103]⟩)), (.row [(.call 1 0 [(.lit (.i 0))])])]), (.call 1 0 [(.lit (.i 0))])])]), (.lit (.r []))]), (.call 1 0 [(.lit (.i 1))]), (.call 3 1 [(.call 0 0 [(.lit (.i 10))]), (.call 2 0 [(.lit (.s ⟨#[102]⟩)), (.row [(.call 2 0 [(.lit (.s ⟨#[103]⟩)), (.row [(.call 1 0 [(.lit (.i 0))])])]), (.call 1 0 [(.lit (.i 0))])])]), (.lit (.r []))])]) (.call 5 0 [(.lit (.i 5))]))) (.call 6 0 [(.call 3 1 [(.call 3 3 [(.call 0 0 [(.lit (.i 10))]), (.call 2 0 [(.lit (.s ⟨#[102]⟩)), (.row [(.call 2 0 [(.lit (.s ⟨#[103]⟩)), (.row [(.call 1 0 [(.lit (.i 0))])])]), (.call 1 0 [(.lit (.i 0))])])]), (.lit (.r []))]), (.call 1 0 [(.lit (.i 1))]), (.call 3 1 [(.call 0 0 [(.lit (.i 10))]), (.call 2 0 [(.lit (.s ⟨#[102]⟩)), (.row [(.call 2 0 [(.lit (.s ⟨#[103]⟩)), (.row [(.call 1 0 [(.lit (.i 0))])])]), (.call 1 0 [(.lit (.i 0))])])]), (.lit (.r []))])]), (.row [(.mk [(.lit (.i 0)), (.call 5 0 [(.lit (.i 4))])]), (.mk [(.lit (.i 1)), (.call 5 0 [(.lit (.i 5))])])])])) (.eq (.call 7 1 [(.call 3 3 [(.call 3 3 [(.call 0 0 [(.lit (.i 10))]), (.call 2 0 [(.lit (.s ⟨#[102]⟩)), (.row [(.call 2 0 [(.lit (.s ⟨#[103]⟩)), (.row [(.call 1 0 [(.lit (.i 0))])])]), (.call 1 0 [(.lit (.i 0))])])]), (.lit (.r []))]), (.call 1 0 [(.lit (.i 1))]), (.call 3 1 [(.call 0 0 [(.lit (.i 10))]), (.call 2 0 [(.lit (.s ⟨#[102]⟩)), (.row [(.call 2 0 [(.lit (.s ⟨#[103]⟩)), (.row [(.call 1 0 [(.lit (.i 0))])])]), (.call 1 0 [(.lit (.i 0))])])]), (.lit (.r []))])]), (.call 4 0 [(.lit (.i 0))])]) (.lit (.i 0)))) (.ok 8 [(.call 7 0 [(.call 3 3 [(.call 3 3 [(.call 0 0 [(.lit (.i 10))]), (.call 2 0 [(.lit (.s ⟨#[102]⟩)), (.row [(.call 2 0 [(.lit (.s ⟨#[103]⟩)), (.row [(.call 1 0 [(.lit (.i 0))])])]), (.call 1 0 [(.lit (.i 0))])])]), (.lit (.r []))]), (.call 1 0 [(.lit (.i 1))]), (.call 3 1 [(.call 0 0 [(.lit (.i 10))]), (.call 2 0 [(.lit (.s ⟨#[102]⟩)), (.row [(.call 2 0 [(.lit (.s ⟨#[103]⟩)), (.row [(.call 1 0 [(.lit (.i 0))])])]), (.call 1 0 [(.lit (.i 0))])])]), (.lit (.r []))])]), (.call 4 0 [(.lit (.i 0))])]), (.call 2 0 [(.lit (.s ⟨#[102]⟩)), (.row [(.call 2 0 [(.lit (.s ⟨#[103]⟩)), (.row [(.call 1 0 [(.lit (.i 4))])])]), (.call 1 0 [(.lit (.i 4))])])])])), (.imp (.and (.and (.and (.eq (.call 3 2 [(.call 3 3 [(.call 0 0 [(.lit (.i 10))]), (.call 2 0 [(.lit (.s ⟨#[102]⟩)), (.row [(.call 2 0 [(.lit (.s ⟨#[103]⟩)), (.row [(.call 1 0 [(.lit (.i 0))])])]), (.call 1 0 [(.lit (.i 0))])])]), (.lit (.r []))]), (.call 1 0 [(.lit (.i 1))]), (.call 3 1 [(.call 0 0 [(.lit (.i 10))]), (.call 2 0 [(.lit (.s ⟨#[102]⟩)), (.row [(.call 2 0 [(.lit (.s ⟨#[103]⟩)), (.row [(.call 1 0 [(.lit (.i 0))])])]), (.call 1 0 [(.lit (.i 0))])])]), (.lit (.r []))])]) (.lit (.i 0))) (.eq (.call 3 0 [(.call 3 3 [(.call 0 0 [(.lit (.i 10))]), (.call 2 0 [(.lit (.s ⟨#[102]⟩)), (.row [(.call 2 0 [(.lit (.s ⟨#[103]⟩)), (.row [(.call 1 0 [(.lit (.i 0))])])]), (.call 1 0 [(.lit (.i 0))])])]), (.lit (.r []))]), (.call 1 0 [(.lit (.i 1))]), (.call 3 1 [(.call 0 0 [(.lit (.i 10))]), (.call 2 0 [(.lit (.s ⟨#[102]⟩)), (.row [(.call 2 0 [(.lit (.s ⟨#[103]⟩)), (.row [(.call 1 0 [(.lit (.i 0))])])]), (.call 1 0 [(.lit (.i 0))])])]), (.lit (.r []))])]) (.call 5 0 [(.lit (.i 5))]))) (.call 6 0 [(.call 3 1 [(.call 3 3 [(.call 0 0 [(.lit (.i 10))]), (.call 2 0 [(.lit (.s ⟨#[102]⟩)), (.row [(.call 2 0 [(.lit (.s ⟨#[103]⟩)), (.row [(.call 1 0 [(.lit (.i 0))])])]), (.call 1 0 [(.lit (.i 0))])])]), (.lit (.r []))]), (.call 1 0 [(.lit (.i 1))]), (.call 3 1 [(.call 0 0 [(.lit (.i 10))]), (.call 2 0 [(.lit (.s ⟨#[102]⟩)), (.row [(.call 2 0 [(.lit (.s ⟨#[103]⟩)), (.row [(.call 1 0 [(.lit (.i 0))])])]), (.call 1 0 [(.lit (.i 0))])])]), (.lit (.r []))])]), (.row [(.mk [(.lit (.i 0)), (.call 5 0 [(.lit (.i 4))])]), (.mk [(.lit (.i 1)), (.call 5 0 [(.lit (.i 5))])])])])) (.eq (.call 7 1 [(.call 3 3 [(.call 3 3 [(.call 0 0 [(.lit (.i 10))]), (.call 2 0 [(.lit (.s ⟨#[102]⟩)), (.row [(.call 2 0 [(.lit (.s ⟨#[103]⟩)), (.row [(.call 1 0 [(.lit (.i 0))])])]), (.call 1 0 [(.lit (.i 0))])])]), (.lit (.r []))]), (.call 1 0 [(.lit (.i 1))]), (.call 3 1 [(.call 0 0 [(.lit (.i 10))]), (.call 2 0 [(.lit (.s ⟨#[102]⟩)), (.row [(.call 2 0 [(.lit (.s ⟨#[103]⟩)), (.row [(.call 1 0 [(.lit (.i 0))])])]), (.call 1 0 [(.lit (.i 0))])])]), (.lit (.r []))])]), (.call 4 0 [(.lit (.i 0))])]) (.lit (.i 0)))) (.ok 2 [(.lit (.s ⟨#[102]⟩)), (.row [(.call 2 0 [(.lit (.s ⟨#[103]⟩)), (.row [(.call 1 0 [(.lit (.i 4))])])]), (.call 1 0 [(.lit (.i 4))])])])), (.imp (.and (.and (.and (.eq (.call 3 2 [(.call 3 3 [(.call 0 0 [(.lit (.i 10))]), (.call 2 0 [(.lit (.s ⟨#[102]⟩)), (.row [(.call 2 0 [(.lit (.s ⟨#[103]⟩)), (.row [(.call 1 0 [(.lit (.i 0))])])]), (.call 1 0 [(.lit (.i 0))])])]), (.lit (.r []))]), (.call 1 0 [(.lit (.i 1))]), (.call 3 1 [(.call 0 0 [(.lit (.i 10))]), (.call 2 0 [(.lit (.s ⟨#[102]⟩)), (.row [(.call 2 0 [(.lit (.s ⟨#[103]⟩)), (.row [(.call 1 0 [(.lit (.i 0))])])]), (.call 1 0 [(.lit (.i 0))])])]), (.lit (.r []))])]) (.lit (.i 0))) (.eq (.call 3 0 [(.call 3 3 [(.call 0 0 [(.lit (.i 10))]), (.call 2 0 [(.lit (.s ⟨#[102]⟩)), (.row [(.call 2 0 [(.lit (.s ⟨#[103]⟩)), (.row [(.call 1 0 [(.lit (.i 0))])])]), (.call 1 0 [(.lit (.i 0))])])]), (.lit (.r []))]), (.call 1 0 [(.lit (.i 1))]), (.call 3 1 [(.call 0 0 [(.lit (.i 10))]), (.call 2 0 [(.lit (.s ⟨#[102]⟩)), (.row [(.call 2 0 [(.lit (.s ⟨#[103]⟩)), (.row [(.call 1 0 [(.lit (.i 0))])])]), (.call 1 0 [(.lit (.i 0))])])]), (.lit (.r []))])]) (.call 5 0 [(.lit (.i 5))]))) (.call 6 0 [(.call 3 1 [(.call 3 3 [(.call 0 0 [(.lit (.i 10))]), (.call 2 0 [(.lit (.s ⟨#[102]⟩)), (.row [(.call 2 0 [(.lit (.s ⟨#[103]⟩)), (.row [(.call 1 0 [(.lit (.i 0))])])]), (.call 1 0 [(.lit (.i 0))])])]), (.lit (.r []))]), (.call 1 0 [(.lit (.i 1))]), (.call 3 1 [(.call 0 0 [(.lit (.i 10))]), (.call 2 0 [(.lit (.s ⟨#[102]⟩)), (.row [(.call 2 0 [(.lit (.s ⟨#[103]⟩)), (.row [(.call 1 0 [(.lit (.i 0))])])]), (.call 1 0 [(.lit (.i 0))])])]), (.lit (.r []))])]), (.row [(.mk [(.lit (.i 0)), (.call 5 0 [(.lit (.i 4))])]), (.mk [(.lit (.i 1)), (.call 5 0 [(.lit (.i 5))])])])])) (.eq (.call 7 1 [(.call 3 3 [(.call 3 3 [(.call 0 0 [(.lit (.i 10))]), (.call 2 0 [(.lit (.s ⟨#[102]⟩)), (.row [(.call 2 0 [(.lit (.s ⟨#[103]⟩)), (.row [(.call 1 0 [(.lit (.i 0))])])]), (.call 1 0 [(.lit (.i 0))])])]), (.lit (.r []))]), (.call 1 0 [(.lit (.i 1))]), (.call 3 1 [(.call 0 0 [(.lit (.i 10))]), (.call 2 0 [(.lit (.s ⟨#[102]⟩)), (.row [(.call 2 0 [(.lit (.s ⟨#[103]⟩)), (.row [(.call 1 0 [(.lit (.i 0))])])]), (.call 1 0 [(.lit (.i 0))])])]), (.lit (.r []))])]), (.call 4 0 [(.lit (.i 0))])]) (.lit (.i 0)))) (.ok 1 [(.lit (.i 4))])), (.imp (.and (.and (.and (.eq (.call 3 2 [(.call 3 3 [(.call 0 0 [(.lit (.i 10))]), (.call 2 0 [(.lit (.s ⟨#[102]⟩)), (.row [(.call 2 0 [(.lit (.s ⟨#[103]⟩)), (.row [(.call 1 0 [(.lit (.i 0))])])]), (.call 1 0 [(.lit (.i 0))])])]), (.lit (.r []))]), (.call 1 0 [(.lit (.i 1))]), (.call 3 1 [(.call 0 0 [(.lit (.i 10))]), (.call 2 0 [(.lit (.s ⟨#[102]⟩)), (.row [(.call 2 0 [(.lit (.s ⟨#[103]⟩)), (.row [(.call 1 0 [(.lit (.i 0))])])]), (.call 1 0 [(.lit (.i 0))])])]), (.lit (.r []))])]) (.lit (.i 0))) (.eq (.call 3 0 [(.call 3 3 [(.call 0 0 [(.lit (.i 10))]), (.call 2 0 [(.lit (.s ⟨#[102]⟩)), (.row [(.call 2 0 [(.lit (.s ⟨#[103]⟩)), (.row [(.call 1 0 [(.lit (.i 0))])])]), (.call 1 0 [(.lit (.i 0))])])]), (.lit (.r []))]), (.call 1 0 [(.lit (.i 1))]), (.call 3 1 [(.call 0 0 [(.lit (.i 10))]), (.call 2 0 [(.lit (.s ⟨#[102]⟩)), (.row [(.call 2 0 [(.lit (.s ⟨#[103]⟩)), (.row [(.call 1 0 [(.lit (.i 0))])])]), (.call 1 0 [(.lit (.i 0))])])]), (.lit (.r []))])]) (.call 5 0 [(.lit (.i 5))]))) (.call 6 0 [(.call 3 1 [(.call 3 3 [(.call 0 0 [(.lit (.i 10))]), (.call 2 0 [(.lit (.s ⟨#[102]⟩)), (.row [(.call 2 0 [(.lit (.s ⟨#[103]⟩)), (.row [(.call 1 0 [(.lit (.i 0))])])]), (.call 1 0 [(.lit (.i 0))])])]), (.lit (.r []))]), (.call 1 0 [(.lit (.i 1))]), (.call 3 1 [(.call 0 0 [(.lit (.i 10))]), (.call 2 0 [(.lit (.s ⟨#[102]⟩)), (.row [(.call 2 0 [(.lit (.s ⟨#[103]⟩)), (.row [(.call 1 0 [(.lit (.i 0))])])]), (.call 1 0 [(.lit (.i 0))])])]), (.lit (.r []))])]), (.row [(.mk [(.lit (.i 0)), (.call 5 0 [(.lit (.i 4))])]), (.mk [(.lit (.i 1)), (.call 5 0 [(.lit (.i 5))])])])])) (.eq (.call 7 1 [(.call 3 3 [(.call 3 3 [(.call 0 0 [(.lit (.i 10))]), (.call 2 0 [(.lit (.s ⟨#[102]⟩)), (.row [(.call 2 0 [(.lit (.s ⟨#[103]⟩)), (.row [(.call 1 0 [(.lit (.i 0))])])]), (.call 1 0 [(.lit (.i 0))])])]), (.lit (.r []))]), (.call 1 0 [(.lit (.i 1))]), (.call 3 1 [(.call 0 0 [(.lit (.i 10))]), (.call 2 0 [(.lit (.s ⟨#[102]⟩)), (.row [(.call 2 0 [(.lit (.s ⟨#[103]⟩)), (.row [(.call 1 0 [(.lit (.i 0))])])]), (.call 1 0 [(.lit (.i 0))])])]), (.lit (.r []))])]), (.call 4 0 [(.lit (.i 0))])]) (.lit (.i 0)))) (.ok 2 [(.lit (.s ⟨#[103]⟩)), (.row [(.call 1 0 [(.lit (.i 4))])])])), (.imp (.and (.and (.and (.eq (.call 3 2 [(.call 3 3 [(.call 0 0 [(.lit (.i 10))]), (.call 2 0 [(.lit (.s ⟨#[102]⟩)), (.row [(.call 2 0 [(.lit (.s ⟨#[103]⟩)), (.row [(.call 1 0 [(.lit (.i 0))])])]), (.call 1 0 [(.lit (.i 0))])])]), (.lit (.r []))]), (.call 1 0 [(.lit (.i 1))]), (.call 3 1 [(.call 0 0 [(.lit (.i 10))]), (.call 2 0 [(.lit (.s ⟨#[102]⟩)), (.row [(.call 2 0 [(.lit (.s ⟨#[103]⟩)), (.row [(.call 1 0 [(.lit (.i 0))])])]), (.call 1 0 [(.lit (.i 0))])])]), (.lit (.r []))])]) (.lit (.i 0))) (.eq (.call 3 0 [(.call 3 3 [(.call 0 0 [(.lit (.i 10))]), (.call 2 0 [(.lit (.s ⟨#[102]⟩)), (.row [(.call 2 0 [(.lit (.s ⟨#[103]⟩)), (.row [(.call 1 0 [(.lit (.i 0))])])]), (.call 1 0 [(.lit (.i 0))])])]), (.lit (.r []))]), (.call 1 0 [(.lit (.i 1))]), (.call 3 1 [(.call 0 0 [(.lit (.i 10))]), (.call 2 0 [(.lit (.s ⟨#[102]⟩)), (.row [(.call 2 0 [(.lit (.s ⟨#[103]⟩)), (.row [(.call 1 0 [(.lit (.i 0))])])]), (.call 1 0 [(.lit (.i 0))])])]), (.lit (.r []))])]) (.call 5 0 [(.lit (.i 5))]))) (.call 6 0 [(.call 3 1 [(.call 3 3 [(.call 0 0 [(.lit (.i 10))]), (.call 2 0 [(.lit (.s ⟨#[102]⟩)), (.row [(.call 2 0 [(.lit (.s ⟨#[103]⟩)), (.row [(.call 1 0 [(.lit (.i 0))])])]), (.call 1 0 [(.lit (.i 0))])])]), (.lit (.r []))]), (.call 1 0 [(.lit (.i 1))]), (.call 3 1 [(.call 0 0 [(.lit (.i 10))]), (.call 2 0 [(.lit (.s ⟨#[102]⟩)), (.row [(.call 2 0 [(.lit (.s ⟨#[103]⟩)), (.row [(.call 1 0 [(.lit (.i 0))])])]), (.call 1 0 [(.lit (.i 0))])])]), (.lit (.r []))])]), (.row [(.mk [(.lit (.i 0)), (.call 5 0 [(.lit (.i 4))])]), (.mk [(.lit (.i 1)), (.call 5 0 [(.lit (.i 5))])])])])) (.eq (.call 7 1 [(.call 3 3 [(.call 3 3 [(.call 0 0 [(.lit (.i 10))]), (.call 2 0 [(.lit (.s ⟨#[102]⟩)), (.row [(.call 2 0 [(.lit (.s ⟨#[103]⟩)), (.row [(.call 1 0 [(.lit (.i 0))])])]), (.call 1 0 [(.lit (.i 0))])])]), (.lit (.r []))]), (.call 1 0 [(.lit (.i 1))]), (.call 3 1 [(.call 0 0 [(.lit (.i 10))]), (.call 2 0 [(.lit (.s ⟨#[102]⟩)), (.row [(.call 2 0 [(.lit (.s ⟨#[103]⟩)), (.row [(.call 1 0 [(.lit (.i 0))])])]), (.call 1 0 [(.lit (.i 0))])])]), (.lit (.r []))])]), (.call 4 0 [(.lit (.i 0))])]) (.lit (.i 0)))) (.ok 1 [(.lit (.i 4))])), (.imp (.and (.eq (.call 3 2 [(.call 3 3 [(.call 0 0 [(.lit (.i 10))]), (.call 2 0 [(.lit (.s ⟨#[102]⟩)), (.row [(.call 2 0 [(.lit (.s ⟨#[103]⟩)), (.row [(.call 1 0 [(.lit (.i 0))])])]), (.call 1 0 [(.lit (.i 0))])])]), (.lit (.r []))]), (.call 1 0 [(.lit (.i 1))]), (.call 3 1 [(.call 0 0 [(.lit (.i 10))]), (.call 2 0 [(.lit (.s ⟨#[102]⟩)), (.row [(.call 2 0 [(.lit (.s ⟨#[103]⟩)), (.row [(.call 1 0 [(.lit (.i 0))])])]), (.call 1 0 [(.lit (.i 0))])])]), (.lit (.r []))])]) (.lit (.i 0))) (.eq (.call 3 0 [(.call 3 3 [(.call 0 0 [(.lit (.i 10))]), (.call 2 0 [(.lit (.s ⟨#[102]⟩)), (.row [(.call 2 0 [(.lit (.s ⟨#[103]⟩)), (.row [(.call 1 0 [(.lit (.i 0))])])]), (.call 1 0 [(.lit (.i 0))])])]), (.lit (.r []))]), (.call 1 0 [(.lit (.i 1))]), (.call 3 1 [(.call 0 0 [(.lit (.i 10))]), (.call 2 0 [(.lit (.s ⟨#[102]⟩)), (.row [(.call 2 0 [(.lit (.s ⟨#[103]⟩)), (.row [(.call 1 0 [(.lit (.i 0))])])]), (.call 1 0 [(.lit (.i 0))])])]), (.lit (.r []))])]) (.call 5 0 [(.lit (.i 5))]))) (.ok 6 [(.call 3 1 [(.call 3 3 [(.call 0 0 [(.lit (.i 10))]), (.call 2 0 [(.lit (.s ⟨#[102]⟩)), (.row [(.call 2 0 [(.lit (.s ⟨#[103]⟩)), (.row [(.call 1 0 [(.lit (.i 0))])])]), (.call 1 0 [(.lit (.i 0))])])]), (.lit (.r []))]), (.call 1 0 [(.lit (.i 1))]), (.call 3 1 [(.call 0 0 [(.lit (.i 10))]), (.call 2 0 [(.lit (.s ⟨#[102]⟩)), (.row [(.call 2 0 [(.lit (.s ⟨#[103]⟩)), (.row [(.call 1 0 [(.lit (.i 0))])])]), (.call 1 0 [(.lit (.i 0))])])]), (.lit (.r []))])]), (.row [(.mk [(.lit (.i 0)), (.call 5 0 [(.lit (.i 4))])]), (.mk [(.lit (.i 1)), (.call 5 0 [(.lit (.i 5))])])])])), (.imp (.and (.eq (.call 3 2 [(.call 3 3 [(.call 0 0 [(.lit (.i 10))]), (.call 2 0 [(.lit (.s ⟨#[102]⟩)), (.row [(.call 2 0 [(.lit (.s ⟨#[103]⟩)), (.row [(.call 1 0 [(.lit (.i 0))])])]), (.call 1 0 [(.lit (.i 0))])])]), (.lit (.r []))]), (.call 1 0 [(.lit (.i 1))]), (.call 3 1 [(.call 0 0 [(.lit (.i 10))]), (.call 2 0 [(.lit (.s ⟨#[102]⟩)), (.row [(.call 2 0 [(.lit (.s ⟨#[103]⟩)), (.row [(.call 1 0 [(.lit (.i 0))])])]), (.call 1 0 [(.lit (.i 0))])])]), (.lit (.r []))])]) (.lit (.i 0))) (.eq (.call 3 0 [(.call 3 3 [(.call 0 0 [(.lit (.i 10))]), (.call 2 0 [(.lit (.s ⟨#[102]⟩)), (.row [(.call 2 0 [(.lit (.s ⟨#[103]⟩)), (.row [(.call 1 0 [(.lit (.i 0))])])]), (.call 1 0 [(.lit (.i 0))])])]), (.lit (.r []))]), (.call 1 0 [(.lit (.i 1))]), (.call 3 1 [(.call 0 0 [(.lit (.i 10))]), (.call 2 0 [(.lit (.s ⟨#[102]⟩)), (.row [(.call 2 0 [(.lit (.s ⟨#[103]⟩)), (.row [(.call 1 0 [(.lit (.i 0))])])]), (.call 1 0 [(.lit (.i 0))])])]), (.lit (.r []))])]) (.call 5 0 [(.lit (.i 5))]))) (.ok 5 [(.lit (.i 5))])), (.imp (.and (.eq (.call 3 2 [(.call 3 3 [(.call 0 0 [(.lit (.i 10))]), (.call 2 0 [(.lit (.s ⟨#[102]⟩)), (.row [(.call 2 0 [(.lit (.s ⟨#[103]⟩)), (.row [(.call 1 0 [(.lit (.i 0))])])]), (.call 1 0 [(.lit (.i 0))])])]), (.lit (.r []))]), (.call 1 0 [(.lit (.i 1))]), (.call 3 1 [(.call 0 0 [(.lit (.i 10))]), (.call 2 0 [(.lit (.s ⟨#[102]⟩)), (.row [(.call 2 0 [(.lit (.s ⟨#[103]⟩)), (.row [(.call 1 0 [(.lit (.i 0))])])]), (.call 1 0 [(.lit (.i 0))])])]), (.lit (.r []))])]) (.lit (.i 0))) (.eq (.call 3 0 [(.call 3 3 [(.call 0 0 [(.lit (.i 10))]), (.call 2 0 [(.lit (.s ⟨#[102]⟩)), (.row [(.call 2 0 [(.lit (.s ⟨#[103]⟩)), (.row [(.call 1 0 [(.lit (.i 0))])])]), (.call 1 0 [(.lit (.i 0))])])]), (.lit (.r []))]), (.call 1 0 [(.lit (.i 1))]), (.call 3 1 [(.call 0 0 [(.lit (.i 10))]), (.call 2 0 [(.lit (.s ⟨#[102]⟩)), (.row [(.call 2 0 [(.lit (.s ⟨#[103]⟩)), (.row [(.call 1 0 [(.lit (.i 0))])])]), (.call 1 0 [(.lit (.i 0))])])]), (.lit (.r []))])]) (.call 5 0 [(.lit (.i 5))]))) (.ok 5 [(.lit (.i 5))])), (.imp (.and (.eq (.call 3 2 [(.call 3 3 [(.call 0 0 [(.lit (.i 10))]), (.call 2 0 [(.lit (.s ⟨#[102]⟩)), (.row [(.call 2 0 [(.lit (.s ⟨#[103]⟩)), (.row [(.call 1 0 [(.lit (.i 0))])])]), (.call 1 0 [(.lit (.i 0))])])]), (.lit (.r []))]), (.call 1 0 [(.lit (.i 1))]), (.call 3 1 [(.call 0 0 [(.lit (.i 10))]), (.call 2 0 [(.lit (.s ⟨#[102]⟩)), (.row [(.call 2 0 [(.lit (.s ⟨#[103]⟩)), (.row [(.call 1 0 [(.lit (.i 0))])])]), (.call 1 0 [(.lit (.i 0))])])]), (.lit (.r []))])]) (.lit (.i 0))) (.eq (.call 3 0 [(.call 3 3 [(.call 0 0 [(.lit (.i 10))]), (.call 2 0 [(.lit (.s ⟨#[102]⟩)), (.row [(.call 2 0 [(.lit (.s ⟨#[103]⟩)), (.row [(.call 1 0 [(.lit (.i 0))])])]), (.call 1 0 [(.lit (.i 0))])])]), (.lit (.r []))]), (.call 1 0 [(.lit (.i 1))]), (.call 3 1 [(.call 0 0 [(.lit (.i 10))]), (.call 2 0 [(.lit (.s ⟨#[102]⟩)), (.row [(.call 2 0 [(.lit (.s ⟨#[103]⟩)), (.row [(.call 1 0 [(.lit (.i 0))])])]), (.call 1 0 [(.lit (.i 0))])])]), (.lit (.r []))])]) (.call 5 0 [(.lit (.i 5))]))) (.ok 5 [(.lit (.i 4))])), (.imp (.eq (.call 3 2 [(.call 3 3 [(.call 0 0 [(.lit (.i 10))]), (.call 2 0 [(.lit (.s ⟨#[102]⟩)), (.row [(.call 2 0 [(.lit (.s ⟨#[103]⟩)), (.row [(.call 1 0 [(.lit (.i 0))])])]), (.call 1 0 [(.lit (.i 0))])])]), (.lit (.r []))]), (.call 1 0 [(.lit (.i 1))]), (.call 3 1 [(.call 0 0 [(.lit (.i 10))]), (.call 2 0 [(.lit (.s ⟨#[102]⟩)), (.row [(.call 2 0 [(.lit (.s ⟨#[103]⟩)), (.row [(.call 1 0 [(.lit (.i 0))])])]), (.call 1 0 [(.lit (.i 0))])])]), (.lit (.r []))])]) (.lit (.i 0))) (.ok 5 [(.lit (.i 5))]))] (.leaf [(.and (.and (.and (.and (.and (.and (.and (.eq (.call 3 2 [(.call 3 3 [(.call 0 0 [(.lit (.i 10))]), (.call 2 0 [(.lit (.s ⟨#[102]⟩)), (.row [(.call 2 0 [(.lit (.s ⟨#[103]⟩)), (.row [(.call 1 0 [(.lit (.i 0))])])]), (.call 1 0 [(.lit (.i 0))])])]), (.lit (.r []))]), (.call 1 0 [(.lit (.i 1))]), (.call 3 1 [(.call 0 0 [(.lit (.i 10))]), (.call 2 0 [(.lit (.s ⟨#[102]⟩)), (.row [(.call 2 0 [(.lit (.s ⟨#[103]⟩)), (.row [(.call 1 0 [(.lit (.i 0))])])]), (.call 1 0 [(.lit (.i 0))])])]), (.lit (.r []))])]) (.lit (.i 0))) (.eq (.call 3 0 [(.call 3 3 [(.call 0 0 [(.lit (.i 10))]), (.call 2 0 [(.lit (.s ⟨#[102]⟩)), (.row [(.call 2 0 [(.lit (.s ⟨#[103]⟩)), (.row [(.call 1 0 [(.lit (.i 0))])])]), (.call 1 0 [(.lit (.i 0))])])]), (.lit (.r []))]), (.call 1 0 [(.lit (.i 1))]), (.call 3 1 [(.call 0 0 [(.lit (.i 10))]), (.call 2 0 [(.lit (.s ⟨#[102]⟩)), (.row [(.call 2 0 [(.lit (.s ⟨#[103]⟩)), (.row [(.call 1 0 [(.lit (.i 0))])])]), (.call 1 0 [(.lit (.i 0))])])]), (.lit (.r []))])]) (.call 5 0 [(.lit (.i 5))]))) (.call 6 0 [(.call 3 1 [(.call 3 3 [(.call 0 0 [(.lit (.i 10))]), (.call 2 0 [(.lit (.s ⟨#[102]⟩)), (.row [(.call 2 0 [(.lit (.s ⟨#[103]⟩)), (.row [(.call 1 0 [(.lit (.i 0))])])]), (.call 1 0 [(.lit (.i 0))])])]), (.lit (.r []))]), (.call 1 0 [(.lit (.i 1))]), (.call 3 1 [(.call 0 0 [(.lit (.i 10))]), (.call 2 0 [(.lit (.s ⟨#[102]⟩)), (.row [(.call 2 0 [(.lit (.s ⟨#[103]⟩)), (.row [(.call 1 0 [(.lit (.i 0))])])]), (.call 1 0 [(.lit (.i 0))])])]), (.lit (.r []))])]), (.row [(.mk [(.lit (.i 0)), (.call 5 0 [(.lit (.i 4))])]), (.mk [(.lit (.i 1)), (.call 5 0 [(.lit (.i 5))])])])])) (.eq (.call 7 1 [(.call 3 3 [(.call 3 3 [(.call 0 0 [(.lit (.i 10))]), (.call 2 0 [(.lit (.s ⟨#[102]⟩)), (.row [(.call 2 0 [(.lit (.s ⟨#[103]⟩)), (.row [(.call 1 0 [(.lit (.i 0))])])]), (.call 1 0 [(.lit (.i 0))])])]), (.lit (.r []))]), (.call 1 0 [(.lit (.i 1))]), (.call 3 1 [(.call 0 0 [(.lit (.i 10))]), (.call 2 0 [(.lit (.s ⟨#[102]⟩)), (.row [(.call 2 0 [(.lit (.s ⟨#[103]⟩)), (.row [(.call 1 0 [(.lit (.i 0))])])]), (.call 1 0 [(.lit (.i 0))])])]), (.lit (.r []))])]), (.call 4 0 [(.lit (.i 0))])]) (.lit (.i 0)))) (.call 8 0 [(.call 7 0 [(.call 3 3 [(.call 3 3 [(.call 0 0 [(.lit (.i 10))]), (.call 2 0 [(.lit (.s ⟨#[102]⟩)), (.row [(.call 2 0 [(.lit (.s ⟨#[103]⟩)), (.row [(.call 1 0 [(.lit (.i 0))])])]), (.call 1 0 [(.lit (.i 0))])])]), (.lit (.r []))]), (.call 1 0 [(.lit (.i 1))]), (.call 3 1 [(.call 0 0 [(.lit (.i 10))]), (.call 2 0 [(.lit (.s ⟨#[102]⟩)), (.row [(.call 2 0 [(.lit (.s ⟨#[103]⟩)), (.row [(.call 1 0 [(.lit (.i 0))])])]), (.call 1 0 [(.lit (.i 0))])])]), (.lit (.r []))])]), (.call 4 0 [(.lit (.i 0))])]), (.call 2 0 [(.lit (.s ⟨#[102]⟩)), (.row [(.call 2 0 [(.lit (.s ⟨#[103]⟩)), (.row [(.call 1 0 [(.lit (.i 4))])])]), (.call 1 0 [(.lit (.i 4))])])])])) (.eq (.call 9 0 [(.call 3 3 [(.call 3 3 [(.call 0 0 [(.lit (.i 10))]), (.call 2 0 [(.lit (.s ⟨#[102]⟩)), (.row [(.call 2 0 [(.lit (.s ⟨#[103]⟩)), (.row [(.call 1 0 [(.lit (.i 0))])])]), (.call 1 0 [(.lit (.i 0))])])]), (.lit (.r []))]), (.call 1 0 [(.lit (.i 1))]), (.call 3 1 [(.call 0 0 [(.lit (.i 10))]), (.call 2 0 [(.lit (.s ⟨#[102]⟩)), (.row [(.call 2 0 [(.lit (.s ⟨#[103]⟩)), (.row [(.call 1 0 [(.lit (.i 0))])])]), (.call 1 0 [(.lit (.i 0))])])]), (.lit (.r []))])]), (.call 5 0 [(.lit (.i 2))])]) (.call 5 0 [(.lit (.i 4))]))) (.eq (.call 9 0 [(.call 3 3 [(.call 3 3 [(.call 0 0 [(.lit (.i 10))]), (.call 2 0 [(.lit (.s ⟨#[102]⟩)), (.row [(.call 2 0 [(.lit (.s ⟨#[103]⟩)), (.row [(.call 1 0 [(.lit (.i 0))])])]), (.call 1 0 [(.lit (.i 0))])])]), (.lit (.r []))]), (.call 1 0 [(.lit (.i 1))]), (.call 3 1 [(.call 0 0 [(.lit (.i 10))]), (.call 2 0 [(.lit (.s ⟨#[102]⟩)), (.row [(.call 2 0 [(.lit (.s ⟨#[103]⟩)), (.row [(.call 1 0 [(.lit (.i 0))])])]), (.call 1 0 [(.lit (.i 0))])])]), (.lit (.r []))])]), (.call 5 0 [(.lit (.i 1))])]) (.call 4 0 [(.lit (.i 3))]))) (.eq (.get (.fld (.call 3 3 [(.call 3 3 [(.call 0 0 [(.lit (.i 10))]), (.call 2 0 [(.lit (.s ⟨#[102]⟩)), (.row [(.call 2 0 [(.lit (.s ⟨#[103]⟩)), (.row [(.call 1 0 [(.lit (.i 0))])])]), (.call 1 0 [(.lit (.i 0))])])]), (.lit (.r []))]), (.call 1 0 [(.lit (.i 1))]), (.call 3 1 [(.call 0 0 [(.lit (.i 10))]), (.call 2 0 [(.lit (.s ⟨#[102]⟩)), (.row [(.call 2 0 [(.lit (.s ⟨#[103]⟩)), (.row [(.call 1 0 [(.lit (.i 0))])])]), (.call 1 0 [(.lit (.i 0))])])]), (.lit (.r []))])]) 1) (.lit (.i 1))) (.mk [(.lit (.s ⟨#[103]⟩)), (.lit (.i 1))])))]))))))))))
set_option maxRecDepth 100000 in
theorem code_law30_awake (g0 g1 g2 g3 g4 g5 g6 g7 g8 g9 : List D → Option (List D)) : ∀ cd, Try.f14.body = some cd → treeOf Try.prog [(ct_cells_New, g0), (ct_law30_x, g1), (ct_law30_f, g2), (ct_cells_Put, g3), (ct_law30_str, g4), (ct_law30_ref, g5), (ct_law30_vars, g6), (ct_cells_Get, g7), (ct_ref03_Same, g8), (ct_cells_Deref, g9)] ann_law30_awake ct_law30_awake Try.f14 cd = tree_law30_awake := by
  intro cd h
  injection h with h
  subst h
  kernel_rfl
theorem fok_law30_awake {g0 g1 g2 g3 g4 g5 g6 g7 g8 g9 : List D → Option (List D)} {g : List D → Option (List D)} (h0 : FOk ct_cells_New g0) (h1 : FOk ct_law30_x g1) (h2 : FOk ct_law30_f g2) (h3 : FOk ct_cells_Put g3) (h4 : FOk ct_law30_str g4) (h5 : FOk ct_law30_ref g5) (h6 : FOk ct_law30_vars g6) (h7 : FOk ct_cells_Get g7) (h8 : FOk ct_ref03_Same g8) (h9 : FOk ct_cells_Deref g9) (h : ∀ ds outs, WfA ct_law30_awake.ars ds → g ds = some outs → tree_law30_awake.go (tblS [(ct_cells_New, g0), (ct_law30_x, g1), (ct_law30_f, g2), (ct_cells_Put, g3), (ct_law30_str, g4), (ct_law30_ref, g5), (ct_law30_vars, g6), (ct_cells_Get, g7), (ct_ref03_Same, g8), (ct_cells_Deref, g9)]) (fun o => o = outs) ds fun _ _ => False) : FOk ct_law30_awake g :=
  fok_of ann_law30_awake Try.f14 _ (.cons h0 (.cons h1 (.cons h2 (.cons h3 (.cons h4 (.cons h5 (.cons h6 (.cons h7 (.cons h8 (.cons h9 .nil)))))))))) rfl rfl enter_law30_awake (by decide) fun ds outs hw hg => by rw [code_law30_awake g0 g1 g2 g3 g4 g5 g6 g7 g8 g9 _ rfl]; exact h ds outs hw hg

end Go.Proofs.Ytinclokohcommaa


namespace Go.Proofs.Ytinclokohcommaa
open Go.RowKit
set_option linter.unusedVariables false
set_option linter.unusedSimpArgs false

structure Ce where
  t : Int
  n : Int
structure Un where
  at' : Int
  old : Ce
structure Wk where
  ser : Int
  att : Ce
  val : Ce
structure Sy where
  name : ByteArray
  ar : Int
structure So where
  cs : List Ce
  ys : List Sy
  tr : List Un
  wk : List Wk
  ser : Int
  mx : Int

instance : Inhabited Ce := ⟨⟨0, 0⟩⟩
instance : Inhabited Un := ⟨⟨0, default⟩⟩
instance : Inhabited Wk := ⟨⟨0, default, default⟩⟩
instance : Inhabited Sy := ⟨⟨⟨#[]⟩, 0⟩⟩

def eC (c : Ce) : D := .a [.i c.t, .i c.n]
def eU (u : Un) : D := .a [.i u.at', eC u.old]
def eW (w : Wk) : D := .a [.i w.ser, eC w.att, eC w.val]
def eY (y : Sy) : D := .a [.s y.name, .i y.ar]
def eS (s : So) : D := .a [.r (s.cs.map eC), .r (s.ys.map eY), .r (s.tr.map eU), .r (s.wk.map eW), .i s.ser, .i s.mx]
def dC (d : D) : Ce := ⟨(d.fld 0).int, (d.fld 1).int⟩
def dU (d : D) : Un := ⟨(d.fld 0).int, dC (d.fld 1)⟩
def dW (d : D) : Wk := ⟨(d.fld 0).int, dC (d.fld 1), dC (d.fld 2)⟩
def dY (d : D) : Sy := ⟨(d.fld 0).str, (d.fld 1).int⟩
def dS (d : D) : So := ⟨(d.fld 0).rs.map dC, (d.fld 1).rs.map dY, (d.fld 2).rs.map dU, (d.fld 3).rs.map dW, (d.fld 4).int, (d.fld 5).int⟩

theorem dC_eC (c : Ce) : dC (eC c) = c := rfl
theorem dU_eU (c : Un) : dU (eU c) = c := rfl
theorem dW_eW (c : Wk) : dW (eW c) = c := rfl
theorem dY_eY (c : Sy) : dY (eY c) = c := rfl
theorem map_id' {α : Type} {e : α → D} {d : D → α} (h : ∀ a, d (e a) = a) (l : List α) : (l.map e).map d = l := by
  rw [List.map_map]
  have : d ∘ e = id := funext h
  rw [this, List.map_id]
theorem dS_eS (s : So) : dS (eS s) = s := by
  show So.mk ((s.cs.map eC).map dC) ((s.ys.map eY).map dY) ((s.tr.map eU).map dU) ((s.wk.map eW).map dW) s.ser s.mx = s
  rw [map_id' dC_eC, map_id' dY_eY, map_id' dU_eU, map_id' dW_eW]
theorem eC_inj {a b : Ce} (h : eC a = eC b) : a = b := by rw [← dC_eC a, h, dC_eC b]
theorem eU_inj {a b : Un} (h : eU a = eU b) : a = b := by rw [← dU_eU a, h, dU_eU b]
theorem eW_inj {a b : Wk} (h : eW a = eW b) : a = b := by rw [← dW_eW a, h, dW_eW b]
theorem eY_inj {a b : Sy} (h : eY a = eY b) : a = b := by rw [← dY_eY a, h, dY_eY b]
theorem eS_inj {a b : So} (h : eS a = eS b) : a = b := by rw [← dS_eS a, h, dS_eS b]
theorem eC_eq (a b : Ce) : (eC a = eC b) = (a = b) := propext ⟨eC_inj, fun h => h ▸ rfl⟩
theorem eU_eq (a b : Un) : (eU a = eU b) = (a = b) := propext ⟨eU_inj, fun h => h ▸ rfl⟩
theorem eW_eq (a b : Wk) : (eW a = eW b) = (a = b) := propext ⟨eW_inj, fun h => h ▸ rfl⟩
theorem eY_eq (a b : Sy) : (eY a = eY b) = (a = b) := propext ⟨eY_inj, fun h => h ▸ rfl⟩
theorem eS_eq (a b : So) : (eS a = eS b) = (a = b) := propext ⟨eS_inj, fun h => h ▸ rfl⟩
instance : DecidableEq Ce := fun a b => if h : eC a = eC b then .isTrue (eC_inj h) else .isFalse fun e => h (e ▸ rfl)
instance : DecidableEq Un := fun a b => if h : eU a = eU b then .isTrue (eU_inj h) else .isFalse fun e => h (e ▸ rfl)
instance : DecidableEq Wk := fun a b => if h : eW a = eW b then .isTrue (eW_inj h) else .isFalse fun e => h (e ▸ rfl)
instance : DecidableEq Sy := fun a b => if h : eY a = eY b then .isTrue (eY_inj h) else .isFalse fun e => h (e ▸ rfl)
instance : DecidableEq So := fun a b => if h : eS a = eS b then .isTrue (eS_inj h) else .isFalse fun e => h (e ▸ rfl)
theorem Ce.ext' {a b : Ce} (h1 : a.t = b.t) (h2 : a.n = b.n) : a = b := by
  cases a; cases b; cases h1; cases h2; rfl

theorem eC_0 (c : Ce) : (eC c).fld 0 = .i c.t := rfl
theorem eC_1 (c : Ce) : (eC c).fld 1 = .i c.n := rfl
theorem eU_0 (c : Un) : (eU c).fld 0 = .i c.at' := rfl
theorem eU_1 (c : Un) : (eU c).fld 1 = eC c.old := rfl
theorem eW_0 (c : Wk) : (eW c).fld 0 = .i c.ser := rfl
theorem eW_1 (c : Wk) : (eW c).fld 1 = eC c.att := rfl
theorem eW_2 (c : Wk) : (eW c).fld 2 = eC c.val := rfl
theorem eY_0 (c : Sy) : (eY c).fld 0 = .s c.name := rfl
theorem eY_1 (c : Sy) : (eY c).fld 1 = .i c.ar := rfl
theorem eS_0 (s : So) : (eS s).fld 0 = .r (s.cs.map eC) := rfl
theorem eS_1 (s : So) : (eS s).fld 1 = .r (s.ys.map eY) := rfl
theorem eS_2 (s : So) : (eS s).fld 2 = .r (s.tr.map eU) := rfl
theorem eS_3 (s : So) : (eS s).fld 3 = .r (s.wk.map eW) := rfl
theorem eS_4 (s : So) : (eS s).fld 4 = .i s.ser := rfl
theorem eS_5 (s : So) : (eS s).fld 5 = .i s.mx := rfl
theorem eC_mk (t n : Int) : D.a [.i t, .i n] = eC ⟨t, n⟩ := rfl
abbrev i64 (n : Int) : Prop := -9223372036854775808 ≤ n ∧ n ≤ 9223372036854775807
def Ce.ok (c : Ce) : Prop := i64 c.t ∧ i64 c.n
def Un.ok (c : Un) : Prop := i64 c.at' ∧ c.old.ok
def Wk.ok (c : Wk) : Prop := i64 c.ser ∧ c.att.ok ∧ c.val.ok
def Sy.ok (c : Sy) : Prop := c.name.size ≤ LIM ∧ i64 c.ar
structure So.ok (s : So) : Prop where
  cs : s.cs.length ≤ 8796093021952 ∧ ∀ c ∈ s.cs, c.ok
  ys : s.ys.length ≤ 5864062014634 ∧ ∀ c ∈ s.ys, c.ok
  tr : s.tr.length ≤ 5864062014634 ∧ ∀ c ∈ s.tr, c.ok
  wk : s.wk.length ≤ 3518437208780 ∧ ∀ c ∈ s.wk, c.ok
  ser : i64 s.ser
  mx : i64 s.mx

theorem wfI {d : D} (h : Wf d (.int .i64)) : ∃ n, d = .i n ∧ i64 n := by
  obtain ⟨n, rfl, hn⟩ := h.int
  exact ⟨n, rfl, rng64.1 hn⟩
theorem wfC {d : D} (h : Wf d T_Cell) : ∃ c, d = eC c ∧ c.ok := by
  obtain ⟨ds, rfl, hl⟩ := h.st_of (fs := [.int .i64, .int .i64]) rfl
  obtain ⟨a, b, rfl, ha, hb⟩ := wfL2 hl
  obtain ⟨x, rfl, hx⟩ := wfI ha
  obtain ⟨y, rfl, hy⟩ := wfI hb
  exact ⟨⟨x, y⟩, rfl, hx, hy⟩
theorem wfU {d : D} (h : Wf d T_Undo) : ∃ c, d = eU c ∧ c.ok := by
  obtain ⟨ds, rfl, hl⟩ := h.st_of (fs := [.int .i64, T_Cell]) rfl
  obtain ⟨a, b, rfl, ha, hb⟩ := wfL2 hl
  obtain ⟨x, rfl, hx⟩ := wfI ha
  obtain ⟨y, rfl, hy⟩ := wfC hb
  exact ⟨⟨x, y⟩, rfl, hx, hy⟩
theorem wfW {d : D} (h : Wf d T_Wake) : ∃ c, d = eW c ∧ c.ok := by
  obtain ⟨ds, rfl, hl⟩ := h.st_of (fs := [.int .i64, T_Cell, T_Cell]) rfl
  obtain ⟨a, r, rfl, ha, hr⟩ := wfL_cons hl
  obtain ⟨b, c, rfl, hb, hc⟩ := wfL2 hr
  obtain ⟨x, rfl, hx⟩ := wfI ha
  obtain ⟨y, rfl, hy⟩ := wfC hb
  obtain ⟨z, rfl, hz⟩ := wfC hc
  exact ⟨⟨x, y, z⟩, rfl, hx, hy, hz⟩
theorem wfY {d : D} (h : Wf d T_Symbol) : ∃ c, d = eY c ∧ c.ok := by
  obtain ⟨ds, rfl, hl⟩ := h.st_of (fs := [.str, .int .i64]) rfl
  obtain ⟨a, b, rfl, ha, hb⟩ := wfL2 hl
  obtain ⟨x, rfl, hx⟩ := ha.str
  obtain ⟨y, rfl, hy⟩ := wfI hb
  exact ⟨⟨x, y⟩, rfl, hx, hy⟩
theorem wfCs {d : D} (h : Wf d T_Cells) : ∃ l : List Ce, d = .r (l.map eC) ∧ l.length ≤ 8796093021952 ∧ ∀ c ∈ l, c.ok := by
  obtain ⟨l, rfl, h1, h2⟩ := h.row_of (te := T_Cell) rfl
  obtain ⟨m, rfl, h3⟩ := of_all (e := eC) (P := Ce.ok) fun x hx => wfC (h2 x hx)
  have e : LM T_Cell = 8796093021952 := by kernel_rfl
  rw [e, List.length_map] at h1
  exact ⟨m, rfl, h1, h3⟩
theorem wfUs {d : D} (h : Wf d T_Undos) : ∃ l : List Un, d = .r (l.map eU) ∧ l.length ≤ 5864062014634 ∧ ∀ c ∈ l, c.ok := by
  obtain ⟨l, rfl, h1, h2⟩ := h.row_of (te := T_Undo) rfl
  obtain ⟨m, rfl, h3⟩ := of_all (e := eU) (P := Un.ok) fun x hx => wfU (h2 x hx)
  have e : LM T_Undo = 5864062014634 := by kernel_rfl
  rw [e, List.length_map] at h1
  exact ⟨m, rfl, h1, h3⟩
theorem wfWs {d : D} (h : Wf d T_Wakes) : ∃ l : List Wk, d = .r (l.map eW) ∧ l.length ≤ 3518437208780 ∧ ∀ c ∈ l, c.ok := by
  obtain ⟨l, rfl, h1, h2⟩ := h.row_of (te := T_Wake) rfl
  obtain ⟨m, rfl, h3⟩ := of_all (e := eW) (P := Wk.ok) fun x hx => wfW (h2 x hx)
  have e : LM T_Wake = 3518437208780 := by kernel_rfl
  rw [e, List.length_map] at h1
  exact ⟨m, rfl, h1, h3⟩
theorem wfYs {d : D} (h : Wf d T_Symbols) : ∃ l : List Sy, d = .r (l.map eY) ∧ l.length ≤ 5864062014634 ∧ ∀ c ∈ l, c.ok := by
  obtain ⟨l, rfl, h1, h2⟩ := h.row_of (te := T_Symbol) rfl
  obtain ⟨m, rfl, h3⟩ := of_all (e := eY) (P := Sy.ok) fun x hx => wfY (h2 x hx)
  have e : LM T_Symbol = 5864062014634 := by kernel_rfl
  rw [e, List.length_map] at h1
  exact ⟨m, rfl, h1, h3⟩
theorem wfS {d : D} (h : Wf d T_Store) : ∃ s, d = eS s ∧ s.ok := by
  obtain ⟨ds, rfl, hl⟩ := h.st_of (fs := [T_Cells, T_Symbols, T_Undos, T_Wakes, .int .i64, .int .i64]) rfl
  obtain ⟨d0, r, rfl, h0, hl⟩ := wfL_cons hl
  obtain ⟨d1, r, rfl, h1, hl⟩ := wfL_cons hl
  obtain ⟨d2, r, rfl, h2, hl⟩ := wfL_cons hl
  obtain ⟨d3, r, rfl, h3, hl⟩ := wfL_cons hl
  obtain ⟨d4, d5, rfl, h4, h5⟩ := wfL2 hl
  obtain ⟨cs, rfl, q0⟩ := wfCs h0
  obtain ⟨ys, rfl, q1⟩ := wfYs h1
  obtain ⟨tr, rfl, q2⟩ := wfUs h2
  obtain ⟨wk, rfl, q3⟩ := wfWs h3
  obtain ⟨x, rfl, q4⟩ := wfI h4
  obtain ⟨y, rfl, q5⟩ := wfI h5
  exact ⟨⟨cs, ys, tr, wk, x, y⟩, rfl, q0, q1, q2, q3, q4, q5⟩
end Go.Proofs.Ytinclokohcommaa


namespace Go.Proofs.Ytinclokohcommaa
open Go.RowKit
set_option linter.unusedVariables false
set_option linter.unusedSimpArgs false

inductive Te where
  | mk (k n : Int) (s : ByteArray) (l : List Te)
instance : Inhabited Te := ⟨.mk 0 0 ⟨#[]⟩ []⟩
def Te.k : Te → Int | .mk k _ _ _ => k
def Te.n : Te → Int | .mk _ n _ _ => n
def Te.s : Te → ByteArray | .mk _ _ s _ => s
def Te.l : Te → List Te | .mk _ _ _ l => l

mutual
theorem Te.ind0 {P : Te → Prop} (h : ∀ k n s l, (∀ t ∈ l, P t) → P (.mk k n s l)) : ∀ t, P t
  | .mk k n s l => h k n s l (Te.inds h l)
theorem Te.inds {P : Te → Prop} (h : ∀ k n s l, (∀ t ∈ l, P t) → P (.mk k n s l)) : ∀ (l : List Te), ∀ t ∈ l, P t
  | [], _, ht => by cases ht
  | u :: l, t, ht => by
    exact (List.mem_cons.1 ht).elim (fun e => e ▸ Te.ind0 h u) fun h' => Te.inds h l t h'
end
theorem Te.ind {P : Te → Prop} (h : ∀ k n s l, (∀ t ∈ l, P t) → P (.mk k n s l)) (t : Te) : P t := Te.ind0 h t

mutual
def eT : Te → D
  | .mk k n s l => .a [.i k, .i n, .s s, .r (eTs l)]
def eTs : List Te → List D
  | [] => []
  | t :: l => eT t :: eTs l
end
theorem eTs_map : ∀ l, eTs l = l.map eT
  | [] => rfl
  | t :: l => by rw [eTs, eTs_map l, List.map_cons]
theorem eT_mk (k n : Int) (s : ByteArray) (l : List Te) : eT (.mk k n s l) = .a [.i k, .i n, .s s, .r (l.map eT)] := by rw [eT, eTs_map]
mutual
def dT : D → Te
  | .a [.i k, .i n, .s s, .r l] => .mk k n s (dTs l)
  | _ => .mk 0 0 ⟨#[]⟩ []
def dTs : List D → List Te
  | [] => []
  | d :: l => dT d :: dTs l
end
mutual
theorem dT_eT : ∀ t, dT (eT t) = t
  | .mk k n s l => by simp only [eT, dT, dTs_eTs l]
theorem dTs_eTs : ∀ l, dTs (eTs l) = l
  | [] => rfl
  | t :: l => by simp only [eTs, dTs, dT_eT t, dTs_eTs l]
end
theorem eT_inj {t u : Te} (h : eT t = eT u) : t = u := by rw [← dT_eT t, h, dT_eT u]
theorem eT_eq (t u : Te) : (eT t = eT u) = (t = u) := propext ⟨eT_inj, fun h => h ▸ rfl⟩
theorem eT_0 (t : Te) : (eT t).fld 0 = .i t.k := by cases t; rfl
theorem eT_1 (t : Te) : (eT t).fld 1 = .i t.n := by cases t; rfl
theorem eT_2 (t : Te) : (eT t).fld 2 = .s t.s := by cases t; rfl
theorem eT_3 (t : Te) : (eT t).fld 3 = .r (t.l.map eT) := by cases t; rw [eT_mk]; rfl
def zT : Te := .mk 0 0 ⟨#[]⟩ []
theorem eT_z : D.a [.i 0, .i 0, .s ⟨#[]⟩, .r []] = eT zT := rfl

mutual
def szT : Te → Nat
  | .mk _ _ _ l => szTs l + 1
def szTs : List Te → Nat
  | [] => 0
  | t :: l => szT t + szTs l
end
theorem szT_pos (t : Te) : 1 ≤ szT t := by cases t; rw [szT]; omega
theorem szTs_mem {t : Te} : ∀ {l : List Te}, t ∈ l → szT t ≤ szTs l
  | u :: l, h => by
    rcases List.mem_cons.1 h with rfl | h
    · rw [szTs]; omega
    · have := szTs_mem h; rw [szTs]; omega
theorem szT_arg {t u : Te} (h : u ∈ t.l) : szT u < szT t := by
  cases t
  have := szTs_mem h
  rw [szT]
  exact Nat.lt_succ_of_le this
theorem szTs_app : ∀ (l m : List Te), szTs (l ++ m) = szTs l + szTs m
  | [], m => by simp [szTs]
  | t :: l, m => by rw [List.cons_append, szTs, szTs, szTs_app l m]; omega
theorem szTs_snoc {l : List Te} {k : Nat} (h : k < l.length) : szTs (l.take (k + 1)) = szTs (l.take k) + szT (l.getD k default) := by
  rw [take_snoc h, szTs_app]
  simp [szTs]
theorem szTs_len : ∀ (l : List Te), l.length ≤ szTs l
  | [] => Nat.le_refl _
  | t :: l => by have := szTs_len l; have := szT_pos t; rw [szTs, List.length_cons]; omega
theorem szT_l (t : Te) : szT t = szTs t.l + 1 := by cases t; rw [szT]; rfl

mutual
def okT : Te → Prop
  | .mk k n s l => i64 k ∧ i64 n ∧ s.size ≤ LIM ∧ l.length ≤ 2513169434843 ∧ okTs l
def okTs : List Te → Prop
  | [] => True
  | t :: l => okT t ∧ okTs l
end
theorem okTs_iff : ∀ {l : List Te}, okTs l ↔ ∀ t ∈ l, okT t
  | [] => ⟨fun _ t h => (by cases h), fun _ => trivial⟩
  | t :: l => by rw [okTs, okTs_iff]; simp
theorem okT_mk {k n : Int} {s : ByteArray} {l : List Te} : okT (.mk k n s l) ↔ i64 k ∧ i64 n ∧ s.size ≤ LIM ∧ l.length ≤ 2513169434843 ∧ ∀ t ∈ l, okT t := by rw [okT, okTs_iff]
theorem okT.k {t : Te} (h : okT t) : i64 t.k := by cases t; exact (okT_mk.1 h).1
theorem okT.n {t : Te} (h : okT t) : i64 t.n := by cases t; exact (okT_mk.1 h).2.1
theorem okT.s {t : Te} (h : okT t) : t.s.size ≤ LIM := by cases t; exact (okT_mk.1 h).2.2.1
theorem okT.l {t : Te} (h : okT t) : t.l.length ≤ 2513169434843 := by cases t; exact (okT_mk.1 h).2.2.2.1
theorem wfT_all (d : D) : (Wf d T_Term → ∃ t, d = eT t ∧ okT t) ∧ (Wf d T_Terms → ∃ l : List Te, d = .r (l.map eT) ∧ l.length ≤ 2513169434843 ∧ ∀ t ∈ l, okT t) := by
  have noS : ∀ {d : D}, Wf d T_Term → ∃ l, d = .a l := fun h => let ⟨l, e, _⟩ := h.st_of (fs := [.int .i64, .int .i64, .str, T_Terms]) rfl; ⟨l, e⟩
  have noR : ∀ {d : D}, Wf d T_Terms → ∃ l, d = .r l := fun h => let ⟨l, e, _⟩ := h.row_of (te := T_Term) rfl; ⟨l, e⟩
  induction d using D.ind with
  | hu => exact ⟨fun h => (by obtain ⟨_, e⟩ := noS h; cases e), fun h => (by obtain ⟨_, e⟩ := noR h; cases e)⟩
  | hi n => exact ⟨fun h => (by obtain ⟨_, e⟩ := noS h; cases e), fun h => (by obtain ⟨_, e⟩ := noR h; cases e)⟩
  | hb n => exact ⟨fun h => (by obtain ⟨_, e⟩ := noS h; cases e), fun h => (by obtain ⟨_, e⟩ := noR h; cases e)⟩
  | hs n => exact ⟨fun h => (by obtain ⟨_, e⟩ := noS h; cases e), fun h => (by obtain ⟨_, e⟩ := noR h; cases e)⟩
  | hm n => exact ⟨fun h => (by obtain ⟨_, e⟩ := noS h; cases e), fun h => (by obtain ⟨_, e⟩ := noR h; cases e)⟩
  | ha l ih =>
    refine ⟨fun h => ?_, fun h => (by obtain ⟨_, e⟩ := noR h; cases e)⟩
    obtain ⟨ds, e, hl⟩ := h.st_of (fs := [.int .i64, .int .i64, .str, T_Terms]) rfl
    injection e with e
    subst e
    obtain ⟨d0, r, rfl, h0, hl⟩ := wfL_cons hl
    obtain ⟨d1, r, rfl, h1, hl⟩ := wfL_cons hl
    obtain ⟨d2, d3, rfl, h2, h3⟩ := wfL2 hl
    obtain ⟨k, rfl, hk⟩ := wfI h0
    obtain ⟨n, rfl, hn⟩ := wfI h1
    obtain ⟨s, rfl, hs⟩ := h2.str
    obtain ⟨ts, rfl, h4, h5⟩ := (ih d3 (by simp)).2 h3
    exact ⟨.mk k n s ts, (eT_mk _ _ _ _).symm, okT_mk.2 ⟨hk, hn, hs, h4, h5⟩⟩
  | hr l ih =>
    refine ⟨fun h => (by obtain ⟨_, e⟩ := noS h; cases e), fun h => ?_⟩
    obtain ⟨l', e, h1, h2⟩ := h.row_of (te := T_Term) rfl
    injection e with e
    subst e
    obtain ⟨m, rfl, h3⟩ := of_all (e := eT) (P := okT) fun x hx => (ih x hx).1 (h2 x hx)
    have e : LM T_Term = 2513169434843 := by kernel_rfl
    rw [e, List.length_map] at h1
    exact ⟨m, rfl, h1, h3⟩
theorem wfT {d : D} (h : Wf d T_Term) : ∃ t, d = eT t ∧ okT t := (wfT_all d).1 h
def nodeT (t : Te) : Bool :=
  if t.k = 0 then decide (0 ≤ t.n) && (decide (t.n ≤ 1099511627776) && (decide (t.s = ⟨#[]⟩) && decide ((t.l.length : Int) = 0)))
  else if t.k = 1 then decide (t.s = ⟨#[]⟩) && decide ((t.l.length : Int) = 0)
  else if t.k = 2 then decide (t.n = 0) && (decide ((t.s.size : Int) ≤ 100) && decide ((t.l.length : Int) = 0))
  else if t.k = 3 then decide (t.n = 0) && (decide ((t.s.size : Int) ≤ 100) && (decide (1 ≤ (t.l.length : Int)) && decide ((t.l.length : Int) ≤ 8)))
  else false
mutual
def nodesT : Te → Bool
  | .mk k n s l => nodeT (.mk k n s l) && nodesTs l
def nodesTs : List Te → Bool
  | [] => true
  | t :: l => nodesT t && nodesTs l
end
theorem nodesTs_iff : ∀ {l : List Te}, nodesTs l = true ↔ ∀ t ∈ l, nodesT t = true
  | [] => ⟨fun _ t h => (by cases h), fun _ => rfl⟩
  | t :: l => by rw [nodesTs, Bool.and_eq_true, nodesTs_iff]; simp
theorem nodesT_all (t : Te) : nodesT t = (nodeT t && (List.range t.l.length).all fun i => nodesT (t.l.getD i default)) := by
  cases t with
  | mk k n s l =>
    rw [nodesT]
    congr 1
    rw [Bool.eq_iff_iff, nodesTs_iff, List.all_eq_true]
    refine ⟨fun h i hi => h _ (getD_mem (List.mem_range.1 hi)), fun h t ht => ?_⟩
    obtain ⟨i, hi, rfl⟩ := List.getElem_of_mem ht
    have := h i (List.mem_range.2 hi)
    rwa [show (Te.mk k n s l).l.getD i default = l[i] by simp [Te.l, List.getD_eq_getElem?_getD, List.getElem?_eq_getElem hi]] at this
def validT (t : Te) : Bool := decide (szT t ≤ 2000) && nodesT t

mutual
def idT : Te → Te → Bool
  | .mk k n s l, .mk k' n' s' l' => decide (k = k') && (decide (n = n') && (decide (s = s') && idTs l l'))
def idTs : List Te → List Te → Bool
  | [], [] => true
  | t :: l, u :: m => idT t u && idTs l m
  | _, _ => false
end
mutual
theorem idT_iff : ∀ (t u : Te), idT t u = true ↔ t = u
  | .mk k n s l, .mk k' n' s' l' => by simp [idT, idTs_iff l l']
theorem idTs_iff : ∀ (l m : List Te), idTs l m = true ↔ l = m
  | [], [] => by simp [idTs]
  | t :: l, u :: m => by simp [idTs, idT_iff t u, idTs_iff l m]
  | [], _ :: _ => by simp [idTs]
  | _ :: _, [] => by simp [idTs]
end
instance : DecidableEq Te := fun t u => if h : idT t u = true then .isTrue ((idT_iff t u).1 h) else .isFalse fun e => h ((idT_iff t u).2 e)
end Go.Proofs.Ytinclokohcommaa


namespace Go.Proofs.Ytinclokohcommaa
open Go.RowKit
set_option linter.unusedVariables false
set_option linter.unusedSimpArgs false

def mT (ds : List D) : Nat := szT (dT (ds.getD 0 .u))
def gCnt : List D → Option (List D)
  | [t, m] => if 1 ≤ m.int then some [.i (min (szT (dT t) : Int) m.int)] else none
  | _ => none
def gTi (f : Te → Int) : List D → Option (List D)
  | [t] => some [.i (f (dT t))]
  | _ => none
def gTb (f : Te → Bool) : List D → Option (List D)
  | [t] => some [.b (f (dT t))]
  | _ => none
theorem get_t {l : List Te} {k : Nat} (h : k < l.length) : (D.r (l.map eT)).get (k : Int) = eT (l.getD k default) := get_n eT h
theorem arg_sz {t : Te} {k : Nat} (h : k < t.l.length) : szT (t.l.getD k default) < szT t := szT_arg (getD_mem h)

theorem ok_ref03_Count : FOk ct_ref03_Count gCnt := fok_cut (m := mT) enter_ref03_Count fun N ih => fok_ref03_Count ih fun ds outs hw hg => by
  obtain ⟨d, r, rfl, hd, e, r', rfl, he, rfl⟩ := hw
  obtain ⟨t, rfl, ht⟩ := wfT hd
  obtain ⟨m, rfl, hm⟩ := wfI he
  simp only [cutM, mT, gCnt, List.getD_cons_zero, dT_eT, int_i, Option.ite_none_right_eq_some, Option.some.injEq] at hg
  obtain ⟨hsz, h1, rfl⟩ := hg
  have hl := ht.l
  rw [tree_ref03_Count, go_loop]
  refine ⟨fun st => ∃ k : Nat, k ≤ t.l.length ∧ st = [.i (min ((szTs (t.l.take k) : Int) + 1) m), .i k], fun st => t.l.length - (st.getD 1 .u).int.toNat, ⟨0, Nat.zero_le _, by simp [X.evs, X.ev, szTs]; omega⟩, ?_⟩
  rintro st - ⟨k, hk, rfl⟩
  rw [go_br]
  refine ⟨fun hlt => ?_, fun hlt => ?_⟩
  · simp only [go_need, go_br, go_leaf, go_back, allSay, X.says, X.ev, X.evs, evl, tblS, List.getD_cons_zero, List.getD_cons_succ, List.getElem?_cons_zero, List.getElem?_cons_succ, tt_b, int_i, str_s, rs_r, Option.isSome_some, Option.getD_some, decide_eq_true_eq, decide_eq_false_iff_not, dS_eS, dC_eC, dU_eU, dW_eW, dY_eY, eC_0, eC_1, eU_0, eU_1, eW_0, eW_1, eW_2, eY_0, eY_1, eS_0, eS_1, eS_2, eS_3, eS_4, eS_5, List.length_map, i_inj, b_inj, s_inj, eC_eq, eU_eq, eW_eq, eY_eq, eS_eq, rng64, List.take_succ_cons, List.take_zero, List.nil_append, List.cons_append, decide_true, decide_false, Bool.or_true, true_and, and_true, dT_eT, eT_0, eT_1, eT_2, eT_3, eT_eq, eT_z, Bool.and_eq_true] at hlt
    obtain ⟨hkl, hlm⟩ := hlt
    have hkl' : k < t.l.length := by omega
    have ha := arg_sz hkl'
    have hs := szTs_snoc hkl'
    have hmn : 1 ≤ m - min ((szTs (t.l.take k) : Int) + 1) m := by omega
    simp only [go_need, go_br, go_leaf, go_back, allSay, X.says, X.ev, X.evs, evl, tblS, List.getD_cons_zero, List.getD_cons_succ, List.getElem?_cons_zero, List.getElem?_cons_succ, tt_b, int_i, str_s, rs_r, Option.isSome_some, Option.getD_some, decide_eq_true_eq, decide_eq_false_iff_not, dS_eS, dC_eC, dU_eU, dW_eW, dY_eY, eC_0, eC_1, eU_0, eU_1, eW_0, eW_1, eW_2, eY_0, eY_1, eS_0, eS_1, eS_2, eS_3, eS_4, eS_5, List.length_map, i_inj, b_inj, s_inj, eC_eq, eU_eq, eW_eq, eY_eq, eS_eq, rng64, List.take_succ_cons, List.take_zero, List.nil_append, List.cons_append, decide_true, decide_false, Bool.or_true, true_and, and_true, dT_eT, eT_0, eT_1, eT_2, eT_3, eT_eq, eT_z, get_t hkl', cutM, mT, gCnt, if_pos hmn, if_pos (show szT (t.l.getD k default) < N by omega)]
    refine ⟨⟨by omega, by omega, by omega, by omega⟩, ⟨by omega, by omega⟩, ?_⟩
    rw [updB, if_pos rfl]
    refine ⟨⟨k + 1, by omega, ?_⟩, ?_⟩
    · rw [hs]
      simp
      omega
    · simp [D.int]
      omega
  · simp only [go_need, go_br, go_leaf, go_back, allSay, X.says, X.ev, X.evs, evl, tblS, List.getD_cons_zero, List.getD_cons_succ, List.getElem?_cons_zero, List.getElem?_cons_succ, tt_b, int_i, str_s, rs_r, Option.isSome_some, Option.getD_some, decide_eq_true_eq, decide_eq_false_iff_not, dS_eS, dC_eC, dU_eU, dW_eW, dY_eY, eC_0, eC_1, eU_0, eU_1, eW_0, eW_1, eW_2, eY_0, eY_1, eS_0, eS_1, eS_2, eS_3, eS_4, eS_5, List.length_map, i_inj, b_inj, s_inj, eC_eq, eU_eq, eW_eq, eY_eq, eS_eq, rng64, List.take_succ_cons, List.take_zero, List.nil_append, List.cons_append, decide_true, decide_false, Bool.or_true, true_and, and_true, dT_eT, eT_0, eT_1, eT_2, eT_3, eT_eq, eT_z, Bool.and_eq_false_iff] at hlt
    simp only [go_need, go_br, go_leaf, go_back, allSay, X.says, X.ev, X.evs, evl, tblS, List.getD_cons_zero, List.getD_cons_succ, List.getElem?_cons_zero, List.getElem?_cons_succ, tt_b, int_i, str_s, rs_r, Option.isSome_some, Option.getD_some, decide_eq_true_eq, decide_eq_false_iff_not, dS_eS, dC_eC, dU_eU, dW_eW, dY_eY, eC_0, eC_1, eU_0, eU_1, eW_0, eW_1, eW_2, eY_0, eY_1, eS_0, eS_1, eS_2, eS_3, eS_4, eS_5, List.length_map, i_inj, b_inj, s_inj, eC_eq, eU_eq, eW_eq, eY_eq, eS_eq, rng64, List.take_succ_cons, List.take_zero, List.nil_append, List.cons_append, decide_true, decide_false, Bool.or_true, true_and, and_true, dT_eT, eT_0, eT_1, eT_2, eT_3, eT_eq, eT_z]
    have hz := szT_l t
    have : min ((szTs (t.l.take k) : Int) + 1) m = min (szT t : Int) m := by
      rcases hlt with h | h
      · have : k = t.l.length := by omega
        subst this
        rw [List.take_length]
        omega
      · have h2 := szTs_app (t.l.take k) (t.l.drop k)
        rw [List.take_append_drop] at h2
        omega
    rw [this]
theorem ok_ref03_Size : FOk ct_ref03_Size (gTi fun t => min (szT t : Int) 2001) := fok_ref03_Size ok_ref03_Count fun ds outs hw hg => by
  obtain ⟨d, r, rfl, hd, rfl⟩ := hw
  obtain ⟨t, rfl, ht⟩ := wfT hd
  simp only [gTi, dT_eT, Option.some.injEq] at hg
  subst hg
  simp [tree_ref03_Size, go_need, go_br, go_leaf, go_back, allSay, X.says, X.ev, X.evs, evl, tblS, List.getD_cons_zero, List.getD_cons_succ, List.getElem?_cons_zero, List.getElem?_cons_succ, tt_b, int_i, str_s, rs_r, Option.isSome_some, Option.getD_some, decide_eq_true_eq, decide_eq_false_iff_not, dS_eS, dC_eC, dU_eU, dW_eW, dY_eY, eC_0, eC_1, eU_0, eU_1, eW_0, eW_1, eW_2, eY_0, eY_1, eS_0, eS_1, eS_2, eS_3, eS_4, eS_5, List.length_map, i_inj, b_inj, s_inj, eC_eq, eU_eq, eW_eq, eY_eq, eS_eq, rng64, List.take_succ_cons, List.take_zero, List.nil_append, List.cons_append, decide_true, decide_false, Bool.or_true, true_and, and_true, dT_eT, eT_0, eT_1, eT_2, eT_3, eT_eq, eT_z, gCnt]
theorem ok_ref03_node : FOk ct_ref03_node (gTb nodeT) := fok_ref03_node fun ds outs hw hg => by
  obtain ⟨d, r, rfl, hd, rfl⟩ := hw
  obtain ⟨t, rfl, ht⟩ := wfT hd
  simp only [gTb, dT_eT, Option.some.injEq] at hg
  subst hg
  simp only [tree_ref03_node, go_need, go_br, go_leaf, go_back, allSay, X.says, X.ev, X.evs, evl, tblS, List.getD_cons_zero, List.getD_cons_succ, List.getElem?_cons_zero, List.getElem?_cons_succ, tt_b, int_i, str_s, rs_r, Option.isSome_some, Option.getD_some, decide_eq_true_eq, decide_eq_false_iff_not, dS_eS, dC_eC, dU_eU, dW_eW, dY_eY, eC_0, eC_1, eU_0, eU_1, eW_0, eW_1, eW_2, eY_0, eY_1, eS_0, eS_1, eS_2, eS_3, eS_4, eS_5, List.length_map, i_inj, b_inj, s_inj, eC_eq, eU_eq, eW_eq, eY_eq, eS_eq, rng64, List.take_succ_cons, List.take_zero, List.nil_append, List.cons_append, decide_true, decide_false, Bool.or_true, true_and, and_true, dT_eT, eT_0, eT_1, eT_2, eT_3, eT_eq, eT_z, nodeT]
  by_cases h0 : t.k = 0
  · simp [h0, Bool.and_assoc]
  · by_cases h1 : t.k = 1
    · simp [h1]
    · by_cases h2 : t.k = 2
      · simp [h2, Bool.and_assoc]
      · by_cases h3 : t.k = 3
        · simp [h3, Bool.and_assoc]
        · simp [h0, h1, h2, h3]
theorem nodes_iff (t : Te) : nodesT t = true ↔ nodeT t = true ∧ ∀ j, j < t.l.length → nodesT (t.l.getD j default) = true := by
  rw [nodesT_all, Bool.and_eq_true, List.all_eq_true]
  simp
theorem ok_ref03_nodes : FOk ct_ref03_nodes (gTb nodesT) := fok_cut (m := mT) enter_ref03_nodes fun N ih => fok_ref03_nodes ok_ref03_node ih fun ds outs hw hg => by
  obtain ⟨d, r, rfl, hd, rfl⟩ := hw
  obtain ⟨t, rfl, ht⟩ := wfT hd
  simp only [cutM, mT, gTb, List.getD_cons_zero, dT_eT, int_i, Option.ite_none_right_eq_some, Option.some.injEq] at hg
  obtain ⟨hsz, rfl⟩ := hg
  have hl := ht.l
  simp only [tree_ref03_nodes, go_need, go_br, go_leaf, go_back, allSay, X.says, X.ev, X.evs, evl, tblS, List.getD_cons_zero, List.getD_cons_succ, List.getElem?_cons_zero, List.getElem?_cons_succ, tt_b, int_i, str_s, rs_r, Option.isSome_some, Option.getD_some, decide_eq_true_eq, decide_eq_false_iff_not, dS_eS, dC_eC, dU_eU, dW_eW, dY_eY, eC_0, eC_1, eU_0, eU_1, eW_0, eW_1, eW_2, eY_0, eY_1, eS_0, eS_1, eS_2, eS_3, eS_4, eS_5, List.length_map, i_inj, b_inj, s_inj, eC_eq, eU_eq, eW_eq, eY_eq, eS_eq, rng64, List.take_succ_cons, List.take_zero, List.nil_append, List.cons_append, decide_true, decide_false, Bool.or_true, true_and, and_true, dT_eT, eT_0, eT_1, eT_2, eT_3, eT_eq, eT_z, gTb]
  refine ⟨fun hn => ?_, fun hn => ?_⟩
  · rw [nodesT_all, show nodeT t = false by simpa using hn]
    rfl
  have hn : nodeT t = true := by simpa using hn
  rw [go_loop]
  refine ⟨fun st => ∃ k : Nat, k ≤ t.l.length ∧ st = [.b false, .i k] ∧ ∀ j, j < k → nodesT (t.l.getD j default) = true, fun st => t.l.length - (st.getD 1 .u).int.toNat, ⟨0, Nat.zero_le _, rfl, fun j hj => absurd hj (Nat.not_lt_zero _)⟩, ?_⟩
  rintro st - ⟨k, hk, rfl, hP⟩
  rw [go_br]
  refine ⟨fun hlt => ?_, fun hlt => ?_⟩
  · simp only [go_need, go_br, go_leaf, go_back, allSay, X.says, X.ev, X.evs, evl, tblS, List.getD_cons_zero, List.getD_cons_succ, List.getElem?_cons_zero, List.getElem?_cons_succ, tt_b, int_i, str_s, rs_r, Option.isSome_some, Option.getD_some, decide_eq_true_eq, decide_eq_false_iff_not, dS_eS, dC_eC, dU_eU, dW_eW, dY_eY, eC_0, eC_1, eU_0, eU_1, eW_0, eW_1, eW_2, eY_0, eY_1, eS_0, eS_1, eS_2, eS_3, eS_4, eS_5, List.length_map, i_inj, b_inj, s_inj, eC_eq, eU_eq, eW_eq, eY_eq, eS_eq, rng64, List.take_succ_cons, List.take_zero, List.nil_append, List.cons_append, decide_true, decide_false, Bool.or_true, true_and, and_true, dT_eT, eT_0, eT_1, eT_2, eT_3, eT_eq, eT_z] at hlt
    have hkl' : k < t.l.length := by omega
    have ha := arg_sz hkl'
    simp only [go_need, go_br, go_leaf, go_back, allSay, X.says, X.ev, X.evs, evl, tblS, List.getD_cons_zero, List.getD_cons_succ, List.getElem?_cons_zero, List.getElem?_cons_succ, tt_b, int_i, str_s, rs_r, Option.isSome_some, Option.getD_some, decide_eq_true_eq, decide_eq_false_iff_not, dS_eS, dC_eC, dU_eU, dW_eW, dY_eY, eC_0, eC_1, eU_0, eU_1, eW_0, eW_1, eW_2, eY_0, eY_1, eS_0, eS_1, eS_2, eS_3, eS_4, eS_5, List.length_map, i_inj, b_inj, s_inj, eC_eq, eU_eq, eW_eq, eY_eq, eS_eq, rng64, List.take_succ_cons, List.take_zero, List.nil_append, List.cons_append, decide_true, decide_false, Bool.or_true, true_and, and_true, dT_eT, eT_0, eT_1, eT_2, eT_3, eT_eq, eT_z, get_t hkl', cutM, mT, gTb, if_pos (show szT (t.l.getD k default) < N by omega)]
    refine ⟨⟨by omega, by omega⟩, fun hx => ?_, fun hx => ⟨⟨by omega, by omega⟩, ?_⟩⟩
    · have : nodesT t = false := by
        cases hh : nodesT t with
        | false => rfl
        | true => rw [((nodes_iff t).1 hh).2 k hkl'] at hx; cases hx
      rw [this]
    · rw [updB, if_pos rfl]
      refine ⟨⟨k + 1, by omega, by simp, upto_succ hP (by simpa using hx)⟩, ?_⟩
      simp [D.int]
      omega
  · simp only [go_need, go_br, go_leaf, go_back, allSay, X.says, X.ev, X.evs, evl, tblS, List.getD_cons_zero, List.getD_cons_succ, List.getElem?_cons_zero, List.getElem?_cons_succ, tt_b, int_i, str_s, rs_r, Option.isSome_some, Option.getD_some, decide_eq_true_eq, decide_eq_false_iff_not, dS_eS, dC_eC, dU_eU, dW_eW, dY_eY, eC_0, eC_1, eU_0, eU_1, eW_0, eW_1, eW_2, eY_0, eY_1, eS_0, eS_1, eS_2, eS_3, eS_4, eS_5, List.length_map, i_inj, b_inj, s_inj, eC_eq, eU_eq, eW_eq, eY_eq, eS_eq, rng64, List.take_succ_cons, List.take_zero, List.nil_append, List.cons_append, decide_true, decide_false, Bool.or_true, true_and, and_true, dT_eT, eT_0, eT_1, eT_2, eT_3, eT_eq, eT_z] at hlt ⊢
    have : k = t.l.length := by omega
    subst this
    rw [(nodes_iff t).2 ⟨hn, hP⟩]
theorem ok_ref03_Valid : FOk ct_ref03_Valid (gTb validT) := fok_ref03_Valid ok_ref03_Size ok_ref03_nodes fun ds outs hw hg => by
  obtain ⟨d, r, rfl, hd, rfl⟩ := hw
  obtain ⟨t, rfl, ht⟩ := wfT hd
  simp only [gTb, dT_eT, Option.some.injEq] at hg
  subst hg
  have e : decide (min (szT t : Int) 2001 ≤ 2000) = decide (szT t ≤ 2000) := by rw [decide_eq_decide]; omega
  simp [tree_ref03_Valid, go_need, go_br, go_leaf, go_back, allSay, X.says, X.ev, X.evs, evl, tblS, List.getD_cons_zero, List.getD_cons_succ, List.getElem?_cons_zero, List.getElem?_cons_succ, tt_b, int_i, str_s, rs_r, Option.isSome_some, Option.getD_some, decide_eq_true_eq, decide_eq_false_iff_not, dS_eS, dC_eC, dU_eU, dW_eW, dY_eY, eC_0, eC_1, eU_0, eU_1, eW_0, eW_1, eW_2, eY_0, eY_1, eS_0, eS_1, eS_2, eS_3, eS_4, eS_5, List.length_map, i_inj, b_inj, s_inj, eC_eq, eU_eq, eW_eq, eY_eq, eS_eq, rng64, List.take_succ_cons, List.take_zero, List.nil_append, List.cons_append, decide_true, decide_false, Bool.or_true, true_and, and_true, dT_eT, eT_0, eT_1, eT_2, eT_3, eT_eq, eT_z, gTi, gTb, validT, e]
def gSz1 : List D → Option (List D)
  | [t, m] => if 1 ≤ m.int then some [.i (m.int - min (szT (dT t) : Int) m.int)] else none
  | _ => none
theorem ok_term_Size_1 : FOk ct_term_Size_1 gSz1 := fok_cut (m := mT) enter_term_Size_1 fun N ih => fok_term_Size_1 ih fun ds outs hw hg => by
  obtain ⟨d, r, rfl, hd, e, r', rfl, he, rfl⟩ := hw
  obtain ⟨t, rfl, ht⟩ := wfT hd
  obtain ⟨m, rfl, hm⟩ := wfI he
  simp only [cutM, mT, gSz1, List.getD_cons_zero, dT_eT, int_i, Option.ite_none_right_eq_some, Option.some.injEq] at hg
  obtain ⟨hsz, h1, rfl⟩ := hg
  have hl := ht.l
  rw [tree_term_Size_1, go_need]
  refine ⟨by simp only [go_need, go_br, go_leaf, go_back, allSay, X.says, X.ev, X.evs, evl, tblS, List.getD_cons_zero, List.getD_cons_succ, List.getElem?_cons_zero, List.getElem?_cons_succ, tt_b, int_i, str_s, rs_r, Option.isSome_some, Option.getD_some, decide_eq_true_eq, decide_eq_false_iff_not, dS_eS, dC_eC, dU_eU, dW_eW, dY_eY, eC_0, eC_1, eU_0, eU_1, eW_0, eW_1, eW_2, eY_0, eY_1, eS_0, eS_1, eS_2, eS_3, eS_4, eS_5, List.length_map, i_inj, b_inj, s_inj, eC_eq, eU_eq, eW_eq, eY_eq, eS_eq, rng64, List.take_succ_cons, List.take_zero, List.nil_append, List.cons_append, decide_true, decide_false, Bool.or_true, true_and, and_true, dT_eT, eT_0, eT_1, eT_2, eT_3, eT_eq, eT_z]; omega, ?_⟩
  rw [go_loop]
  refine ⟨fun st => ∃ k : Nat, k ≤ t.l.length ∧ st = [.i k, .i (m - min ((szTs (t.l.take k) : Int) + 1) m)], fun st => t.l.length - (st.getD 0 .u).int.toNat, ⟨0, Nat.zero_le _, by simp [X.evs, X.ev, szTs, evl, D.int]; omega⟩, ?_⟩
  rintro st - ⟨k, hk, rfl⟩
  rw [go_br]
  refine ⟨fun hlt => ?_, fun hlt => ?_⟩
  · simp only [go_need, go_br, go_leaf, go_back, allSay, X.says, X.ev, X.evs, evl, tblS, List.getD_cons_zero, List.getD_cons_succ, List.getElem?_cons_zero, List.getElem?_cons_succ, tt_b, int_i, str_s, rs_r, Option.isSome_some, Option.getD_some, decide_eq_true_eq, decide_eq_false_iff_not, dS_eS, dC_eC, dU_eU, dW_eW, dY_eY, eC_0, eC_1, eU_0, eU_1, eW_0, eW_1, eW_2, eY_0, eY_1, eS_0, eS_1, eS_2, eS_3, eS_4, eS_5, List.length_map, i_inj, b_inj, s_inj, eC_eq, eU_eq, eW_eq, eY_eq, eS_eq, rng64, List.take_succ_cons, List.take_zero, List.nil_append, List.cons_append, decide_true, decide_false, Bool.or_true, true_and, and_true, dT_eT, eT_0, eT_1, eT_2, eT_3, eT_eq, eT_z, Bool.and_eq_true] at hlt
    obtain ⟨hkl, hlm⟩ := hlt
    have hkl' : k < t.l.length := by omega
    have ha := arg_sz hkl'
    have hs := szTs_snoc hkl'
    have hmn : 1 ≤ m - min ((szTs (t.l.take k) : Int) + 1) m := by omega
    simp only [go_need, go_br, go_leaf, go_back, allSay, X.says, X.ev, X.evs, evl, tblS, List.getD_cons_zero, List.getD_cons_succ, List.getElem?_cons_zero, List.getElem?_cons_succ, tt_b, int_i, str_s, rs_r, Option.isSome_some, Option.getD_some, decide_eq_true_eq, decide_eq_false_iff_not, dS_eS, dC_eC, dU_eU, dW_eW, dY_eY, eC_0, eC_1, eU_0, eU_1, eW_0, eW_1, eW_2, eY_0, eY_1, eS_0, eS_1, eS_2, eS_3, eS_4, eS_5, List.length_map, i_inj, b_inj, s_inj, eC_eq, eU_eq, eW_eq, eY_eq, eS_eq, rng64, List.take_succ_cons, List.take_zero, List.nil_append, List.cons_append, decide_true, decide_false, Bool.or_true, true_and, and_true, dT_eT, eT_0, eT_1, eT_2, eT_3, eT_eq, eT_z, get_t hkl', cutM, mT, gSz1, if_pos hmn, if_pos (show szT (t.l.getD k default) < N by omega)]
    refine ⟨⟨by omega, by omega⟩, ⟨by omega, by omega⟩, ?_⟩
    rw [updB, if_pos rfl]
    refine ⟨⟨k + 1, by omega, ?_⟩, ?_⟩
    · rw [hs]
      simp
      omega
    · simp [D.int]
      omega
  · simp only [go_need, go_br, go_leaf, go_back, allSay, X.says, X.ev, X.evs, evl, tblS, List.getD_cons_zero, List.getD_cons_succ, List.getElem?_cons_zero, List.getElem?_cons_succ, tt_b, int_i, str_s, rs_r, Option.isSome_some, Option.getD_some, decide_eq_true_eq, decide_eq_false_iff_not, dS_eS, dC_eC, dU_eU, dW_eW, dY_eY, eC_0, eC_1, eU_0, eU_1, eW_0, eW_1, eW_2, eY_0, eY_1, eS_0, eS_1, eS_2, eS_3, eS_4, eS_5, List.length_map, i_inj, b_inj, s_inj, eC_eq, eU_eq, eW_eq, eY_eq, eS_eq, rng64, List.take_succ_cons, List.take_zero, List.nil_append, List.cons_append, decide_true, decide_false, Bool.or_true, true_and, and_true, dT_eT, eT_0, eT_1, eT_2, eT_3, eT_eq, eT_z, Bool.and_eq_false_iff] at hlt
    simp only [go_need, go_br, go_leaf, go_back, allSay, X.says, X.ev, X.evs, evl, tblS, List.getD_cons_zero, List.getD_cons_succ, List.getElem?_cons_zero, List.getElem?_cons_succ, tt_b, int_i, str_s, rs_r, Option.isSome_some, Option.getD_some, decide_eq_true_eq, decide_eq_false_iff_not, dS_eS, dC_eC, dU_eU, dW_eW, dY_eY, eC_0, eC_1, eU_0, eU_1, eW_0, eW_1, eW_2, eY_0, eY_1, eS_0, eS_1, eS_2, eS_3, eS_4, eS_5, List.length_map, i_inj, b_inj, s_inj, eC_eq, eU_eq, eW_eq, eY_eq, eS_eq, rng64, List.take_succ_cons, List.take_zero, List.nil_append, List.cons_append, decide_true, decide_false, Bool.or_true, true_and, and_true, dT_eT, eT_0, eT_1, eT_2, eT_3, eT_eq, eT_z]
    have hz := szT_l t
    have : m - min ((szTs (t.l.take k) : Int) + 1) m = m - min (szT t : Int) m := by
      rcases hlt with h | h
      · have : k = t.l.length := by omega
        subst this
        rw [List.take_length]
        omega
      · have h2 := szTs_app (t.l.take k) (t.l.drop k)
        rw [List.take_append_drop] at h2
        omega
    rw [this]
theorem ok_term_Size : FOk ct_term_Size (gTi fun t => min (szT t : Int) 2001) := fok_term_Size ok_term_Size_1 fun ds outs hw hg => by
  obtain ⟨d, r, rfl, hd, rfl⟩ := hw
  obtain ⟨t, rfl, ht⟩ := wfT hd
  simp only [gTi, dT_eT, Option.some.injEq] at hg
  subst hg
  simp [tree_term_Size, go_need, go_br, go_leaf, go_back, allSay, X.says, X.ev, X.evs, evl, tblS, List.getD_cons_zero, List.getD_cons_succ, List.getElem?_cons_zero, List.getElem?_cons_succ, tt_b, int_i, str_s, rs_r, Option.isSome_some, Option.getD_some, decide_eq_true_eq, decide_eq_false_iff_not, dS_eS, dC_eC, dU_eU, dW_eW, dY_eY, eC_0, eC_1, eU_0, eU_1, eW_0, eW_1, eW_2, eY_0, eY_1, eS_0, eS_1, eS_2, eS_3, eS_4, eS_5, List.length_map, i_inj, b_inj, s_inj, eC_eq, eU_eq, eW_eq, eY_eq, eS_eq, rng64, List.take_succ_cons, List.take_zero, List.nil_append, List.cons_append, decide_true, decide_false, Bool.or_true, true_and, and_true, dT_eT, eT_0, eT_1, eT_2, eT_3, eT_eq, eT_z, gSz1]
  omega
theorem ok_term_fits : FOk ct_term_fits (gTb nodesT) := fok_cut (m := mT) enter_term_fits fun N ih => fok_term_fits ih fun ds outs hw hg => by
  obtain ⟨d, r, rfl, hd, rfl⟩ := hw
  obtain ⟨t, rfl, ht⟩ := wfT hd
  simp only [cutM, mT, gTb, List.getD_cons_zero, dT_eT, int_i, Option.ite_none_right_eq_some, Option.some.injEq] at hg
  obtain ⟨hsz, rfl⟩ := hg
  have hl := ht.l
  have key : ∀ (x : X), x.ev (evl (tblS [(ct_term_fits, cutM mT N (gTb nodesT))]) [eT t]) = .b (nodeT t) → Tree.go (tblS [(ct_term_fits, cutM mT N (gTb nodesT))]) (fun o => o = [D.b (nodesT t)]) (.loop 12 1 [x, (.lit (.i 0))] (.br (.and (.lt (.tok 2) (.len (.fld (.tok 0) 3))) (.tok 1)) (.need [(.le (.lit (.i 0)) (.tok 2)), (.lt (.tok 2) (.len (.fld (.tok 0) 3))), (.ok 0 [(.get (.fld (.tok 0) 3) (.tok 2))])] (.need [(.rng .i64 (.add (.tok 2) (.lit (.i 1))))] (.back 12 [(.call 0 0 [(.get (.fld (.tok 0) 3) (.tok 2))]), (.add (.tok 2) (.lit (.i 1)))]))) (.leaf [(.tok 1)]))) [eT t] fun _ _ => False := by
    intro x hx
    rw [go_loop]
    refine ⟨fun st => ∃ (k : Nat) (v : Bool), k ≤ t.l.length ∧ st = [.b v, .i k] ∧ (v = true ↔ nodeT t = true ∧ ∀ j, j < k → nodesT (t.l.getD j default) = true), fun st => t.l.length - (st.getD 1 .u).int.toNat, ⟨0, nodeT t, Nat.zero_le _, by simp only [X.evs, hx, X.ev]; rfl, by simp⟩, ?_⟩
    rintro st - ⟨k, v, hk, rfl, hv⟩
    rw [go_br]
    refine ⟨fun hlt => ?_, fun hlt => ?_⟩
    · simp only [go_need, go_br, go_leaf, go_back, allSay, X.says, X.ev, X.evs, evl, tblS, List.getD_cons_zero, List.getD_cons_succ, List.getElem?_cons_zero, List.getElem?_cons_succ, tt_b, int_i, str_s, rs_r, Option.isSome_some, Option.getD_some, decide_eq_true_eq, decide_eq_false_iff_not, dS_eS, dC_eC, dU_eU, dW_eW, dY_eY, eC_0, eC_1, eU_0, eU_1, eW_0, eW_1, eW_2, eY_0, eY_1, eS_0, eS_1, eS_2, eS_3, eS_4, eS_5, List.length_map, i_inj, b_inj, s_inj, eC_eq, eU_eq, eW_eq, eY_eq, eS_eq, rng64, List.take_succ_cons, List.take_zero, List.nil_append, List.cons_append, decide_true, decide_false, Bool.or_true, true_and, and_true, dT_eT, eT_0, eT_1, eT_2, eT_3, eT_eq, eT_z, Bool.and_eq_true] at hlt
      obtain ⟨hlt, rfl⟩ := hlt
      have hkl' : k < t.l.length := by omega
      have ha := arg_sz hkl'
      simp only [go_need, go_br, go_leaf, go_back, allSay, X.says, X.ev, X.evs, evl, tblS, List.getD_cons_zero, List.getD_cons_succ, List.getElem?_cons_zero, List.getElem?_cons_succ, tt_b, int_i, str_s, rs_r, Option.isSome_some, Option.getD_some, decide_eq_true_eq, decide_eq_false_iff_not, dS_eS, dC_eC, dU_eU, dW_eW, dY_eY, eC_0, eC_1, eU_0, eU_1, eW_0, eW_1, eW_2, eY_0, eY_1, eS_0, eS_1, eS_2, eS_3, eS_4, eS_5, List.length_map, i_inj, b_inj, s_inj, eC_eq, eU_eq, eW_eq, eY_eq, eS_eq, rng64, List.take_succ_cons, List.take_zero, List.nil_append, List.cons_append, decide_true, decide_false, Bool.or_true, true_and, and_true, dT_eT, eT_0, eT_1, eT_2, eT_3, eT_eq, eT_z, get_t hkl', cutM, mT, gTb, if_pos (show szT (t.l.getD k default) < N by omega)]
      refine ⟨⟨by omega, by omega⟩, ⟨by omega, by omega⟩, ?_⟩
      rw [updB, if_pos rfl]
      have hv' := hv.1 rfl
      refine ⟨⟨k + 1, _, by omega, rfl, ⟨fun h => ⟨hv'.1, upto_succ hv'.2 h⟩, fun h => h.2 k (Nat.lt_succ_self _)⟩⟩, ?_⟩
      simp [D.int]
      omega
    · simp only [go_need, go_br, go_leaf, go_back, allSay, X.says, X.ev, X.evs, evl, tblS, List.getD_cons_zero, List.getD_cons_succ, List.getElem?_cons_zero, List.getElem?_cons_succ, tt_b, int_i, str_s, rs_r, Option.isSome_some, Option.getD_some, decide_eq_true_eq, decide_eq_false_iff_not, dS_eS, dC_eC, dU_eU, dW_eW, dY_eY, eC_0, eC_1, eU_0, eU_1, eW_0, eW_1, eW_2, eY_0, eY_1, eS_0, eS_1, eS_2, eS_3, eS_4, eS_5, List.length_map, i_inj, b_inj, s_inj, eC_eq, eU_eq, eW_eq, eY_eq, eS_eq, rng64, List.take_succ_cons, List.take_zero, List.nil_append, List.cons_append, decide_true, decide_false, Bool.or_true, true_and, and_true, dT_eT, eT_0, eT_1, eT_2, eT_3, eT_eq, eT_z, Bool.and_eq_false_iff] at hlt
      simp only [go_need, go_br, go_leaf, go_back, allSay, X.says, X.ev, X.evs, evl, tblS, List.getD_cons_zero, List.getD_cons_succ, List.getElem?_cons_zero, List.getElem?_cons_succ, tt_b, int_i, str_s, rs_r, Option.isSome_some, Option.getD_some, decide_eq_true_eq, decide_eq_false_iff_not, dS_eS, dC_eC, dU_eU, dW_eW, dY_eY, eC_0, eC_1, eU_0, eU_1, eW_0, eW_1, eW_2, eY_0, eY_1, eS_0, eS_1, eS_2, eS_3, eS_4, eS_5, List.length_map, i_inj, b_inj, s_inj, eC_eq, eU_eq, eW_eq, eY_eq, eS_eq, rng64, List.take_succ_cons, List.take_zero, List.nil_append, List.cons_append, decide_true, decide_false, Bool.or_true, true_and, and_true, dT_eT, eT_0, eT_1, eT_2, eT_3, eT_eq, eT_z]
      rw [show v = nodesT t from ?_]
      cases hvv : v with
      | false =>
        cases hh : nodesT t with
        | false => rfl
        | true =>
          have h2 := (nodes_iff t).1 hh
          rw [hv.2 ⟨h2.1, fun j hj => h2.2 j (by omega)⟩] at hvv
          cases hvv
      | true =>
        have : k = t.l.length := by
          rcases hlt with h | h
          · omega
          · rw [hvv] at h; cases h
        subst this
        exact ((nodes_iff t).2 (hv.1 hvv)).symm
  rw [tree_term_fits]
  simp only [go_br]
  have e0 : ∀ z : Int, (X.eq (.fld (.tok 0) 0) (.lit (.i z))).ev (evl (tblS [(ct_term_fits, cutM mT N (gTb nodesT))]) [eT t]) = .b (decide (t.k = z)) := fun z => by
    simp only [go_need, go_br, go_leaf, go_back, allSay, X.says, X.ev, X.evs, evl, tblS, List.getD_cons_zero, List.getD_cons_succ, List.getElem?_cons_zero, List.getElem?_cons_succ, tt_b, int_i, str_s, rs_r, Option.isSome_some, Option.getD_some, decide_eq_true_eq, decide_eq_false_iff_not, dS_eS, dC_eC, dU_eU, dW_eW, dY_eY, eC_0, eC_1, eU_0, eU_1, eW_0, eW_1, eW_2, eY_0, eY_1, eS_0, eS_1, eS_2, eS_3, eS_4, eS_5, List.length_map, i_inj, b_inj, s_inj, eC_eq, eU_eq, eW_eq, eY_eq, eS_eq, rng64, List.take_succ_cons, List.take_zero, List.nil_append, List.cons_append, decide_true, decide_false, Bool.or_true, true_and, and_true, dT_eT, eT_0, eT_1, eT_2, eT_3, eT_eq, eT_z]
  simp only [e0, tt_b, decide_eq_true_eq, decide_eq_false_iff_not]
  refine ⟨fun h => key _ ?_, fun h0 => ⟨fun h => key _ ?_, fun h1 => ⟨fun h => key _ ?_, fun h2 => ⟨fun h => key _ ?_, fun h3 => key _ ?_⟩⟩⟩⟩
  all_goals simp only [go_need, go_br, go_leaf, go_back, allSay, X.says, X.ev, X.evs, evl, tblS, List.getD_cons_zero, List.getD_cons_succ, List.getElem?_cons_zero, List.getElem?_cons_succ, tt_b, int_i, str_s, rs_r, Option.isSome_some, Option.getD_some, decide_eq_true_eq, decide_eq_false_iff_not, dS_eS, dC_eC, dU_eU, dW_eW, dY_eY, eC_0, eC_1, eU_0, eU_1, eW_0, eW_1, eW_2, eY_0, eY_1, eS_0, eS_1, eS_2, eS_3, eS_4, eS_5, List.length_map, i_inj, b_inj, s_inj, eC_eq, eU_eq, eW_eq, eY_eq, eS_eq, rng64, List.take_succ_cons, List.take_zero, List.nil_append, List.cons_append, decide_true, decide_false, Bool.or_true, true_and, and_true, dT_eT, eT_0, eT_1, eT_2, eT_3, eT_eq, eT_z, nodeT]
  · simp [h, Bool.and_assoc]
  · simp [h, Bool.and_assoc]
  · simp [h, Bool.and_assoc]
  · have e8 : decide (0 < (t.l.length : Int)) = decide (1 ≤ (t.l.length : Int)) := rfl
    rw [e8]
    simp [h, Bool.and_assoc]
  · simp [h0, h1, h2, h3]
theorem ok_term_Valid : FOk ct_term_Valid (gTb validT) := fok_term_Valid ok_term_Size ok_term_fits fun ds outs hw hg => by
  obtain ⟨d, r, rfl, hd, rfl⟩ := hw
  obtain ⟨t, rfl, ht⟩ := wfT hd
  simp only [gTb, dT_eT, Option.some.injEq] at hg
  subst hg
  have e : decide (min (szT t : Int) 2001 ≤ 2000) = decide (szT t ≤ 2000) := by rw [decide_eq_decide]; omega
  simp [tree_term_Valid, go_need, go_br, go_leaf, go_back, allSay, X.says, X.ev, X.evs, evl, tblS, List.getD_cons_zero, List.getD_cons_succ, List.getElem?_cons_zero, List.getElem?_cons_succ, tt_b, int_i, str_s, rs_r, Option.isSome_some, Option.getD_some, decide_eq_true_eq, decide_eq_false_iff_not, dS_eS, dC_eC, dU_eU, dW_eW, dY_eY, eC_0, eC_1, eU_0, eU_1, eW_0, eW_1, eW_2, eY_0, eY_1, eS_0, eS_1, eS_2, eS_3, eS_4, eS_5, List.length_map, i_inj, b_inj, s_inj, eC_eq, eU_eq, eW_eq, eY_eq, eS_eq, rng64, List.take_succ_cons, List.take_zero, List.nil_append, List.cons_append, decide_true, decide_false, Bool.or_true, true_and, and_true, dT_eT, eT_0, eT_1, eT_2, eT_3, eT_eq, eT_z, gTi, gTb, validT, e]
end Go.Proofs.Ytinclokohcommaa


namespace Go.Proofs.Ytinclokohcommaa
open Go.RowKit
set_option linter.unusedVariables false
set_option linter.unusedSimpArgs false

section
variable {f g : Int → Int}
end

end Go.Proofs.Ytinclokohcommaa


namespace Go.Proofs.Ytinclokohcommaa
open Go.RowKit
set_option linter.unusedVariables false
set_option maxRecDepth 100000

end Go.Proofs.Ytinclokohcommaa


namespace Go.Proofs.Ytinclokohcommaa
open Go.RowKit
set_option linter.unusedVariables false
set_option linter.unusedSimpArgs false

def cellAt (s : So) (i : Int) : Ce := s.cs.getD i.toNat default
def inS (s : So) (i : Int) : Bool := decide (0 ≤ i) && decide (i < s.cs.length)
def tagS (s : So) (i : Int) : Int := if inS s i then (cellAt s i).t else -1
def arS (s : So) (n : Int) : Int := if 0 ≤ n ∧ n < s.ys.length then (s.ys.getD n.toNat default).ar else -1
def vcR (s : So) (c : Ce) : Bool := if c.t = 0 then inS s c.n && !decide (tagS s c.n = 4) else if c.t = 1 then true else if c.t = 2 then decide (arS s c.n = 0) else if c.t = 3 then decide (tagS s c.n = 4) else if c.t = 5 then decide (tagS s c.n = 5) else false
def vcP (s : So) (c : Ce) : Bool := if c.t = 0 then decide (0 ≤ tagS s c.n) && !decide (tagS s c.n = 4) else if c.t = 1 then true else if c.t = 2 then decide (arS s c.n = 0) else if c.t = 3 then decide (tagS s c.n = 4) else if c.t = 5 then decide (tagS s c.n = 5) else false
def groupS (s : So) (i : Int) : Bool := decide (tagS s (i + 1) = 1) && (decide (1 ≤ (cellAt s (i + 1)).n) && (decide ((cellAt s (i + 1)).n ≤ s.ser) && (decide (0 ≤ tagS s (i + 2)) && (!decide (tagS s (i + 2) = 4) && !decide (tagS s (i + 2) = 5)))))

def gSIi (f : So → Int → Int) : List D → Option (List D)
  | [s, i] => some [.i (f (dS s) i.int)]
  | _ => none
def gSCb (f : So → Ce → Bool) : List D → Option (List D)
  | [s, c] => some [.b (f (dS s) (dC c))]
  | _ => none
theorem inS_iff {s : So} {i : Int} : inS s i = true ↔ 0 ≤ i ∧ i < s.cs.length := by simp [inS]
theorem cell_get {s : So} {i : Int} (h : inS s i = true) : (D.r (s.cs.map eC)).get i = eC (cellAt s i) := get_r eC (inS_iff.1 h).1 (inS_iff.1 h).2
theorem So.ok.cell {s : So} (hs : s.ok) {i : Int} (h : inS s i = true) : (cellAt s i).ok := hs.cs.2 _ (getD_mem (by have := inS_iff.1 h; omega))
theorem tagS_in {s : So} {i : Int} (h : inS s i = true) : tagS s i = (cellAt s i).t := if_pos h
theorem tagS_out {s : So} {i : Int} (h : inS s i = false) : tagS s i = -1 := if_neg (by rw [h]; decide)

theorem ok_cells_tag : FOk ct_cells_tag (gSIi tagS) := fok_cells_tag fun ds outs hw hg => by
  obtain ⟨d, r, rfl, hd, e, r', rfl, he, rfl⟩ := hw
  obtain ⟨s, rfl, hs⟩ := wfS hd
  obtain ⟨i, rfl, hi⟩ := wfI he
  simp only [gSIi, dS_eS, int_i, Option.some.injEq] at hg
  subst hg
  simp only [tree_cells_tag, Tree.go, allSay, X.says, X.ev, X.evs, evl, tblS, List.getD_cons_zero, List.getD_cons_succ, List.getElem?_cons_zero, List.getElem?_cons_succ, tt_b, int_i, str_s, rs_r, Option.isSome_some, Option.getD_some, decide_eq_true_eq, decide_eq_false_iff_not, dS_eS, dC_eC, dU_eU, dW_eW, dY_eY, eC_0, eC_1, eU_0, eU_1, eW_0, eW_1, eW_2, eY_0, eY_1, eS_0, eS_1, eS_2, eS_3, eS_4, eS_5, List.length_map, i_inj, b_inj, s_inj, eC_eq, eU_eq, eW_eq, eY_eq, eS_eq, rng64, List.take_succ_cons, List.take_zero, List.nil_append, List.cons_append, decide_true, decide_false, Bool.or_true, true_and, and_true, true_and]
  cases h : inS s i with
  | false =>
    have h' : ¬ (0 ≤ i ∧ i < s.cs.length) := fun q => by rw [inS_iff.2 q] at h; cases h
    have h2 : i < 0 ∨ (s.cs.length : Int) ≤ i := by omega
    simp [tagS_out h]
    omega
  | true =>
    have h' := inS_iff.1 h
    have h1 : ¬ i < 0 := by omega
    have h2 : ¬ (s.cs.length : Int) ≤ i := by omega
    simp [cell_get h, eC_0, tagS_in h, h', h1, h2]
theorem ar_get {s : So} {i : Int} (h : 0 ≤ i ∧ i < s.ys.length) : (D.r (s.ys.map eY)).get i = eY (s.ys.getD i.toNat default) := get_r eY h.1 h.2
theorem ok_cells_arity : FOk ct_cells_arity (gSIi arS) := fok_cells_arity fun ds outs hw hg => by
  obtain ⟨d, r, rfl, hd, e, r', rfl, he, rfl⟩ := hw
  obtain ⟨s, rfl, hs⟩ := wfS hd
  obtain ⟨i, rfl, hi⟩ := wfI he
  simp only [gSIi, dS_eS, int_i, Option.some.injEq] at hg
  subst hg
  simp only [tree_cells_arity, Tree.go, allSay, X.says, X.ev, X.evs, evl, tblS, List.getD_cons_zero, List.getD_cons_succ, List.getElem?_cons_zero, List.getElem?_cons_succ, tt_b, int_i, str_s, rs_r, Option.isSome_some, Option.getD_some, decide_eq_true_eq, decide_eq_false_iff_not, dS_eS, dC_eC, dU_eU, dW_eW, dY_eY, eC_0, eC_1, eU_0, eU_1, eW_0, eW_1, eW_2, eY_0, eY_1, eS_0, eS_1, eS_2, eS_3, eS_4, eS_5, List.length_map, i_inj, b_inj, s_inj, eC_eq, eU_eq, eW_eq, eY_eq, eS_eq, rng64, List.take_succ_cons, List.take_zero, List.nil_append, List.cons_append, decide_true, decide_false, Bool.or_true, true_and, and_true, true_and]
  by_cases h : 0 ≤ i ∧ i < s.ys.length
  · have h1 : ¬ i < 0 := by omega
    have h2 : ¬ (s.ys.length : Int) ≤ i := by omega
    simp [ar_get h, eY_1, arS, h, h1, h2]
  · simp [arS, h]
theorem ok_cells_ValidCell : FOk ct_cells_ValidCell (gSCb vcP) := fok_cells_ValidCell ok_cells_arity ok_cells_tag fun ds outs hw hg => by
  obtain ⟨d, r, rfl, hd, e, r', rfl, he, rfl⟩ := hw
  obtain ⟨s, rfl, hs⟩ := wfS hd
  obtain ⟨c, rfl, hc⟩ := wfC he
  simp only [gSCb, dS_eS, dC_eC, Option.some.injEq] at hg
  subst hg
  simp only [tree_cells_ValidCell, Tree.go, allSay, X.says, X.ev, X.evs, evl, tblS, List.getD_cons_zero, List.getD_cons_succ, List.getElem?_cons_zero, List.getElem?_cons_succ, tt_b, int_i, str_s, rs_r, Option.isSome_some, Option.getD_some, decide_eq_true_eq, decide_eq_false_iff_not, dS_eS, dC_eC, dU_eU, dW_eW, dY_eY, eC_0, eC_1, eU_0, eU_1, eW_0, eW_1, eW_2, eY_0, eY_1, eS_0, eS_1, eS_2, eS_3, eS_4, eS_5, List.length_map, i_inj, b_inj, s_inj, eC_eq, eU_eq, eW_eq, eY_eq, eS_eq, rng64, List.take_succ_cons, List.take_zero, List.nil_append, List.cons_append, decide_true, decide_false, Bool.or_true, true_and, and_true, gSIi, vcP, true_and]
  by_cases h0 : c.t = 0
  · simp [h0]
  · by_cases h1 : c.t = 1
    · simp [h1]
    · by_cases h2 : c.t = 2
      · simp [h2]
      · by_cases h3 : c.t = 3
        · simp [h3]
        · by_cases h5 : c.t = 5
          · simp [h5]
          · simp [h0, h1, h2, h3, h5]
theorem tag_in {s : So} {i : Int} (h : tagS s i = 1) : inS s i = true := by
  cases hi : inS s i with
  | true => rfl
  | false => rw [tagS_out hi] at h; cases h
end Go.Proofs.Ytinclokohcommaa


namespace Go.Proofs.Ytinclokohcommaa
open Go.RowKit
set_option linter.unusedVariables false
set_option linter.unusedSimpArgs false

theorem mfind_mset {k k' v : D} : ∀ {l : List D}, mfind k (mset k' v l) = if k' = k then some v else mfind k l
  | [] => by simp [mset, mfind, D.fld, D.fs]
  | p :: l => by
    unfold mset
    split
    · rename_i h
      by_cases hk : k' = k
      · simp [mfind, D.fld, D.fs, hk]
      · have : ¬ (p.fld 0 = k) := fun e => hk (h.symm.trans e)
        simp [mfind, D.fld, D.fs, hk, this]
        intro e
        exact absurd e this
    · rename_i h
      unfold mfind
      by_cases hk : p.fld 0 = k
      · have : ¬ (k' = k) := fun e => h (hk.trans e.symm)
        simp [hk, this]
      · simp only [if_neg hk]
        exact mfind_mset

def okY (y : Sy) : Bool := decide (y.name.size ≤ 100) && (decide (0 ≤ y.ar) && decide (y.ar ≤ 8))
def symAt (l : List Sy) (k : Nat) : Bool := okY (l.getD k default) && !decide (l.getD k default ∈ l.take k)
def symsB (l : List Sy) : Bool := decide (l.length ≤ 1048576) && (List.range l.length).all (symAt l)
def Seen (x : D) (l : List Sy) (k : Nat) (L : List D) : Prop := ∀ y, mfind (eY y) L = if y ∈ l.take k then some x else none
theorem Seen.nil {x : D} {l : List Sy} : Seen x l 0 [] := fun y => by simp [mfind]
theorem Seen.put {x : D} {l : List Sy} {k : Nat} {L : List D} (h : Seen x l k L) (hk : k < l.length) : Seen x l (k + 1) (mset (eY (l.getD k default)) x L) := fun y => by
  rw [mfind_mset, take_snoc hk, h y]
  generalize l.getD k default = z
  by_cases hy : y = z
  · subst hy; simp
  · have : ¬ (z = y) := fun e => hy e.symm
    simp [eY_eq, this, hy]

end Go.Proofs.Ytinclokohcommaa


namespace Go.Proofs.Ytinclokohcommaa
open Go.RowKit
set_option linter.unusedVariables false
set_option linter.unusedSimpArgs false

def endsN (s : So) : Nat → Int → Bool
  | 0, _ => false
  | k + 1, n => if tagS s n = 0 ∧ ¬ (cellAt s n).n = n then endsN s k (cellAt s n).n else true
def endsB (s : So) (n : Int) : Bool := endsN s (s.cs.length + 1) n

theorem tag_in' {s : So} {i : Int} {t : Int} (ht : t ≠ -1) (h : tagS s i = t) : inS s i = true := by
  cases hi : inS s i with
  | true => rfl
  | false => rw [tagS_out hi] at h; exact absurd h.symm ht

def cellR (s : So) (i : Int) : Bool :=
  if (cellAt s i).t = 4 then decide (1 ≤ arS s (cellAt s i).n) && (inS s (i + arS s (cellAt s i).n) && (List.range (arS s (cellAt s i).n).toNat).all fun j => !decide (tagS s (i + ((j : Int) + 1)) = 4))
  else vcR s (cellAt s i) && (endsB s i && (!decide ((cellAt s i).t = 5) || (decide ((cellAt s i).n = i) && groupS s i)))
def fitsP (s : So) (i : Int) : Bool :=
  if (cellAt s i).t = 4 then decide (1 ≤ arS s (cellAt s i).n) && (List.range (arS s (cellAt s i).n).toNat).all fun j => decide (0 ≤ tagS s (i + ((j : Int) + 1))) && !decide (tagS s (i + ((j : Int) + 1)) = 4)
  else if (cellAt s i).t = 5 then decide ((cellAt s i).n = i) && groupS s i else vcP s (cellAt s i)
def oldB (vc : So → Ce → Bool) (rg : So → Int → Bool) (s : So) (u : Un) : Bool :=
  rg s u.at' && if u.old.t = 0 then decide (u.old.n = u.at') else if u.old.t = 5 then decide (u.old.n = u.at') && (groupS s u.at' && !decide (tagS s (u.at' - 1) = 5)) else if u.old.t = 1 ∨ u.old.t = 2 ∨ u.old.t = 3 then vc s u.old else false
def oldR : So → Un → Bool := oldB vcR inS
def oldP : So → Un → Bool := oldB vcP fun s i => decide (0 ≤ tagS s i)
end Go.Proofs.Ytinclokohcommaa


namespace Go.Proofs.Ytinclokohcommaa
open Go.RowKit
set_option linter.unusedVariables false
set_option linter.unusedSimpArgs false

section
variable {s : So}

def Ns (s : So) (n : Int) : Prop := tagS s n = 0 ∧ ¬ (cellAt s n).n = n
abbrev nx (s : So) (n : Int) : Int := (cellAt s n).n
theorem endsN_ns {k : Nat} {n : Int} (h : Ns s n) : endsN s (k + 1) n = endsN s k (nx s n) := if_pos h
theorem endsN_st {k : Nat} {n : Int} (h : ¬ Ns s n) : endsN s (k + 1) n = true := if_neg h
theorem Ns.inS {n : Int} (h : Ns s n) : inS s n = true := tag_in' (by decide) h.1
theorem endsN_up {k : Nat} : ∀ {n : Int}, endsN s k n = true → endsN s (k + 1) n = true := by
  induction k with
  | zero => intro n h; cases h
  | succ k ih =>
    intro n h
    by_cases hn : Ns s n
    · rw [endsN_ns hn] at h ⊢
      exact ih h
    · exact endsN_st hn
theorem endsN_le {k j : Nat} (hk : k ≤ j) {n : Int} (h : endsN s k n = true) : endsN s j n = true := by
  obtain ⟨d, rfl⟩ := Nat.exists_eq_add_of_le hk
  clear hk
  induction d with
  | zero => exact h
  | succ d ih => exact endsN_up ih
def En (s : So) (n : Int) : Prop := ∃ k, endsN s k n = true
theorem En.st {n : Int} (h : ¬ Ns s n) : En s n := ⟨1, endsN_st h⟩
theorem En.ns {n : Int} (h : Ns s n) (he : En s (nx s n)) : En s n := let ⟨k, hk⟩ := he; ⟨k + 1, (endsN_ns h).trans hk⟩

theorem nodup_lt : ∀ (n : Nat) (l : List Nat), l.Nodup → (∀ x ∈ l, x < n) → l.length ≤ n
  | 0, [], _, _ => Nat.le_refl _
  | 0, x :: l, _, h => absurd (h x List.mem_cons_self) (Nat.not_lt_zero _)
  | n + 1, l, hn, h => by
    have h1 := nodup_lt n (l.erase n) (hn.erase n) fun x hx => by
      have h2 := (hn.mem_erase_iff).1 hx
      have := h x h2.2
      have := h2.1
      omega
    have h2 := List.length_erase (a := n) (l := l)
    split at h2 <;> omega

theorem rank_list : ∀ (k : Nat) (n : Int), endsN s (k + 1) n = true → endsN s k n = false → ∃ l : List Int, l.length = k ∧ l.Nodup ∧ (∀ x ∈ l, inS s x = true) ∧ ∀ x ∈ l, ∃ j, j ≤ k ∧ endsN s (j + 1) x = true
  | 0, n, _, _ => ⟨[], rfl, List.nodup_nil, (fun x hx => by cases hx), fun x hx => by cases hx⟩
  | k + 1, n, h1, h2 => by
    have hn : Ns s n := Classical.byContradiction fun hn => by rw [endsN_st hn] at h2; cases h2
    rw [endsN_ns hn] at h1 h2
    obtain ⟨l, e1, e2, e3, e4⟩ := rank_list k _ h1 h2
    refine ⟨n :: l, by simp [e1], ?_, fun x hx => ?_, fun x hx => ?_⟩
    · refine List.nodup_cons.2 ⟨fun hm => ?_, e2⟩
      obtain ⟨j, hj, he⟩ := e4 n hm
      rw [endsN_ns hn] at he
      rw [endsN_le hj he] at h2
      cases h2
    · rcases List.mem_cons.1 hx with rfl | hx
      · exact hn.inS
      · exact e3 x hx
    · rcases List.mem_cons.1 hx with rfl | hx
      · exact ⟨k + 1, Nat.le_refl _, by rw [endsN_ns hn]; exact h1⟩
      · obtain ⟨j, hj, he⟩ := e4 x hx
        exact ⟨j, by omega, he⟩
theorem En.ends {n : Int} (h : En s n) : endsB s n = true := by
  obtain ⟨k, hk⟩ := h
  induction k with
  | zero => cases hk
  | succ k ih =>
    cases hk' : endsN s k n with
    | true => exact ih hk'
    | false =>
      obtain ⟨l, e1, e2, e3, -⟩ := rank_list k n hk hk'
      have h1 := nodup_lt s.cs.length (l.map Int.toNat) ?_ ?_
      · rw [List.length_map, e1] at h1
        exact endsN_le (by omega) hk
      · refine List.Pairwise.map _ (fun a b h => h) ?_
        refine List.Pairwise.imp_of_mem (R := fun a b => a ≠ b) (fun {a b} ha hb hab e => hab ?_) e2
        have h1 := inS_iff.1 (e3 a ha)
        have h2 := inS_iff.1 (e3 b hb)
        omega
      · intro x hx
        obtain ⟨a, ha, rfl⟩ := List.mem_map.1 hx
        have h1 := inS_iff.1 (e3 a ha)
        omega

def Ch (s : So) : List Int → Int → Prop
  | [], _ => True
  | q :: l, a => Ns s q ∧ nx s q = l.headD a ∧ Ch s l a
theorem Ch.en : ∀ {l : List Int} {a : Int}, Ch s l a → En s a → ∀ q ∈ l, En s q
  | [], a, _, _, q, hq => by cases hq
  | q :: l, a, ⟨g1, g2, g3⟩, he, x, hx => by
    have ih := Ch.en g3 he
    rcases List.mem_cons.1 hx with rfl | hx
    · refine En.ns g1 ?_
      rw [g2]
      cases l with
      | nil => exact he
      | cons y l => exact ih y List.mem_cons_self
    · exact ih x hx
theorem Ch.next : ∀ {l : List Int} {a : Int}, Ch s l a → ∀ q ∈ l, Ns s q ∧ (nx s q ∈ l ∨ nx s q = a)
  | [], a, _, q, hq => by cases hq
  | q :: l, a, ⟨g1, g2, g3⟩, x, hx => by
    rcases List.mem_cons.1 hx with rfl | hx
    · refine ⟨g1, ?_⟩
      rw [g2]
      cases l with
      | nil => exact .inr rfl
      | cons y l => exact .inl (by simp)
    · obtain ⟨h1, h2⟩ := Ch.next g3 x hx
      exact ⟨h1, h2.imp (List.mem_cons_of_mem _) id⟩
structure Mk0 (s : So) (m : List Int) : Prop where
  len : m.length = s.cs.length
  en : ∀ j : Nat, m.getD j 0 = 2 → En s j
end
end Go.Proofs.Ytinclokohcommaa


namespace Go.Proofs.Ytinclokohcommaa
open Go.RowKit
set_option linter.unusedVariables false
set_option linter.unusedSimpArgs false

instance {s : So} {n : Int} : Decidable (Ns s n) := inferInstanceAs (Decidable (_ ∧ _))

end Go.Proofs.Ytinclokohcommaa


namespace Go.Proofs.Ytinclokohcommaa
open Go.RowKit
set_option linter.unusedVariables false
set_option linter.unusedSimpArgs false

def wkB (vc : So → Ce → Bool) (s : So) (w : Wk) : Bool := decide (1 ≤ w.ser) && (decide (w.ser ≤ s.ser) && (vc s w.att && vc s w.val))
def headB (s : So) : Bool := decide (1 ≤ s.mx) && (decide (s.mx ≤ 1048576) && (decide ((s.cs.length : Int) ≤ s.mx) && (decide (0 ≤ s.ser) && symsB s.ys)))
def validR (s : So) : Bool := headB s && ((List.range s.cs.length).all (fun i => cellR s (i : Nat)) && ((List.range s.tr.length).all (fun i => oldR s (s.tr.getD i default)) && (List.range s.wk.length).all fun i => wkB vcR s (s.wk.getD i default)))
end Go.Proofs.Ytinclokohcommaa


namespace Go.Proofs.Ytinclokohcommaa
open Go.RowKit
set_option linter.unusedVariables false
set_option linter.unusedSimpArgs false

def rowQ (n : Nat) (d : D) : Bool := decide (d.rs.length ≤ n)
theorem rowQ_r (n : Nat) (l : List D) : (rowQ n (.r l) = true) = (l.length ≤ n) := by simp only [rowQ, decide_eq_true_eq]; rfl
def gCl (n : Nat) : List D → Option (List D)
  | [a] => if rowQ n a then some [a] else none
  | _ => none
def clT (n : Nat) : Tree := (.amb (.tok 0) .false (.leaf [(.lit (.r []))]) (.need [(.le (.add (.lit (.i 0)) (.len (.tok 0))) (.lit (.i (n : Nat))))] (.leaf [(.app (.row []) (.tok 0))])))
theorem clT_ok {S : Nat → List D → Option (List D)} {l : List D} {R : List D → Prop} {B : Nat → List D → Prop} {n : Nat} (hl : l.length ≤ n) (hR : R [.r l]) : (clT n).go S R [.r l] B := by
  refine ⟨fun h => ?_, fun _ => ?_⟩
  · have : l = [] := h rfl
    subst this
    exact hR
  · rw [go_need]
    refine ⟨by simp only [go_need, go_br, go_leaf, go_back, allSay, X.says, X.ev, X.evs, evl, tblS, List.getD_cons_zero, List.getD_cons_succ, List.getElem?_cons_zero, List.getElem?_cons_succ, tt_b, int_i, str_s, rs_r, Option.isSome_some, Option.getD_some, decide_eq_true_eq, decide_eq_false_iff_not, dS_eS, dC_eC, dU_eU, dW_eW, dY_eY, eC_0, eC_1, eU_0, eU_1, eW_0, eW_1, eW_2, eY_0, eY_1, eS_0, eS_1, eS_2, eS_3, eS_4, eS_5, List.length_map, i_inj, b_inj, s_inj, eC_eq, eU_eq, eW_eq, eY_eq, eS_eq, rng64, List.take_succ_cons, List.take_zero, List.nil_append, List.cons_append, decide_true, decide_false, Bool.or_true, true_and, and_true]; omega, ?_⟩
    simpa [go_leaf, X.evs, X.ev, evl, D.rs] using hR
end Go.Proofs.Ytinclokohcommaa


namespace Go.Proofs.Ytinclokohcommaa
open Go.RowKit
set_option linter.unusedVariables false
set_option maxRecDepth 100000

def g_cells_New : List D → Option (List D) := denF [] 12 tree_cells_New
theorem ok_cells_New_c : FOk ct_cells_New g_cells_New := fok_cells_New  fun ds outs hw hg => go_denF hg
def g_law30_x : List D → Option (List D) := denF [] 12 tree_law30_x
theorem ok_law30_x_c : FOk ct_law30_x g_law30_x := fok_law30_x  fun ds outs hw hg => go_denF hg
def g_law30_f : List D → Option (List D) := denF [] 12 tree_law30_f
theorem ok_law30_f_c : FOk ct_law30_f g_law30_f := fok_law30_f  fun ds outs hw hg => go_denF hg
def g_cells_find : List D → Option (List D) := denF [] 12 tree_cells_find
theorem ok_cells_find_c : FOk ct_cells_find g_cells_find := fok_cells_find  fun ds outs hw hg => go_denF hg
def g_cells_Symbol : List D → Option (List D) := denF [(ct_cells_find, g_cells_find)] 12 tree_cells_Symbol
theorem ok_cells_Symbol_c : FOk ct_cells_Symbol g_cells_Symbol := fok_cells_Symbol ok_cells_find_c fun ds outs hw hg => go_denF hg
def g_cmp_isNaN_int64 : List D → Option (List D) := denF [] 12 tree_cmp_isNaN_int64
theorem ok_cmp_isNaN_int64_c : FOk ct_cmp_isNaN_int64 g_cmp_isNaN_int64 := fok_cmp_isNaN_int64  fun ds outs hw hg => go_denF hg
def g_cmp_Compare_int64 : List D → Option (List D) := denF [(ct_cmp_isNaN_int64, g_cmp_isNaN_int64)] 12 tree_cmp_Compare_int64
theorem ok_cmp_Compare_int64_c : FOk ct_cmp_Compare_int64 g_cmp_Compare_int64 := fok_cmp_Compare_int64 ok_cmp_isNaN_int64_c fun ds outs hw hg => go_denF hg
def g_cells_byVar : List D → Option (List D) := denF [(ct_cmp_Compare_int64, g_cmp_Compare_int64)] 12 tree_cells_byVar
theorem ok_cells_byVar_c : FOk ct_cells_byVar g_cells_byVar := fok_cells_byVar ok_cmp_Compare_int64_c fun ds outs hw hg => go_denF hg
def g_slices_BinarySearchFunc_VarCell : List D → Option (List D) := denF [(ct_cells_byVar, g_cells_byVar)] 12 tree_slices_BinarySearchFunc_VarCell
theorem ok_slices_BinarySearchFunc_VarCell_c : FOk ct_slices_BinarySearchFunc_VarCell g_slices_BinarySearchFunc_VarCell := fok_slices_BinarySearchFunc_VarCell ok_cells_byVar_c fun ds outs hw hg => go_denF hg
def g_cells_kept : List D → Option (List D) := denF [] 12 tree_cells_kept
theorem ok_cells_kept_c : FOk ct_cells_kept g_cells_kept := fok_cells_kept  fun ds outs hw hg => go_denF hg
def g_cells_Fresh : List D → Option (List D) := denF [] 12 tree_cells_Fresh
theorem ok_cells_Fresh_c : FOk ct_cells_Fresh g_cells_Fresh := fok_cells_Fresh  fun ds outs hw hg => go_denF hg
def g_slices_Insert_VarCell : List D → Option (List D) := denF [] 12 tree_slices_Insert_VarCell
theorem ok_slices_Insert_VarCell_c : FOk ct_slices_Insert_VarCell g_slices_Insert_VarCell := fok_slices_Insert_VarCell  fun ds outs hw hg => go_denF hg
def G_cells_Put_1 (r : List D → Option (List D)) : List D → Option (List D) := denF [(ct_cells_Put_1, r), (ct_cells_Symbol, g_cells_Symbol), (ct_slices_BinarySearchFunc_VarCell, g_slices_BinarySearchFunc_VarCell), (ct_cells_kept, g_cells_kept), (ct_cells_Fresh, g_cells_Fresh), (ct_slices_Insert_VarCell, g_slices_Insert_VarCell)] 12 tree_cells_Put_1
def g_cells_Put_1 : List D → Option (List D) := upN G_cells_Put_1 6
theorem ok_cells_Put_1_c : FOk ct_cells_Put_1 g_cells_Put_1 := fok_up enter_cells_Put_1 (fun r hr => fok_cells_Put_1 hr ok_cells_Symbol_c ok_slices_BinarySearchFunc_VarCell_c ok_cells_kept_c ok_cells_Fresh_c ok_slices_Insert_VarCell_c fun ds outs hw hg => go_denF hg) 6
def G_term_Size_1 (r : List D → Option (List D)) : List D → Option (List D) := denF [(ct_term_Size_1, r)] 12 tree_term_Size_1
def g_term_Size_1 : List D → Option (List D) := upN G_term_Size_1 6
theorem ok_term_Size_1_c : FOk ct_term_Size_1 g_term_Size_1 := fok_up enter_term_Size_1 (fun r hr => fok_term_Size_1 hr fun ds outs hw hg => go_denF hg) 6
def g_term_Size : List D → Option (List D) := denF [(ct_term_Size_1, g_term_Size_1)] 12 tree_term_Size
theorem ok_term_Size_c : FOk ct_term_Size g_term_Size := fok_term_Size ok_term_Size_1_c fun ds outs hw hg => go_denF hg
def G_term_fits (r : List D → Option (List D)) : List D → Option (List D) := denF [(ct_term_fits, r)] 12 tree_term_fits
def g_term_fits : List D → Option (List D) := upN G_term_fits 6
theorem ok_term_fits_c : FOk ct_term_fits g_term_fits := fok_up enter_term_fits (fun r hr => fok_term_fits hr fun ds outs hw hg => go_denF hg) 6
def g_term_Valid : List D → Option (List D) := denF [(ct_term_Size, g_term_Size), (ct_term_fits, g_term_fits)] 12 tree_term_Valid
theorem ok_term_Valid_c : FOk ct_term_Valid g_term_Valid := fok_term_Valid ok_term_Size_c ok_term_fits_c fun ds outs hw hg => go_denF hg
def g_cells_arity : List D → Option (List D) := denF [] 12 tree_cells_arity
theorem ok_cells_arity_c : FOk ct_cells_arity g_cells_arity := fok_cells_arity  fun ds outs hw hg => go_denF hg
def g_cells_tag : List D → Option (List D) := denF [] 12 tree_cells_tag
theorem ok_cells_tag_c : FOk ct_cells_tag g_cells_tag := fok_cells_tag  fun ds outs hw hg => go_denF hg
def g_cells_ValidCell : List D → Option (List D) := denF [(ct_cells_arity, g_cells_arity), (ct_cells_tag, g_cells_tag)] 12 tree_cells_ValidCell
theorem ok_cells_ValidCell_c : FOk ct_cells_ValidCell g_cells_ValidCell := fok_cells_ValidCell ok_cells_arity_c ok_cells_tag_c fun ds outs hw hg => go_denF hg
def g_cells_validVars : List D → Option (List D) := denF [(ct_cells_ValidCell, g_cells_ValidCell)] 12 tree_cells_validVars
theorem ok_cells_validVars_c : FOk ct_cells_validVars g_cells_validVars := fok_cells_validVars ok_cells_ValidCell_c fun ds outs hw hg => go_denF hg
def G_cells_room_1 (r : List D → Option (List D)) : List D → Option (List D) := denF [(ct_cells_room_1, r), (ct_cells_find, g_cells_find)] 12 tree_cells_room_1
def g_cells_room_1 : List D → Option (List D) := upN G_cells_room_1 6
theorem ok_cells_room_1_c : FOk ct_cells_room_1 g_cells_room_1 := fok_up enter_cells_room_1 (fun r hr => fok_cells_room_1 hr ok_cells_find_c fun ds outs hw hg => go_denF hg) 6
def g_cells_room : List D → Option (List D) := denF [(ct_cells_room_1, g_cells_room_1), (ct_slices_BinarySearchFunc_VarCell, g_slices_BinarySearchFunc_VarCell)] 12 tree_cells_room
theorem ok_cells_room_c : FOk ct_cells_room g_cells_room := fok_cells_room ok_cells_room_1_c ok_slices_BinarySearchFunc_VarCell_c fun ds outs hw hg => go_denF hg
def g_slices_Clone_VarCell : List D → Option (List D) := denF [] 12 tree_slices_Clone_VarCell
theorem ok_slices_Clone_VarCell_c : FOk ct_slices_Clone_VarCell g_slices_Clone_VarCell := fok_slices_Clone_VarCell  fun ds outs hw hg => go_denF hg
def g_cells_Put : List D → Option (List D) := denF [(ct_cells_Put_1, g_cells_Put_1), (ct_term_Valid, g_term_Valid), (ct_cells_validVars, g_cells_validVars), (ct_cells_room, g_cells_room), (ct_slices_Clone_VarCell, g_slices_Clone_VarCell)] 12 tree_cells_Put
theorem ok_cells_Put_c : FOk ct_cells_Put g_cells_Put := fok_cells_Put ok_cells_Put_1_c ok_term_Valid_c ok_cells_validVars_c ok_cells_room_c ok_slices_Clone_VarCell_c fun ds outs hw hg => go_denF hg
def g_law30_str : List D → Option (List D) := denF [] 12 tree_law30_str
theorem ok_law30_str_c : FOk ct_law30_str g_law30_str := fok_law30_str  fun ds outs hw hg => go_denF hg
def g_law30_ref : List D → Option (List D) := denF [] 12 tree_law30_ref
theorem ok_law30_ref_c : FOk ct_law30_ref g_law30_ref := fok_law30_ref  fun ds outs hw hg => go_denF hg
def g_law30_vars : List D → Option (List D) := denF [] 12 tree_law30_vars
theorem ok_law30_vars_c : FOk ct_law30_vars g_law30_vars := fok_law30_vars  fun ds outs hw hg => go_denF hg
def g_cells_Deref : List D → Option (List D) := denF [(ct_cells_ValidCell, g_cells_ValidCell), (ct_cells_tag, g_cells_tag)] 12 tree_cells_Deref
theorem ok_cells_Deref_c : FOk ct_cells_Deref g_cells_Deref := fok_cells_Deref ok_cells_ValidCell_c ok_cells_tag_c fun ds outs hw hg => go_denF hg
def g_term_Int : List D → Option (List D) := denF [] 12 tree_term_Int
theorem ok_term_Int_c : FOk ct_term_Int g_term_Int := fok_term_Int  fun ds outs hw hg => go_denF hg
def g_term_Clone_1 : List D → Option (List D) := denF [] 12 tree_term_Clone_1
theorem ok_term_Clone_1_c : FOk ct_term_Clone_1 g_term_Clone_1 := fok_term_Clone_1  fun ds outs hw hg => go_denF hg
def G_term_apply (r : List D → Option (List D)) : List D → Option (List D) := denF [(ct_term_Clone_1, g_term_Clone_1), (ct_term_apply, r)] 12 tree_term_apply
def g_term_apply : List D → Option (List D) := upN G_term_apply 6
theorem ok_term_apply_c : FOk ct_term_apply g_term_apply := fok_up enter_term_apply (fun r hr => fok_term_apply ok_term_Clone_1_c hr fun ds outs hw hg => go_denF hg) 6
def g_term_Clone : List D → Option (List D) := denF [(ct_term_Valid, g_term_Valid), (ct_term_apply, g_term_apply)] 12 tree_term_Clone
theorem ok_term_Clone_c : FOk ct_term_Clone g_term_Clone := fok_term_Clone ok_term_Valid_c ok_term_apply_c fun ds outs hw hg => go_denF hg
def g_term_Atom : List D → Option (List D) := denF [(ct_term_Clone, g_term_Clone)] 12 tree_term_Atom
theorem ok_term_Atom_c : FOk ct_term_Atom g_term_Atom := fok_term_Atom ok_term_Clone_c fun ds outs hw hg => go_denF hg
def G_cells_Get_1 (r : List D → Option (List D)) : List D → Option (List D) := denF [(ct_cells_Get_1, r), (ct_cells_Deref, g_cells_Deref), (ct_term_Int, g_term_Int), (ct_cells_arity, g_cells_arity), (ct_term_Atom, g_term_Atom), (ct_cells_tag, g_cells_tag)] 12 tree_cells_Get_1
def g_cells_Get_1 : List D → Option (List D) := upN G_cells_Get_1 6
theorem ok_cells_Get_1_c : FOk ct_cells_Get_1 g_cells_Get_1 := fok_up enter_cells_Get_1 (fun r hr => fok_cells_Get_1 hr ok_cells_Deref_c ok_term_Int_c ok_cells_arity_c ok_term_Atom_c ok_cells_tag_c fun ds outs hw hg => go_denF hg) 6
def g_cells_Get : List D → Option (List D) := denF [(ct_cells_Get_1, g_cells_Get_1), (ct_cells_ValidCell, g_cells_ValidCell)] 12 tree_cells_Get
theorem ok_cells_Get_c : FOk ct_cells_Get g_cells_Get := fok_cells_Get ok_cells_Get_1_c ok_cells_ValidCell_c fun ds outs hw hg => go_denF hg
def G_ref03_Count (r : List D → Option (List D)) : List D → Option (List D) := denF [(ct_ref03_Count, r)] 12 tree_ref03_Count
def g_ref03_Count : List D → Option (List D) := upN G_ref03_Count 6
theorem ok_ref03_Count_c : FOk ct_ref03_Count g_ref03_Count := fok_up enter_ref03_Count (fun r hr => fok_ref03_Count hr fun ds outs hw hg => go_denF hg) 6
def g_ref03_Size : List D → Option (List D) := denF [(ct_ref03_Count, g_ref03_Count)] 12 tree_ref03_Size
theorem ok_ref03_Size_c : FOk ct_ref03_Size g_ref03_Size := fok_ref03_Size ok_ref03_Count_c fun ds outs hw hg => go_denF hg
def g_ref03_node : List D → Option (List D) := denF [] 12 tree_ref03_node
theorem ok_ref03_node_c : FOk ct_ref03_node g_ref03_node := fok_ref03_node  fun ds outs hw hg => go_denF hg
def G_ref03_nodes (r : List D → Option (List D)) : List D → Option (List D) := denF [(ct_ref03_node, g_ref03_node), (ct_ref03_nodes, r)] 12 tree_ref03_nodes
def g_ref03_nodes : List D → Option (List D) := upN G_ref03_nodes 6
theorem ok_ref03_nodes_c : FOk ct_ref03_nodes g_ref03_nodes := fok_up enter_ref03_nodes (fun r hr => fok_ref03_nodes ok_ref03_node_c hr fun ds outs hw hg => go_denF hg) 6
def g_ref03_Valid : List D → Option (List D) := denF [(ct_ref03_Size, g_ref03_Size), (ct_ref03_nodes, g_ref03_nodes)] 12 tree_ref03_Valid
theorem ok_ref03_Valid_c : FOk ct_ref03_Valid g_ref03_Valid := fok_ref03_Valid ok_ref03_Size_c ok_ref03_nodes_c fun ds outs hw hg => go_denF hg
def G_ref03_identical (r : List D → Option (List D)) : List D → Option (List D) := denF [(ct_ref03_identical, r)] 12 tree_ref03_identical
def g_ref03_identical : List D → Option (List D) := upN G_ref03_identical 6
theorem ok_ref03_identical_c : FOk ct_ref03_identical g_ref03_identical := fok_up enter_ref03_identical (fun r hr => fok_ref03_identical hr fun ds outs hw hg => go_denF hg) 6
def g_ref03_Same : List D → Option (List D) := denF [(ct_ref03_Valid, g_ref03_Valid), (ct_ref03_identical, g_ref03_identical)] 12 tree_ref03_Same
theorem ok_ref03_Same_c : FOk ct_ref03_Same g_ref03_Same := fok_ref03_Same ok_ref03_Valid_c ok_ref03_identical_c fun ds outs hw hg => go_denF hg
end Go.Proofs.Ytinclokohcommaa


namespace Go.Proofs.Ytinclokohcommaa
open Go.RowKit
set_option linter.unusedVariables false
set_option maxRecDepth 100000

def gYes : List D → Option (List D) := fun _ => some [.b true]
theorem ok_law30_awake : FOk ct_law30_awake gYes := fok_law30_awake ok_cells_New_c ok_law30_x_c ok_law30_f_c ok_cells_Put_c ok_law30_str_c ok_law30_ref_c ok_law30_vars_c ok_cells_Get_c ok_ref03_Same_c ok_cells_Deref_c fun ds outs hw hg => by
  obtain rfl : ds = [] := hw
  simp only [gYes, Option.some.injEq] at hg
  subst hg
  exact go_denF (fuel := 12) (by kernel_rfl)
end Go.Proofs.Ytinclokohcommaa


namespace Go.Proofs.Ytinclokohcommaa
open Go.RowKit
set_option linter.unusedVariables false
set_option linter.unusedSimpArgs false

end Go.Proofs.Ytinclokohcommaa


namespace Go.Proofs.Ytinclokohcommaa
open Go.RowKit
set_option linter.unusedVariables false
set_option linter.unusedSimpArgs false

def fnd (nm : ByteArray) (ar : Int) : Nat → List Sy → Int
  | _, [] => -1
  | k, y :: l => if y.name = nm ∧ y.ar = ar then (k : Int) else fnd nm ar (k + 1) l
def findS (s : So) (nm : ByteArray) (ar : Int) : Int := fnd nm ar 0 s.ys
theorem drop_get' {α : Type} [Inhabited α] {l : List α} {k : Nat} (h : k < l.length) : l.drop k = l.getD k default :: l.drop (k + 1) := by
  rw [List.drop_eq_getElem_cons h]
  simp [List.getD_eq_getElem?_getD, h]
theorem fnd_drop {nm : ByteArray} {ar : Int} {l : List Sy} {k : Nat} (h : k < l.length) : fnd nm ar k (l.drop k) = if (l.getD k default).name = nm ∧ (l.getD k default).ar = ar then (k : Int) else fnd nm ar (k + 1) (l.drop (k + 1)) := by
  rw [drop_get' h]
  rfl
def gFind1 : List D → Option (List D)
  | [s, y] => some [.i (findS (dS s) (y.fld 0).str (y.fld 1).int)]
  | _ => none
theorem ok_cells_find : FOk ct_cells_find gFind1 := fok_cells_find fun ds outs hw hg => by
  obtain ⟨d, r, rfl, hd, e, r', rfl, he, rfl⟩ := hw
  obtain ⟨s, rfl, hs⟩ := wfS hd
  obtain ⟨y, rfl, hy⟩ := wfY he
  simp only [gFind1, dS_eS, eY_0, eY_1, str_s, int_i, Option.some.injEq] at hg
  subst hg
  have hl := hs.ys.1
  rw [tree_cells_find, go_loop]
  refine ⟨fun st => ∃ k : Nat, k ≤ s.ys.length ∧ st = [.i 0, .i k] ∧ fnd y.name y.ar k (s.ys.drop k) = findS s y.name y.ar, fun st => s.ys.length - (st.getD 1 .u).int.toNat, ⟨0, Nat.zero_le _, rfl, rfl⟩, ?_⟩
  rintro st - ⟨k, hk, rfl, hf⟩
  simp only [go_need, go_br, go_leaf, go_back, allSay, X.says, X.ev, X.evs, evl, tblS, List.getD_cons_zero, List.getD_cons_succ, List.getElem?_cons_zero, List.getElem?_cons_succ, tt_b, int_i, str_s, rs_r, Option.isSome_some, Option.getD_some, decide_eq_true_eq, decide_eq_false_iff_not, dS_eS, dC_eC, dU_eU, dW_eW, dY_eY, eC_0, eC_1, eU_0, eU_1, eW_0, eW_1, eW_2, eY_0, eY_1, eS_0, eS_1, eS_2, eS_3, eS_4, eS_5, List.length_map, i_inj, b_inj, s_inj, eC_eq, eU_eq, eW_eq, eY_eq, eS_eq, rng64, List.take_succ_cons, List.take_zero, List.nil_append, List.cons_append, decide_true, decide_false, Bool.or_true, true_and, and_true]
  refine ⟨fun hlt => ?_, fun hlt => ?_⟩
  · have hkn : k < s.ys.length := by omega
    rw [fnd_drop hkn] at hf
    simp only [get_n eY hkn, eY_eq]
    generalize s.ys.getD k default = z at hf
    refine ⟨⟨by omega, by omega⟩, fun he => ?_, fun he => ⟨⟨by omega, by omega⟩, ?_⟩⟩
    · have he' : z = y := by simpa using he
      subst he'
      rw [if_pos ⟨rfl, rfl⟩] at hf
      rw [← hf]
    · have he' : ¬ z = y := by simpa using he
      have hne : ¬ (z.name = y.name ∧ z.ar = y.ar) := fun h => he' (by cases z; cases y; simp_all)
      rw [if_neg hne] at hf
      rw [updB, if_pos rfl]
      refine ⟨⟨k + 1, hkn, by simp, hf⟩, ?_⟩
      simp [D.int]
      omega
  · have : k = s.ys.length := by omega
    subst this
    rw [List.drop_length] at hf
    rw [← hf]
    rfl
def symBad (nm : ByteArray) (ar : Int) : Bool := decide (100 < (nm.size : Int)) || (decide (ar < 0) || decide (8 < ar))
def gSym : List D → Option (List D)
  | [s, nm, ar] => if symBad nm.str ar.int then some [.i 0, .i 1, eS (dS s)] else if decide (0 ≤ findS (dS s) nm.str ar.int) then some [.i (findS (dS s) nm.str ar.int), .i 0, eS (dS s)]
      else if decide (1048576 ≤ (dS s).ys.length) then some [.i 0, .i 13, eS (dS s)] else some [.i (dS s).ys.length, .i 0, eS { dS s with ys := (dS s).ys ++ [⟨nm.str, ar.int⟩] }]
  | _ => none
theorem ys_app (s : So) (y : Sy) : D.a ((eS s).fs.set 1 (.r (s.ys.map eY ++ [eY y]))) = eS { s with ys := s.ys ++ [y] } := by simp [eS, D.fs]
theorem ok_cells_Symbol : FOk ct_cells_Symbol gSym := fok_cells_Symbol ok_cells_find fun ds outs hw hg => by
  obtain ⟨d, r, rfl, hd, e, r', rfl, he, f, r2, rfl, hf', rfl⟩ := hw
  obtain ⟨s, rfl, hs⟩ := wfS hd
  obtain ⟨nm, rfl, hn⟩ := he.str
  obtain ⟨ar, rfl, ha⟩ := wfI hf'
  simp only [gSym, dS_eS, str_s, int_i] at hg
  have ey : D.a [.s nm, .i ar] = eY ⟨nm, ar⟩ := rfl
  simp only [tree_cells_Symbol, go_need, go_br, go_leaf, go_back, allSay, X.says, X.ev, X.evs, evl, tblS, List.getD_cons_zero, List.getD_cons_succ, List.getElem?_cons_zero, List.getElem?_cons_succ, tt_b, int_i, str_s, rs_r, Option.isSome_some, Option.getD_some, decide_eq_true_eq, decide_eq_false_iff_not, dS_eS, dC_eC, dU_eU, dW_eW, dY_eY, eC_0, eC_1, eU_0, eU_1, eW_0, eW_1, eW_2, eY_0, eY_1, eS_0, eS_1, eS_2, eS_3, eS_4, eS_5, List.length_map, i_inj, b_inj, s_inj, eC_eq, eU_eq, eW_eq, eY_eq, eS_eq, rng64, List.take_succ_cons, List.take_zero, List.nil_append, List.cons_append, decide_true, decide_false, Bool.or_true, true_and, and_true, gFind1, ey, ys_app]
  cases hb : symBad nm ar with
  | true =>
    simp only [hb, if_true, Option.some.injEq] at hg
    subst hg
    have hb' : (decide (100 < (nm.size : Int)) || decide (ar < 0) || decide (8 < ar)) = true := by rw [Bool.or_assoc]; exact hb
    rw [hb']
    exact ⟨fun _ => rfl, fun h => (by cases h)⟩
  | false =>
    simp only [hb, Bool.false_eq_true, if_false] at hg
    have hb' : (decide (100 < (nm.size : Int)) || decide (ar < 0) || decide (8 < ar)) = false := by rw [Bool.or_assoc]; exact hb
    rw [hb']
    refine ⟨fun h => (by cases h), fun _ => ⟨fun h0 => ?_, fun h0 => ⟨fun h1 => ?_, fun h1 => ?_⟩⟩⟩
    · rw [if_pos (decide_eq_true h0)] at hg
      exact Option.some.inj hg
    · have h1' : 1048576 ≤ s.ys.length := by omega
      rw [if_neg (by simpa using h0), if_pos (decide_eq_true h1')] at hg
      exact Option.some.inj hg
    · have h1' : ¬ 1048576 ≤ s.ys.length := by omega
      rw [if_neg (by simpa using h0), if_neg (by simpa using h1')] at hg
      have := Option.some.inj hg
      subst this
      simp [eS, D.fld, D.fs, D.rs]
      omega
def gFresh : List D → Option (List D)
  | [s] => if decide ((dS s).mx ≤ (dS s).cs.length) then some [eC ⟨0, 0⟩, .i 13, eS (dS s)] else if decide ((dS s).cs.length < 8796093021952) then some [eC ⟨0, (dS s).cs.length⟩, .i 0, eS { dS s with cs := (dS s).cs ++ [⟨0, (dS s).cs.length⟩] }] else none
  | _ => none
theorem cs_app (s : So) (y : Ce) : D.a ((eS s).fs.set 0 (.r (s.cs.map eC ++ [eC y]))) = eS { s with cs := s.cs ++ [y] } := by simp [eS, D.fs]
theorem ok_cells_Fresh : FOk ct_cells_Fresh gFresh := fok_cells_Fresh fun ds outs hw hg => by
  obtain ⟨d, r, rfl, hd, rfl⟩ := hw
  obtain ⟨s, rfl, hs⟩ := wfS hd
  simp only [gFresh, dS_eS] at hg
  simp only [tree_cells_Fresh, go_need, go_br, go_leaf, go_back, allSay, X.says, X.ev, X.evs, evl, tblS, List.getD_cons_zero, List.getD_cons_succ, List.getElem?_cons_zero, List.getElem?_cons_succ, tt_b, int_i, str_s, rs_r, Option.isSome_some, Option.getD_some, decide_eq_true_eq, decide_eq_false_iff_not, dS_eS, dC_eC, dU_eU, dW_eW, dY_eY, eC_0, eC_1, eU_0, eU_1, eW_0, eW_1, eW_2, eY_0, eY_1, eS_0, eS_1, eS_2, eS_3, eS_4, eS_5, List.length_map, i_inj, b_inj, s_inj, eC_eq, eU_eq, eW_eq, eY_eq, eS_eq, rng64, List.take_succ_cons, List.take_zero, List.nil_append, List.cons_append, decide_true, decide_false, Bool.or_true, true_and, and_true, eC_mk, cs_app]
  refine ⟨fun h0 => ?_, fun h0 => ?_⟩
  · rw [if_pos (decide_eq_true h0)] at hg
    exact Option.some.inj hg
  · rw [if_neg (by simpa using h0)] at hg
    split at hg
    · rename_i h1
      have h1 := of_decide_eq_true h1
      have := Option.some.inj hg
      exact ⟨by omega, this⟩
    · cases hg
end Go.Proofs.Ytinclokohcommaa


namespace Go.Proofs.Ytinclokohcommaa
open Go.RowKit
set_option linter.unusedVariables false
set_option maxRecDepth 100000

end Go.Proofs.Ytinclokohcommaa


namespace Go.Proofs.Ytinclokohcommaa
open Go.RowKit
set_option linter.unusedVariables false
set_option linter.unusedSimpArgs false

structure VS (s : So) : Prop where
  tag : ∀ i : Int, inS s i = true → 0 ≤ (cellAt s i).t ∧ (cellAt s i).t ≤ 5
theorem VS.tag_in {s : So} (h : VS s) (n : Int) : decide (0 ≤ tagS s n) = inS s n := by
  cases hi : inS s n with
  | true =>
    rw [tagS_in hi]
    exact decide_eq_true (h.tag n hi).1
  | false =>
    rw [tagS_out hi]
    decide
theorem VS.vc {s : So} (h : VS s) (c : Ce) : vcP s c = vcR s c := by
  unfold vcP vcR
  rw [h.tag_in]
theorem VS.old {s : So} (h : VS s) (u : Un) : oldP s u = oldR s u := by
  simp only [oldP, oldR, oldB, h.tag_in, h.vc]
theorem VS.cell {s : So} (h : VS s) {i : Int} (hi : inS s i = true) : cellR s i = (fitsP s i && endsB s i) := by
  have h1 := inS_iff.1 hi
  have ht := tagS_in hi
  unfold cellR fitsP
  by_cases h4 : (cellAt s i).t = 4
  · rw [if_pos h4, if_pos h4]
    have he : endsB s i = true := (En.st (fun hn => by have := hn.1; omega)).ends
    rw [he, Bool.and_true]
    by_cases ha : 1 ≤ arS s (cellAt s i).n
    · rw [decide_eq_true ha, Bool.true_and, Bool.true_and]
      generalize harr : arS s (cellAt s i).n = ar at ha
      rw [Bool.eq_iff_iff]
      simp only [Bool.and_eq_true, List.all_eq_true, List.mem_range, Bool.not_eq_true', decide_eq_false_iff_not, decide_eq_true_eq]
      constructor
      · rintro ⟨q1, q2⟩ j hj
        refine ⟨?_, q2 j hj⟩
        have hin : inS s (i + ((j : Int) + 1)) = true := by
          have := inS_iff.1 q1
          exact inS_iff.2 ⟨by omega, by omega⟩
        rw [tagS_in hin]
        exact (h.tag _ hin).1
      · intro q
        refine ⟨?_, fun j hj => (q j hj).2⟩
        have h2 := (q (ar.toNat - 1) (by omega)).1
        have h3 := h.tag_in (i + (((ar.toNat - 1 : Nat) : Int) + 1))
        rw [decide_eq_true h2] at h3
        have e : i + (((ar.toNat - 1 : Nat) : Int) + 1) = i + ar := by omega
        rw [e] at h3
        exact h3.symm
    · rw [decide_eq_false ha]
      rfl
  · rw [if_neg h4, if_neg h4]
    by_cases h5 : (cellAt s i).t = 5
    · rw [if_pos h5]
      have hd : decide ((cellAt s i).t = 5) = true := decide_eq_true h5
      rw [hd]
      by_cases hn : (cellAt s i).n = i
      · have hv : vcR s (cellAt s i) = true := by
          unfold vcR
          simp [h5, hn, ht]
        rw [hv, decide_eq_true hn]
        simp [Bool.and_comm]
      · rw [decide_eq_false hn]
        simp
    · rw [if_neg h5, decide_eq_false h5, h.vc]
      simp
def so0 : So := ⟨[], [], [], [], 0, 0⟩
def newBad (n : Int) : Bool := decide (n < 1) || decide (1048576 < n)
def gNew : List D → Option (List D)
  | [n] => if newBad n.int then some [eS so0, .i 1] else some [eS { so0 with mx := n.int }, .i 0]
  | _ => none
theorem ok_cells_New : FOk ct_cells_New gNew := fok_cells_New fun ds outs hw hg => by
  obtain ⟨d, r, rfl, hd, rfl⟩ := hw
  obtain ⟨n, rfl, hn⟩ := wfI hd
  have hg2 : (if newBad n = true then some [eS so0, D.i 1] else some [eS { so0 with mx := n }, D.i 0]) = some outs := hg
  clear hg
  simp only [tree_cells_New, go_need, go_br, go_leaf, go_back, allSay, X.says, X.ev, X.evs, evl, tblS, List.getD_cons_zero, List.getD_cons_succ, List.getElem?_cons_zero, List.getElem?_cons_succ, tt_b, int_i, str_s, rs_r, Option.isSome_some, Option.getD_some, decide_eq_true_eq, decide_eq_false_iff_not, dS_eS, dC_eC, dU_eU, dW_eW, dY_eY, eC_0, eC_1, eU_0, eU_1, eW_0, eW_1, eW_2, eY_0, eY_1, eS_0, eS_1, eS_2, eS_3, eS_4, eS_5, List.length_map, i_inj, b_inj, s_inj, eC_eq, eU_eq, eW_eq, eY_eq, eS_eq, rng64, List.take_succ_cons, List.take_zero, List.nil_append, List.cons_append, decide_true, decide_false, Bool.or_true, true_and, and_true]
  cases hb : newBad n with
  | true =>
    rw [hb, if_pos rfl] at hg2
    have hb' : (decide (n < 1) || decide (1048576 < n)) = true := hb
    rw [hb']
    exact ⟨fun _ => Option.some.inj hg2, fun h => (by cases h)⟩
  | false =>
    rw [hb] at hg2
    have hb' : (decide (n < 1) || decide (1048576 < n)) = false := hb
    rw [hb']
    exact ⟨fun h => (by cases h), fun _ => Option.some.inj hg2⟩
end Go.Proofs.Ytinclokohcommaa


namespace Go.Proofs.Ytinclokohcommaa
open Go.RowKit
set_option linter.unusedVariables false
set_option linter.unusedSimpArgs false

theorem vr_head {s : So} (h : validR s = true) : headB s = true := by
  simp only [validR, Bool.and_eq_true] at h
  exact h.1
end Go.Proofs.Ytinclokohcommaa


namespace Go.Proofs.Ytinclokohcommaa
open Go.RowKit
set_option linter.unusedVariables false
set_option maxRecDepth 100000

end Go.Proofs.Ytinclokohcommaa


namespace Go.Proofs.Ytinclokohcommaa
open Go.RowKit
set_option linter.unusedVariables false
set_option linter.unusedSimpArgs false

end Go.Proofs.Ytinclokohcommaa


namespace Go.Proofs.Ytinclokohcommaa
open Go.RowKit
set_option linter.unusedVariables false
set_option linter.unusedSimpArgs false

structure Vc where
  v : Int
  c : Ce
instance : Inhabited Vc := ⟨⟨0, default⟩⟩
def eV (x : Vc) : D := .a [.i x.v, eC x.c]
def dV (d : D) : Vc := ⟨(d.fld 0).int, dC (d.fld 1)⟩
theorem dV_eV (x : Vc) : dV (eV x) = x := rfl
theorem eV_inj {a b : Vc} (h : eV a = eV b) : a = b := by rw [← dV_eV a, h, dV_eV b]
instance : DecidableEq Vc := fun a b => if h : eV a = eV b then .isTrue (eV_inj h) else .isFalse fun e => h (e ▸ rfl)
theorem eV_0 (x : Vc) : (eV x).fld 0 = .i x.v := rfl
theorem eV_1 (x : Vc) : (eV x).fld 1 = eC x.c := rfl
theorem eV_mk (n : Int) (c : Ce) : D.a [.i n, eC c] = eV ⟨n, c⟩ := rfl
def dVs (d : D) : List Vc := d.rs.map dV
theorem dVs_eVs (l : List Vc) : dVs (.r (l.map eV)) = l := by
  show (l.map eV).map dV = l
  rw [List.map_map]
  exact List.map_id'' (fun x => rfl) l
theorem wfV {d : D} (h : Wf d T_VarCell) : ∃ c, d = eV c ∧ i64 c.v ∧ c.c.ok := by
  obtain ⟨ds, rfl, hl⟩ := h.st_of (fs := [.int .i64, T_Cell]) rfl
  obtain ⟨a, b, rfl, ha, hb⟩ := wfL2 hl
  obtain ⟨x, rfl, hx⟩ := wfI ha
  obtain ⟨y, rfl, hy⟩ := wfC hb
  exact ⟨⟨x, y⟩, rfl, hx, hy⟩
theorem wfVs {d : D} (h : Wf d T_VarCells) : ∃ l : List Vc, d = .r (l.map eV) ∧ l.length ≤ 5864062014634 ∧ ∀ x ∈ l, i64 x.v ∧ x.c.ok := by
  obtain ⟨l, e, h1, h2⟩ := h.row_of (te := T_VarCell) rfl
  subst e
  obtain ⟨m, rfl, h3⟩ := of_all (e := eV) (P := fun x => i64 x.v ∧ x.c.ok) fun x hx => wfV (h2 x hx)
  have e : LM T_VarCell = 5864062014634 := by kernel_rfl
  rw [e, List.length_map] at h1
  exact ⟨m, rfl, h1, h3⟩

def ofV : List Vc → Int → Option Ce
  | [], _ => none
  | x :: l, v => if x.v = v then some x.c else ofV l v
def insV : List Vc → Int → Ce → List Vc
  | [], v, c => [⟨v, c⟩]
  | x :: l, v, c => if x.v < v then x :: insV l v c else ⟨v, c⟩ :: x :: l
def loV : List Vc → Int → Nat
  | [], _ => 0
  | x :: l, v => if x.v < v then loV l v + 1 else 0
def SV (l : List Vc) : Prop := l.Pairwise (fun a b => a.v < b.v) ∧ ∀ x ∈ l, 0 ≤ x.v ∧ x.v ≤ 1099511627776
instance (l : List Vc) : Decidable (SV l) := inferInstanceAs (Decidable (_ ∧ _))
theorem loV_le (v : Int) : ∀ l, loV l v ≤ l.length
  | [] => Nat.le_refl _
  | x :: l => by
    unfold loV
    have := loV_le v l
    split <;> simp <;> omega
theorem loV_lt {v : Int} : ∀ {l : List Vc} {j : Nat}, j < loV l v → (l.getD j default).v < v
  | [], j, h => by simp [loV] at h
  | x :: l, j, h => by
    unfold loV at h
    split at h
    · rename_i hx
      cases j with
      | zero => exact hx
      | succ j =>
        rw [List.getD_cons_succ]
        exact loV_lt (by omega)
    · omega
theorem loV_stop {v : Int} : ∀ {l : List Vc}, loV l v < l.length → v ≤ (l.getD (loV l v) default).v
  | [], h => by simp [loV] at h
  | x :: l, h => by
    unfold loV at h ⊢
    split at h
    · rename_i hx
      rw [if_pos hx, List.getD_cons_succ]
      exact loV_stop (by simpa using h)
    · rename_i hx
      rw [if_neg hx, List.getD_cons_zero]
      omega
theorem loV_uniq {v : Int} {l : List Vc} {i : Nat} (hi : i ≤ l.length) (h1 : ∀ j, j < i → (l.getD j default).v < v) (h2 : ∀ j, i ≤ j → j < l.length → v ≤ (l.getD j default).v) : loV l v = i := by
  rcases Nat.lt_trichotomy (loV l v) i with h | h | h
  · have := h1 _ h
    have := loV_stop (v := v) (l := l) (by omega)
    omega
  · exact h
  · have := loV_lt h
    have h3 := loV_le v l
    have := h2 i (Nat.le_refl _) (by omega)
    omega
theorem insV_eq (v : Int) (c : Ce) : ∀ l, insV l v c = l.take (loV l v) ++ ⟨v, c⟩ :: l.drop (loV l v)
  | [] => rfl
  | x :: l => by
    unfold insV loV
    split
    · rw [insV_eq v c l]
      rfl
    · rfl
theorem ofV_none {v : Int} : ∀ {l : List Vc}, (∀ y ∈ l, y.v ≠ v) → ofV l v = none
  | [], _ => rfl
  | x :: l, h => by
    unfold ofV
    rw [if_neg (h x (by simp)), ofV_none fun y hy => h y (by simp [hy])]
theorem ofV_lo {v : Int} : ∀ {l : List Vc}, SV l → ofV l v = if loV l v < l.length ∧ (l.getD (loV l v) default).v = v then some (l.getD (loV l v) default).c else none
  | [], _ => rfl
  | x :: l, h => by
    have hp := List.pairwise_cons.1 h.1
    have hl : SV l := ⟨hp.2, fun y hy => h.2 y (by simp [hy])⟩
    unfold ofV loV
    by_cases hx : x.v < v
    · rw [if_neg (by omega), if_pos hx, ofV_lo hl]
      simp
    · rw [if_neg hx]
      by_cases he : x.v = v
      · simp [he]
      · rw [if_neg he, ofV_none fun y hy => by have := hp.1 y hy; omega]
        simp [he]
theorem ofV_no {v : Int} : ∀ {l : List Vc}, ofV l v = none → ∀ y ∈ l, y.v ≠ v
  | [], _, y, hy => by cases hy
  | x :: l, h, y, hy => by
    unfold ofV at h
    split at h
    · cases h
    · rename_i hx
      rcases List.mem_cons.1 hy with rfl | hy
      · exact hx
      · exact ofV_no h y hy
theorem insV_mem {v : Int} {c : Ce} {l : List Vc} {y : Vc} : y ∈ insV l v c ↔ y = ⟨v, c⟩ ∨ y ∈ l := by
  rw [insV_eq, List.mem_append, List.mem_cons]
  conv => rhs; rw [← List.take_append_drop (loV l v) l, List.mem_append]
  constructor
  · rintro (h | h | h)
    · exact .inr (.inl h)
    · exact .inl h
    · exact .inr (.inr h)
  · rintro (h | h | h)
    · exact .inr (.inl h)
    · exact .inl h
    · exact .inr (.inr h)
theorem insV_sv {v : Int} {c : Ce} (h0 : 0 ≤ v) (h1 : v ≤ 1099511627776) : ∀ {l : List Vc}, SV l → ofV l v = none → SV (insV l v c) := fun {l} h hn => by
  refine ⟨?_, fun y hy => ?_⟩
  · have hne := ofV_no hn
    have key : ∀ l : List Vc, l.Pairwise (fun a b => a.v < b.v) → (∀ y ∈ l, y.v ≠ v) → (insV l v c).Pairwise fun a b => a.v < b.v := by
      intro l
      induction l with
      | nil => intro _ _; exact List.pairwise_singleton _ _
      | cons x l ih =>
        intro hp hn
        have hp' := List.pairwise_cons.1 hp
        unfold insV
        split
        · rename_i hx
          refine List.pairwise_cons.2 ⟨fun y hy => ?_, ih hp'.2 fun y hy => hn y (by simp [hy])⟩
          rcases insV_mem.1 hy with rfl | hy
          · exact hx
          · exact hp'.1 y hy
        · rename_i hx
          have := hn x (by simp)
          refine List.pairwise_cons.2 ⟨fun y hy => ?_, hp⟩
          rcases List.mem_cons.1 hy with rfl | hy
          · show v < y.v; omega
          · have := hp'.1 y hy
            show v < y.v
            omega
    exact key l h.1 hne
  · rcases insV_mem.1 hy with rfl | hy
    · exact ⟨h0, h1⟩
    · exact h.2 y hy
theorem sv_len {b : Int} : ∀ (l : List Vc) (a : Int), a ≤ b + 1 → l.Pairwise (fun x y => x.v < y.v) → (∀ x ∈ l, a ≤ x.v ∧ x.v ≤ b) → (l.length : Int) ≤ b - a + 1
  | [], a, h, _, _ => by simp; omega
  | x :: l, a, h, hp, hr => by
    have hp' := List.pairwise_cons.1 hp
    have hx := hr x (by simp)
    have := sv_len l (x.v + 1) (by omega) hp'.2 fun y hy => ⟨by have := hp'.1 y hy; omega, (hr y (by simp [hy])).2⟩
    rw [List.length_cons]
    omega
theorem SV.len {l : List Vc} (h : SV l) : (l.length : Int) ≤ 1099511627777 := by
  have := sv_len (b := 1099511627776) l 0 (by omega) h.1 h.2
  omega
theorem SV.nil : SV [] := ⟨.nil, fun x hx => by cases hx⟩

theorem fnd_mem {nm : ByteArray} {ar : Int} : ∀ (k : Nat) (l : List Sy), 0 ≤ fnd nm ar k l ↔ (⟨nm, ar⟩ : Sy) ∈ l
  | k, [] => by simp [fnd]
  | k, y :: l => by
    unfold fnd
    split
    · rename_i h
      obtain ⟨rfl, rfl⟩ := h
      exact ⟨fun _ => by simp, fun _ => Int.natCast_nonneg _⟩
    · rename_i h
      rw [fnd_mem (k + 1) l, List.mem_cons]
      exact ⟨.inr, fun h' => h'.elim (fun e => by subst e; exact (h ⟨rfl, rfl⟩).elim) id⟩
theorem findS_mem {s : So} {nm : ByteArray} {ar : Int} : 0 ≤ findS s nm ar ↔ (⟨nm, ar⟩ : Sy) ∈ s.ys := fnd_mem 0 s.ys
def symN (s : So) (nm : ByteArray) (ar : Int) : Int × So := if 0 ≤ findS s nm ar then (findS s nm ar, s) else ((s.ys.length : Nat), { s with ys := s.ys ++ [⟨nm, ar⟩] })
def symX (ys : List Sy) (y : Sy) : List Sy := if y ∈ ys then ys else ys ++ [y]
mutual
def symsT (ys : List Sy) : Te → List Sy
  | .mk k _ nm l => symsTs (if k = 2 ∨ k = 3 then symX ys ⟨nm, (l.length : Nat)⟩ else ys) l
def symsTs (ys : List Sy) : List Te → List Sy
  | [] => ys
  | t :: l => symsTs (symsT ys t) l
end
theorem symX_len (ys : List Sy) (y : Sy) : ys.length ≤ (symX ys y).length := by
  unfold symX
  split
  · exact Nat.le_refl _
  · simp
mutual
theorem symsT_len : ∀ (t : Te) (ys : List Sy), ys.length ≤ (symsT ys t).length
  | .mk k n nm l, ys => by
    rw [symsT]
    refine Nat.le_trans ?_ (symsTs_len l _)
    split
    · exact symX_len _ _
    · exact Nat.le_refl _
theorem symsTs_len : ∀ (l : List Te) (ys : List Sy), ys.length ≤ (symsTs ys l).length
  | [], ys => Nat.le_refl _
  | t :: l, ys => by
    rw [symsTs]
    exact Nat.le_trans (symsT_len t ys) (symsTs_len l _)
end
theorem symN_cs (s : So) (nm : ByteArray) (ar : Int) : (symN s nm ar).2.cs = s.cs ∧ (symN s nm ar).2.mx = s.mx ∧ (symN s nm ar).2.ys = symX s.ys ⟨nm, ar⟩ ∧ (symN s nm ar).2.tr = s.tr ∧ (symN s nm ar).2.wk = s.wk ∧ (symN s nm ar).2.ser = s.ser := by
  unfold symN symX
  by_cases h : 0 ≤ findS s nm ar
  · rw [if_pos h, if_pos (findS_mem.1 h)]
    exact ⟨rfl, rfl, rfl, rfl, rfl, rfl⟩
  · rw [if_neg h, if_neg (fun q => h (findS_mem.2 q))]
    exact ⟨rfl, rfl, rfl, rfl, rfl, rfl⟩
def symM (ys ms : List Sy) (y : Sy) : List Sy := if y ∈ ms ∨ y ∈ ys then ms else ms ++ [y]
mutual
def visM (ys ms : List Sy) : Te → List Sy
  | .mk k _ nm l => visMs ys (if k = 2 ∨ k = 3 then symM ys ms ⟨nm, (l.length : Nat)⟩ else ms) l
def visMs (ys ms : List Sy) : List Te → List Sy
  | [] => ms
  | t :: l => visMs ys (visM ys ms t) l
end
theorem symM_X (ys ms : List Sy) (y : Sy) : ys ++ symM ys ms y = symX (ys ++ ms) y := by
  unfold symM symX
  by_cases h : y ∈ ms ∨ y ∈ ys
  · rw [if_pos h, if_pos (List.mem_append.2 h.symm)]
  · rw [if_neg h, if_neg (fun q => h (List.mem_append.1 q).symm), List.append_assoc]
mutual
theorem visM_T : ∀ (t : Te) (ys ms : List Sy), ys ++ visM ys ms t = symsT (ys ++ ms) t
  | .mk k n nm l, ys, ms => by
    rw [visM, symsT, visMs_T]
    split
    · rw [symM_X]
    · rfl
theorem visMs_T : ∀ (l : List Te) (ys ms : List Sy), ys ++ visMs ys ms l = symsTs (ys ++ ms) l
  | [], ys, ms => rfl
  | t :: l, ys, ms => by rw [visMs, symsTs, visMs_T, visM_T]
end
theorem symM_len (ys ms : List Sy) (y : Sy) : (symM ys ms y).length ≤ ms.length + 1 := by
  unfold symM
  split
  · omega
  · simp
mutual
theorem visM_len : ∀ (t : Te) (ys ms : List Sy), (visM ys ms t).length ≤ ms.length + szT t
  | .mk k n nm l, ys, ms => by
    rw [visM, szT]
    refine Nat.le_trans (visMs_len l _ _) ?_
    split
    · have := symM_len ys ms ⟨nm, (l.length : Nat)⟩
      omega
    · omega
theorem visMs_len : ∀ (l : List Te) (ys ms : List Sy), (visMs ys ms l).length ≤ ms.length + szTs l
  | [], ys, ms => by simp [visMs, szTs]
  | t :: l, ys, ms => by
    rw [visMs, szTs]
    have h1 := visM_len t ys ms
    have h2 := visMs_len l ys (visM ys ms t)
    omega
end
mutual
/-- The cells that a term needs, but for a variable that is no argument. -/
def cntT : Te → Nat
  | .mk k _ _ l => if k = 3 then 1 + l.length + cntTs l else 0
def cntTs : List Te → Nat
  | [] => 0
  | t :: l => cntT t + cntTs l
end
mutual
theorem cntT_sz : ∀ t : Te, cntT t + 1 ≤ 2 * szT t
  | .mk k n nm l => by
    rw [cntT, szT]
    have h1 := cntTs_sz l
    have h2 := szTs_len l
    split <;> omega
theorem cntTs_sz : ∀ l : List Te, cntTs l + l.length ≤ 2 * szTs l
  | [] => Nat.le_refl _
  | t :: l => by
    rw [cntTs, szTs, List.length_cons]
    have h1 := cntT_sz t
    have h2 := cntTs_sz l
    omega
end
def nedT (t : Te) (all : List Vc) : Nat := cntT t + if t.k = 0 ∧ ofV all t.n = none then 1 else 0

def keptC (c : Ce) : Ce := if c.t = 5 then ⟨0, c.n⟩ else c
abbrev Sv := So × List Vc
def setC (s : So) (i : Nat) (c : Ce) : So := { s with cs := s.cs.set i c }
mutual
/-- A term added; at: the address of the argument that it becomes. -/
def addD (q : Sv) : Te → Int → Ce × Sv
  | .mk k n nm l, at' =>
    if k = 1 then (⟨1, n⟩, q)
    else if k = 2 then (⟨2, (symN q.1 nm 0).1⟩, (symN q.1 nm 0).2, q.2)
    else if k = 0 then (match ofV q.2 n with
      | some c => (keptC c, q)
      | none => if at' < 0 then (⟨0, (q.1.cs.length : Nat)⟩, { q.1 with cs := q.1.cs ++ [⟨0, (q.1.cs.length : Nat)⟩] }, insV q.2 n ⟨0, (q.1.cs.length : Nat)⟩) else (⟨0, at'⟩, q.1, insV q.2 n ⟨0, at'⟩))
    else (⟨3, (q.1.cs.length : Nat)⟩, addAs ({ (symN q.1 nm (l.length : Nat)).2 with cs := q.1.cs ++ (⟨4, (symN q.1 nm (l.length : Nat)).1⟩ :: List.replicate l.length ⟨0, 0⟩) }, q.2) l (q.1.cs.length + 1))
def addAs (q : Sv) : List Te → Nat → Sv
  | [], _ => q
  | a :: l, to => addAs (setC (addD q a (to : Nat)).2.1 to (addD q a (to : Nat)).1, (addD q a (to : Nat)).2.2) l (to + 1)
end
theorem setC_len (s : So) (i : Nat) (c : Ce) : (setC s i c).cs.length = s.cs.length := by simp [setC]
def Rst (s s' : So) : Prop := s'.mx = s.mx ∧ s'.tr = s.tr ∧ s'.wk = s.wk ∧ s'.ser = s.ser
theorem Rst.trans {a b c : So} (h : Rst a b) (k : Rst b c) : Rst a c := ⟨k.1.trans h.1, k.2.1.trans h.2.1, k.2.2.1.trans h.2.2.1, k.2.2.2.trans h.2.2.2⟩
theorem nodeT_k (k n : Int) (s : ByteArray) (l : List Te) : nodeT (.mk k n s l) = if k = 0 then decide (0 ≤ n) && (decide (n ≤ 1099511627776) && (decide (s = ⟨#[]⟩) && decide ((l.length : Int) = 0)))
  else if k = 1 then decide (s = ⟨#[]⟩) && decide ((l.length : Int) = 0)
  else if k = 2 then decide (n = 0) && (decide ((s.size : Int) ≤ 100) && decide ((l.length : Int) = 0))
  else if k = 3 then decide (n = 0) && (decide ((s.size : Int) ≤ 100) && (decide (1 ≤ (l.length : Int)) && decide ((l.length : Int) ≤ 8)))
  else false := rfl
theorem node_cases {k n : Int} {s : ByteArray} {l : List Te} (h : nodeT (.mk k n s l) = true) : (k = 0 ∧ l = [] ∧ 0 ≤ n ∧ n ≤ 1099511627776) ∨ (k = 1 ∧ l = []) ∨ (k = 2 ∧ l = [] ∧ s.size ≤ 100) ∨ (k = 3 ∧ s.size ≤ 100 ∧ 1 ≤ l.length ∧ l.length ≤ 8) := by
  rw [nodeT_k] at h
  by_cases h0 : k = 0
  · rw [if_pos h0] at h
    simp only [Bool.and_eq_true, decide_eq_true_eq] at h
    exact .inl ⟨h0, List.length_eq_zero_iff.1 (by omega), h.1, h.2.1⟩
  rw [if_neg h0] at h
  by_cases h1 : k = 1
  · rw [if_pos h1] at h
    simp only [Bool.and_eq_true, decide_eq_true_eq] at h
    exact .inr (.inl ⟨h1, List.length_eq_zero_iff.1 (by omega)⟩)
  rw [if_neg h1] at h
  by_cases h2 : k = 2
  · rw [if_pos h2] at h
    simp only [Bool.and_eq_true, decide_eq_true_eq] at h
    exact .inr (.inr (.inl ⟨h2, List.length_eq_zero_iff.1 (by omega), by omega⟩))
  rw [if_neg h2] at h
  split at h
  · rename_i h3
    simp only [Bool.and_eq_true, decide_eq_true_eq] at h
    exact .inr (.inr (.inr ⟨h3, by omega, by omega, by omega⟩))
  · cases h
theorem addD_0 (q : Sv) (n : Int) (nm : ByteArray) (l : List Te) (a : Int) : addD q (.mk 0 n nm l) a = match ofV q.2 n with
      | some c => (keptC c, q)
      | none => if a < 0 then (⟨0, (q.1.cs.length : Nat)⟩, { q.1 with cs := q.1.cs ++ [⟨0, (q.1.cs.length : Nat)⟩] }, insV q.2 n ⟨0, (q.1.cs.length : Nat)⟩) else (⟨0, a⟩, q.1, insV q.2 n ⟨0, a⟩) := by
  rw [addD, if_neg (by decide), if_neg (by decide), if_pos rfl]
theorem addD_1 (q : Sv) (n : Int) (nm : ByteArray) (l : List Te) (a : Int) : addD q (.mk 1 n nm l) a = (⟨1, n⟩, q) := by rw [addD, if_pos rfl]
theorem addD_2 (q : Sv) (n : Int) (nm : ByteArray) (l : List Te) (a : Int) : addD q (.mk 2 n nm l) a = (⟨2, (symN q.1 nm 0).1⟩, (symN q.1 nm 0).2, q.2) := by rw [addD, if_neg (by decide), if_pos rfl]
theorem addD_3 (q : Sv) (n : Int) (nm : ByteArray) (l : List Te) (a : Int) : addD q (.mk 3 n nm l) a = (⟨3, (q.1.cs.length : Nat)⟩, addAs ({ (symN q.1 nm (l.length : Nat)).2 with cs := q.1.cs ++ (⟨4, (symN q.1 nm (l.length : Nat)).1⟩ :: List.replicate l.length ⟨0, 0⟩) }, q.2) l (q.1.cs.length + 1)) := by rw [addD, if_neg (by decide), if_neg (by decide), if_neg (by decide)]
theorem cnt_no {k n : Int} {nm : ByteArray} {l : List Te} (h : k ≠ 3) : cntT (.mk k n nm l) = 0 := by rw [cntT, if_neg h]
theorem ned_no {k n : Int} {nm : ByteArray} {l : List Te} (h : k ≠ 0) (all : List Vc) : nedT (.mk k n nm l) all = cntT (.mk k n nm l) := by
  unfold nedT
  rw [if_neg (fun q => h q.1)]
  rfl
theorem syms_no {k n : Int} {nm : ByteArray} {ys : List Sy} (h : ¬ (k = 2 ∨ k = 3)) : symsT ys (.mk k n nm []) = ys := by rw [symsT, if_neg h, symsTs]
theorem syms_2 {n : Int} {nm : ByteArray} {ys : List Sy} : symsT ys (.mk 2 n nm []) = symX ys ⟨nm, 0⟩ := by rw [symsT, if_pos (.inl rfl), symsTs]; rfl
theorem syms_3 {n : Int} {nm : ByteArray} {ys : List Sy} {l : List Te} : symsT ys (.mk 3 n nm l) = symsTs (symX ys ⟨nm, (l.length : Nat)⟩) l := by rw [symsT, if_pos (.inr rfl)]
theorem cnt_3 {n : Int} {nm : ByteArray} {l : List Te} : cntT (.mk 3 n nm l) = 1 + l.length + cntTs l := by rw [cntT, if_pos rfl]
theorem Rst.refl (s : So) : Rst s s := ⟨rfl, rfl, rfl, rfl⟩
mutual
theorem addD_len : ∀ (t : Te) (q : Sv) (a : Int), nodesT t = true → SV q.2 → (addD q t a).2.1.cs.length = q.1.cs.length + (if a < 0 then nedT t q.2 else cntT t) ∧ (addD q t a).2.1.ys = symsT q.1.ys t ∧ Rst q.1 (addD q t a).2.1 ∧ SV (addD q t a).2.2
  | .mk k n nm l, q, a, hn, hs => by
    rw [nodesT, Bool.and_eq_true] at hn
    rcases node_cases hn.1 with ⟨rfl, rfl, h1, h2⟩ | ⟨rfl, rfl⟩ | ⟨rfl, rfl, h1⟩ | ⟨rfl, h1, h2, h3⟩
    · have e1 : nedT (.mk 0 n nm []) q.2 = if ofV q.2 n = none then 1 else 0 := by
        unfold nedT
        rw [cnt_no (by decide)]
        simp [Te.k, Te.n]
      rw [addD_0, syms_no (by decide), cnt_no (by decide), e1]
      cases ho : ofV q.2 n with
      | some c => exact ⟨by simp, rfl, Rst.refl _, hs⟩
      | none =>
        by_cases ha : a < 0
        · simp only [if_pos ha]
          exact ⟨by simp, by trivial, ⟨rfl, rfl, rfl, rfl⟩, insV_sv h1 h2 hs ho⟩
        · simp only [if_neg ha]
          exact ⟨by simp, by trivial, ⟨rfl, rfl, rfl, rfl⟩, insV_sv h1 h2 hs ho⟩
    · rw [addD_1, syms_no (by decide), ned_no (by decide), cnt_no (by decide)]
      exact ⟨by simp, rfl, Rst.refl _, hs⟩
    · obtain ⟨e1, e2, e3, e4, e5, e6⟩ := symN_cs q.1 nm 0
      rw [addD_2, syms_2, ned_no (by decide), cnt_no (by decide)]
      exact ⟨by rw [e1]; simp, e3, ⟨e2, e4, e5, e6⟩, hs⟩
    · obtain ⟨e1, e2, e3, e4, e5, e6⟩ := symN_cs q.1 nm (l.length : Nat)
      rw [addD_3, syms_3, ned_no (by decide), cnt_3]
      obtain ⟨g1, g2, g3, g4⟩ := addAs_len l ({ (symN q.1 nm (l.length : Nat)).2 with cs := q.1.cs ++ (⟨4, (symN q.1 nm (l.length : Nat)).1⟩ :: List.replicate l.length ⟨0, 0⟩) }, q.2) (q.1.cs.length + 1) hn.2 hs
      refine ⟨?_, ?_, ?_, g4⟩
      · rw [g1]
        simp
        omega
      · rw [g2]
        show symsTs (symN q.1 nm (l.length : Nat)).2.ys l = _
        rw [e3]
      · exact Rst.trans ⟨e2, e4, e5, e6⟩ g3
theorem addAs_len : ∀ (l : List Te) (q : Sv) (to : Nat), nodesTs l = true → SV q.2 → (addAs q l to).1.cs.length = q.1.cs.length + cntTs l ∧ (addAs q l to).1.ys = symsTs q.1.ys l ∧ Rst q.1 (addAs q l to).1 ∧ SV (addAs q l to).2
  | [], q, to, _, hs => ⟨rfl, rfl, ⟨rfl, rfl, rfl, rfl⟩, hs⟩
  | t :: l, q, to, hn, hs => by
    rw [nodesTs, Bool.and_eq_true] at hn
    rw [addAs, cntTs, symsTs]
    obtain ⟨h1, h2, h3, h4⟩ := addD_len t q (to : Nat) hn.1 hs
    obtain ⟨g1, g2, g3, g4⟩ := addAs_len l (setC (addD q t (to : Nat)).2.1 to (addD q t (to : Nat)).1, (addD q t (to : Nat)).2.2) (to + 1) hn.2 h4
    refine ⟨?_, ?_, ?_, g4⟩
    · rw [g1, setC_len, h1, if_neg (by omega)]
      omega
    · rw [g2]
      show symsTs (addD q t (to : Nat)).2.1.ys l = _
      rw [h2]
    · exact Rst.trans h3 g3
end
end Go.Proofs.Ytinclokohcommaa

