/-
  Lemmas of the walk and plain laws, put together. No condition.
-/
import Derived.Test.YtinclokohcommaaZc
namespace Go.Proofs.Ytinclokohcommaa
open Go.RowKit
set_option linter.unusedVariables false
set_option maxRecDepth 100000

abbrev T_Cells : Ty := .row 37
abbrev T_Symbols : Ty := .row 72
abbrev T_Undos : Ty := .row 80
abbrev T_Wakes : Ty := .row 82
abbrev T_Store : Ty := .st 26
abbrev T_Cell : Ty := .st 36
abbrev T_Terms : Ty := .row 43
abbrev T_Term : Ty := .st 42
abbrev T_VarCells : Ty := .row 49
abbrev T_VarCell : Ty := .st 48
abbrev T_Symbol : Ty := .st 71
abbrev T_Undo : Ty := .st 79
abbrev T_Wake : Ty := .st 81
def q2e : Ct := ⟨35, [.val (.int .i64)], [(.st 26, true), (.int .i64, false)], [], none⟩
theorem enter_cells_New (args : Array Value) (w : World) : (callFunc q2e.f args).run Try.prog w = .ok (.enter q2e.f args) w := by kernel_rfl
def ann_cells_New : Ann := ⟨[0, 2, 3, 9], []⟩
def q5f : Tree := (.br (.or (.lt (.tok 0) (.lit (.i 1))) (.lt (.lit (.i 1048576)) (.tok 0))) (.leaf [(.lit (.a [(.r []), (.r []), (.r []), (.r []), (.i 0), (.i 0)])), (.lit (.i 1))]) (.leaf [(.set (.lit (.a [(.r []), (.r []), (.r []), (.r []), (.i 0), (.i 0)])) 5 (.tok 0)), (.lit (.i 0))]))
set_option maxRecDepth 100000 in
theorem code_cells_New : ∀ cd, Try.f35.body = some cd → treeOf Try.prog [] ann_cells_New q2e Try.f35 cd = q5f := by
  intro cd h
  injection h with h
  subst h
  kernel_rfl
theorem fok_cells_New {g : List D → Option (List D)}  (h : ∀ ds outs, WfA q2e.ars ds → g ds = some outs → q5f.go (tblS []) (fun o => o = outs) ds fun _ _ => False) : FOk q2e g :=
  q08 ann_cells_New Try.f35 _ .nil rfl rfl enter_cells_New (by decide) fun ds outs hw hg => by rw [code_cells_New  _ rfl]; exact h ds outs hw hg

def q2r : Ct := ⟨45, [.val (.int .i64)], [(.st 42, false)], [], none⟩
theorem enter_law30_x (args : Array Value) (w : World) : (callFunc q2r.f args).run Try.prog w = .ok (.enter q2r.f args) w := by kernel_rfl
def ann_law30_x : Ann := ⟨[0, 2], []⟩
def tree_law30_x : Tree := (.leaf [(.set (.lit (.a [(.i 0), (.i 0), (.s ⟨#[]⟩), (.r [])])) 1 (.tok 0))])
set_option maxRecDepth 100000 in
theorem code_law30_x : ∀ cd, Try.f45.body = some cd → treeOf Try.prog [] ann_law30_x q2r Try.f45 cd = tree_law30_x := by
  intro cd h
  injection h with h
  subst h
  kernel_rfl
theorem fok_law30_x {g : List D → Option (List D)}  (h : ∀ ds outs, WfA q2r.ars ds → g ds = some outs → tree_law30_x.go (tblS []) (fun o => o = outs) ds fun _ _ => False) : FOk q2r g :=
  q08 ann_law30_x Try.f45 _ .nil rfl rfl enter_law30_x (by decide) fun ds outs hw hg => by rw [code_law30_x  _ rfl]; exact h ds outs hw hg

def q2p : Ct := ⟨34, [.val (.str), .val (.row 43)], [(.st 42, false)], [], none⟩
theorem enter_law30_f (args : Array Value) (w : World) : (callFunc q2p.f args).run Try.prog w = .ok (.enter q2p.f args) w := by kernel_rfl
def ann_law30_f : Ann := ⟨[0, 1, 4], []⟩
def tree_law30_f : Tree := (.leaf [(.set (.set (.set (.lit (.a [(.i 0), (.i 0), (.s ⟨#[]⟩), (.r [])])) 0 (.lit (.i 3))) 2 (.tok 0)) 3 (.tok 1))])
set_option maxRecDepth 100000 in
theorem code_law30_f : ∀ cd, Try.f34.body = some cd → treeOf Try.prog [] ann_law30_f q2p Try.f34 cd = tree_law30_f := by
  intro cd h
  injection h with h
  subst h
  kernel_rfl
theorem fok_law30_f {g : List D → Option (List D)}  (h : ∀ ds outs, WfA q2p.ars ds → g ds = some outs → tree_law30_f.go (tblS []) (fun o => o = outs) ds fun _ _ => False) : FOk q2p g :=
  q08 ann_law30_f Try.f34 _ .nil rfl rfl enter_law30_f (by decide) fun ds outs hw hg => by rw [code_law30_f  _ rfl]; exact h ds outs hw hg

def q0o : Ct := ⟨52, [.rref (.st 26), .val (.st 71)], [(.int .i64, false)], [], none⟩
theorem enter_cells_find (args : Array Value) (w : World) : (callFunc q0o.f args).run Try.prog w = .ok (.enter q0o.f args) w := by kernel_rfl
def ann_cells_find : Ann := ⟨[0, 1, 3, 4, 5, 10, 11, 12, 22], [(2, ⟨[(4, .int .i64, false), (11, .int .i64, false)], [], [12, 13, 5, 14, 15, 16, 17, 18, 19, 20, 21, 22, 23, 24], []⟩)]⟩
def q3s : Tree := (.loop 2 2 [(.lit (.i 0)), (.lit (.i 0))] (.br (.lt (.tok 3) (.len (.fld (.tok 0) 1))) (.need [(.le (.lit (.i 0)) (.tok 3)), (.lt (.tok 3) (.len (.fld (.tok 0) 1)))] (.br (.eq (.get (.fld (.tok 0) 1) (.tok 3)) (.tok 1)) (.leaf [(.tok 3)]) (.need [(.rng .i64 (.add (.tok 3) (.lit (.i 1))))] (.back 2 [(.tok 2), (.add (.tok 3) (.lit (.i 1)))])))) (.leaf [(.lit (.i (-1)))])))
set_option maxRecDepth 100000 in
theorem code_cells_find : ∀ cd, Try.f52.body = some cd → treeOf Try.prog [] ann_cells_find q0o Try.f52 cd = q3s := by
  intro cd h
  injection h with h
  subst h
  kernel_rfl
theorem fok_cells_find {g : List D → Option (List D)}  (h : ∀ ds outs, WfA q0o.ars ds → g ds = some outs → q3s.go (tblS []) (fun o => o = outs) ds fun _ _ => False) : FOk q0o g :=
  q08 ann_cells_find Try.f52 _ .nil rfl rfl enter_cells_find (by decide) fun ds outs hw hg => by rw [code_cells_find  _ rfl]; exact h ds outs hw hg

def q1e : Ct := ⟨16, [.ref (.st 26), .val (.str), .val (.int .i64)], [(.int .i64, false), (.int .i64, false)], [], none⟩
theorem enter_cells_Symbol (args : Array Value) (w : World) : (callFunc q1e.f args).run Try.prog w = .ok (.enter q1e.f args) w := by kernel_rfl
def ann_cells_Symbol : Ann := ⟨[0, 1, 2, 6, 7, 8, 9, 24, 32, 39], []⟩
def q2z : Tree := (.br (.or (.or (.lt (.lit (.i 100)) (.slen (.tok 1))) (.lt (.tok 2) (.lit (.i 0)))) (.lt (.lit (.i 8)) (.tok 2))) (.leaf [(.lit (.i 0)), (.lit (.i 1)), (.tok 0)]) (.need [(.ok 0 [(.tok 0), (.mk [(.tok 1), (.tok 2)])])] (.br (.le (.lit (.i 0)) (.call 0 0 [(.tok 0), (.mk [(.tok 1), (.tok 2)])])) (.leaf [(.call 0 0 [(.tok 0), (.mk [(.tok 1), (.tok 2)])]), (.lit (.i 0)), (.tok 0)]) (.br (.le (.lit (.i 1048576)) (.len (.fld (.tok 0) 1))) (.leaf [(.lit (.i 0)), (.lit (.i 13)), (.tok 0)]) (.need [(.le (.add (.len (.fld (.tok 0) 1)) (.lit (.i 1))) (.lit (.i 5864062014634)))] (.need [(.rng .i64 (.sub (.len (.fld (.set (.tok 0) 1 (.app (.fld (.tok 0) 1) (.row [(.mk [(.tok 1), (.tok 2)])]))) 1)) (.lit (.i 1))))] (.leaf [(.sub (.len (.fld (.set (.tok 0) 1 (.app (.fld (.tok 0) 1) (.row [(.mk [(.tok 1), (.tok 2)])]))) 1)) (.lit (.i 1))), (.lit (.i 0)), (.set (.tok 0) 1 (.app (.fld (.tok 0) 1) (.row [(.mk [(.tok 1), (.tok 2)])])))])))))))
set_option maxRecDepth 100000 in
theorem code_cells_Symbol (g0 : List D → Option (List D)) : ∀ cd, Try.f16.body = some cd → treeOf Try.prog [(q0o, g0)] ann_cells_Symbol q1e Try.f16 cd = q2z := by
  intro cd h
  injection h with h
  subst h
  kernel_rfl
theorem fok_cells_Symbol {g0 : List D → Option (List D)} {g : List D → Option (List D)} (h0 : FOk q0o g0) (h : ∀ ds outs, WfA q1e.ars ds → g ds = some outs → q2z.go (tblS [(q0o, g0)]) (fun o => o = outs) ds fun _ _ => False) : FOk q1e g :=
  q08 ann_cells_Symbol Try.f16 _ (.cons h0 .nil) rfl rfl enter_cells_Symbol (by decide) fun ds outs hw hg => by rw [code_cells_Symbol g0 _ rfl]; exact h ds outs hw hg

def q12 : Ct := ⟨111, [.val (.int .i64)], [(.bool, false)], [], none⟩
theorem enter_cmp_isNaN_int64 (args : Array Value) (w : World) : (callFunc q12.f args).run Try.prog w = .ok (.enter q12.f args) w := by kernel_rfl
def q55 : Ann := ⟨[0, 2], []⟩
def q2s : Tree := (.leaf [(.not (.eq (.tok 0) (.tok 0)))])
set_option maxRecDepth 100000 in
theorem code_cmp_isNaN_int64 : ∀ cd, Try.f111.body = some cd → treeOf Try.prog [] q55 q12 Try.f111 cd = q2s := by
  intro cd h
  injection h with h
  subst h
  kernel_rfl
theorem q58 {g : List D → Option (List D)}  (h : ∀ ds outs, WfA q12.ars ds → g ds = some outs → q2s.go (tblS []) (fun o => o = outs) ds fun _ _ => False) : FOk q12 g :=
  q08 q55 Try.f111 _ .nil rfl rfl enter_cmp_isNaN_int64 (by decide) fun ds outs hw hg => by rw [code_cmp_isNaN_int64  _ rfl]; exact h ds outs hw hg

def q0r : Ct := ⟨98, [.val (.int .i64), .val (.int .i64)], [(.int .i64, false)], [], none⟩
theorem enter_cmp_Compare_int64 (args : Array Value) (w : World) : (callFunc q0r.f args).run Try.prog w = .ok (.enter q0r.f args) w := by kernel_rfl
def q4u : Ann := ⟨[0, 1, 4, 5, 6, 11, 12, 13, 16, 19], []⟩
def q2g : Tree := (.need [(.ok 0 [(.tok 0)])] (.need [(.ok 0 [(.tok 1)])] (.br (.call 0 0 [(.tok 0)]) (.br (.call 0 0 [(.tok 1)]) (.leaf [(.lit (.i 0))]) (.leaf [(.lit (.i (-1)))])) (.br (.call 0 0 [(.tok 1)]) (.leaf [(.lit (.i 1))]) (.br (.lt (.tok 0) (.tok 1)) (.leaf [(.lit (.i (-1)))]) (.br (.lt (.tok 1) (.tok 0)) (.leaf [(.lit (.i 1))]) (.leaf [(.lit (.i 0))])))))))
set_option maxRecDepth 100000 in
theorem code_cmp_Compare_int64 (g0 : List D → Option (List D)) : ∀ cd, Try.f98.body = some cd → treeOf Try.prog [(q12, g0)] q4u q0r Try.f98 cd = q2g := by
  intro cd h
  injection h with h
  subst h
  kernel_rfl
theorem q4t {g0 : List D → Option (List D)} {g : List D → Option (List D)} (h0 : FOk q12 g0) (h : ∀ ds outs, WfA q0r.ars ds → g ds = some outs → q2g.go (tblS [(q12, g0)]) (fun o => o = outs) ds fun _ _ => False) : FOk q0r g :=
  q08 q4u Try.f98 _ (.cons h0 .nil) rfl rfl enter_cmp_Compare_int64 (by decide) fun ds outs hw hg => by rw [code_cmp_Compare_int64 g0 _ rfl]; exact h ds outs hw hg

def q1n : Ct := ⟨60, [.val (.st 48), .val (.int .i64)], [(.int .i64, false)], [], none⟩
theorem enter_cells_byVar (args : Array Value) (w : World) : (callFunc q1n.f args).run Try.prog w = .ok (.enter q1n.f args) w := by kernel_rfl
def ann_cells_byVar : Ann := ⟨[0, 1, 2, 4], []⟩
def q3d : Tree := (.need [(.ok 0 [(.fld (.tok 0) 0), (.tok 1)])] (.leaf [(.call 0 0 [(.fld (.tok 0) 0), (.tok 1)])]))
set_option maxRecDepth 100000 in
theorem code_cells_byVar (g0 : List D → Option (List D)) : ∀ cd, Try.f60.body = some cd → treeOf Try.prog [(q0r, g0)] ann_cells_byVar q1n Try.f60 cd = q3d := by
  intro cd h
  injection h with h
  subst h
  kernel_rfl
theorem fok_cells_byVar {g0 : List D → Option (List D)} {g : List D → Option (List D)} (h0 : FOk q0r g0) (h : ∀ ds outs, WfA q1n.ars ds → g ds = some outs → q3d.go (tblS [(q0r, g0)]) (fun o => o = outs) ds fun _ _ => False) : FOk q1n g :=
  q08 ann_cells_byVar Try.f60 _ (.cons h0 .nil) rfl rfl enter_cells_byVar (by decide) fun ds outs hw hg => by rw [code_cells_byVar g0 _ rfl]; exact h ds outs hw hg

def q05 : Ct := ⟨59, [.val (.row 49), .val (.int .i64), .fn 60 []], [(.int .i64, false), (.bool, false)], [], none⟩
theorem q3w (args : Array Value) (w : World) : (callFunc q05.f args).run Try.prog w = .ok (.enter q05.f args) w := by kernel_rfl
def q2j : Ann := ⟨[0, 1, 2, 6, 7, 8, 9, 10, 11, 17, 31], [(3, ⟨[(9, .int .i64, false), (10, .int .i64, false)], [], [15, 16, 17, 18, 19, 20, 21, 22, 23, 11, 24, 25, 26, 27, 28, 29, 30, 31, 32, 33, 34], []⟩)]⟩
def q1g : Tree := (.loop 3 2 [(.lit (.i 0)), (.len (.tok 0))] (.br (.lt (.tok 2) (.tok 3)) (.need [(.rng .i64 (.add (.tok 2) (.tok 3))), (.rng .u64 (.add (.tok 2) (.tok 3))), (.rng .u64 (.fn 8 [(.add (.tok 2) (.tok 3)), (.lit (.i 1))])), (.rng .i64 (.fn 8 [(.add (.tok 2) (.tok 3)), (.lit (.i 1))]))] (.need [(.le (.lit (.i 0)) (.fn 8 [(.add (.tok 2) (.tok 3)), (.lit (.i 1))])), (.lt (.fn 8 [(.add (.tok 2) (.tok 3)), (.lit (.i 1))]) (.len (.tok 0))), (.ok 0 [(.get (.tok 0) (.fn 8 [(.add (.tok 2) (.tok 3)), (.lit (.i 1))])), (.tok 1)])] (.br (.lt (.call 0 0 [(.get (.tok 0) (.fn 8 [(.add (.tok 2) (.tok 3)), (.lit (.i 1))])), (.tok 1)]) (.lit (.i 0))) (.need [(.rng .i64 (.add (.fn 8 [(.add (.tok 2) (.tok 3)), (.lit (.i 1))]) (.lit (.i 1))))] (.back 3 [(.add (.fn 8 [(.add (.tok 2) (.tok 3)), (.lit (.i 1))]) (.lit (.i 1))), (.tok 3)])) (.back 3 [(.tok 2), (.fn 8 [(.add (.tok 2) (.tok 3)), (.lit (.i 1))])])))) (.need [(.imp (.lt (.tok 2) (.len (.tok 0))) (.le (.lit (.i 0)) (.tok 2))), (.imp (.lt (.tok 2) (.len (.tok 0))) (.lt (.tok 2) (.len (.tok 0)))), (.imp (.lt (.tok 2) (.len (.tok 0))) (.ok 0 [(.get (.tok 0) (.tok 2)), (.tok 1)]))] (.leaf [(.tok 2), (.and (.lt (.tok 2) (.len (.tok 0))) (.eq (.call 0 0 [(.get (.tok 0) (.tok 2)), (.tok 1)]) (.lit (.i 0))))]))))
set_option maxRecDepth 100000 in
theorem q3x (g0 : List D → Option (List D)) : ∀ cd, Try.f59.body = some cd → treeOf Try.prog [(q1n, g0)] q2j q05 Try.f59 cd = q1g := by
  intro cd h
  injection h with h
  subst h
  kernel_rfl
theorem q2i {g0 : List D → Option (List D)} {g : List D → Option (List D)} (h0 : FOk q1n g0) (h : ∀ ds outs, WfA q05.ars ds → g ds = some outs → q1g.go (tblS [(q1n, g0)]) (fun o => o = outs) ds fun _ _ => False) : FOk q05 g :=
  q08 q2j Try.f59 _ (.cons h0 .nil) rfl rfl q3w (by decide) fun ds outs hw hg => by rw [q3x g0 _ rfl]; exact h ds outs hw hg

def q1r : Ct := ⟨61, [.val (.st 36)], [(.st 36, false)], [], none⟩
theorem enter_cells_kept (args : Array Value) (w : World) : (callFunc q1r.f args).run Try.prog w = .ok (.enter q1r.f args) w := by kernel_rfl
def ann_cells_kept : Ann := ⟨[0, 1, 2, 5], []⟩
def q3n : Tree := (.br (.eq (.fld (.tok 0) 0) (.lit (.i 5))) (.leaf [(.set (.tok 0) 0 (.lit (.i 0)))]) (.leaf [(.tok 0)]))
set_option maxRecDepth 100000 in
theorem code_cells_kept : ∀ cd, Try.f61.body = some cd → treeOf Try.prog [] ann_cells_kept q1r Try.f61 cd = q3n := by
  intro cd h
  injection h with h
  subst h
  kernel_rfl
theorem fok_cells_kept {g : List D → Option (List D)}  (h : ∀ ds outs, WfA q1r.ars ds → g ds = some outs → q3n.go (tblS []) (fun o => o = outs) ds fun _ _ => False) : FOk q1r g :=
  q08 ann_cells_kept Try.f61 _ .nil rfl rfl enter_cells_kept (by decide) fun ds outs hw hg => by rw [code_cells_kept  _ rfl]; exact h ds outs hw hg

def q1k : Ct := ⟨19, [.ref (.st 26)], [(.st 36, false), (.int .i64, false)], [], none⟩
theorem enter_cells_Fresh (args : Array Value) (w : World) : (callFunc q1k.f args).run Try.prog w = .ok (.enter q1k.f args) w := by kernel_rfl
def ann_cells_Fresh : Ann := ⟨[0, 2, 3, 5, 16], []⟩
def q3b : Tree := (.br (.le (.fld (.tok 0) 5) (.len (.fld (.tok 0) 0))) (.leaf [(.lit (.a [(.i 0), (.i 0)])), (.lit (.i 13)), (.tok 0)]) (.need [(.le (.add (.len (.fld (.tok 0) 0)) (.lit (.i 1))) (.lit (.i 8796093021952)))] (.leaf [(.mk [(.lit (.i 0)), (.len (.fld (.tok 0) 0))]), (.lit (.i 0)), (.set (.tok 0) 0 (.app (.fld (.tok 0) 0) (.row [(.mk [(.lit (.i 0)), (.len (.fld (.tok 0) 0))])])))])))
set_option maxRecDepth 100000 in
theorem code_cells_Fresh : ∀ cd, Try.f19.body = some cd → treeOf Try.prog [] ann_cells_Fresh q1k Try.f19 cd = q3b := by
  intro cd h
  injection h with h
  subst h
  kernel_rfl
theorem fok_cells_Fresh {g : List D → Option (List D)}  (h : ∀ ds outs, WfA q1k.ars ds → g ds = some outs → q3b.go (tblS []) (fun o => o = outs) ds fun _ _ => False) : FOk q1k g :=
  q08 ann_cells_Fresh Try.f19 _ .nil rfl rfl enter_cells_Fresh (by decide) fun ds outs hw hg => by rw [code_cells_Fresh  _ rfl]; exact h ds outs hw hg

def q0a : Ct := ⟨62, [.own (.row 49), .val (.int .i64), .own (.row 49)], [(.row 49, true)], [], none⟩
theorem q36 (args : Array Value) (w : World) : (callFunc q0a.f args).run Try.prog w = .ok (.enter q0a.f args) w := by kernel_rfl
def q2o : Ann := ⟨[0, 1, 2, 6, 7, 8, 9, 16, 22, 31, 68], []⟩
def q28 : Tree := (.need [(.le (.lit (.i 0)) (.tok 1)), (.le (.tok 1) (.len (.tok 0)))] (.br (.eq (.len (.tok 2)) (.lit (.i 0))) (.leaf [(.tok 0)]) (.br (.eq (.tok 1) (.len (.tok 0))) (.need [(.le (.add (.len (.tok 0)) (.len (.tok 2))) (.lit (.i 5864062014634)))] (.leaf [(.app (.tok 0) (.tok 2))])) (.bad 8004))))
set_option maxRecDepth 100000 in
theorem q3j : ∀ cd, Try.f62.body = some cd → treeOf Try.prog [] q2o q0a Try.f62 cd = q28 := by
  intro cd h
  injection h with h
  subst h
  kernel_rfl
theorem q5r {g : List D → Option (List D)}  (h : ∀ ds outs, WfA q0a.ars ds → g ds = some outs → q28.go (tblS []) (fun o => o = outs) ds fun _ _ => False) : FOk q0a g :=
  q08 q2o Try.f62 _ .nil rfl rfl q36 (by decide) fun ds outs hw hg => by rw [q3j  _ rfl]; exact h ds outs hw hg

def q0x : Ct := ⟨58, [.val (.st 42), .val (.int .i64), .cell 34 5, .ref (.row 49), .cell 89 6], [(.st 36, false)], [(.cell 2, .ref (.st 26)), (.cell 4, .fn 58 [2, 3, 4])], none⟩
theorem q4c (args : Array Value) (w : World) : (callFunc q0x.f args).run Try.prog w = .ok (.enter q0x.f args) w := by kernel_rfl
def ann_cells_Put_1 : Ann := ⟨[0, 1, 2, 3, 4, 5, 7, 8, 10, 11, 12, 13, 15, 16, 17, 18, 19, 21, 22, 27, 38, 47, 57, 110, 111, 112, 113], [(21, ⟨[(112, .int .i64, false)], [3, 100000], [113, 114, 115, 116, 17, 16, 117, 118, 119, 120, 18, 121, 122, 123, 124, 19, 125, 126, 127, 128, 129, 130, 131, 132], []⟩)]⟩
def q2a : Tree := (.br (.eq (.fld (.tok 0) 0) (.lit (.i 1))) (.leaf [(.mk [(.lit (.i 1)), (.fld (.tok 0) 1)]), (.tok 2), (.tok 3)]) (.br (.eq (.fld (.tok 0) 0) (.lit (.i 2))) (.need [(.ok 1 [(.tok 3), (.fld (.tok 0) 2), (.lit (.i 0))])] (.leaf [(.mk [(.lit (.i 2)), (.call 1 0 [(.tok 3), (.fld (.tok 0) 2), (.lit (.i 0))])]), (.tok 2), (.call 1 2 [(.tok 3), (.fld (.tok 0) 2), (.lit (.i 0))])])) (.br (.eq (.fld (.tok 0) 0) (.lit (.i 0))) (.need [(.ok 2 [(.tok 2), (.fld (.tok 0) 1)])] (.br (.call 2 1 [(.tok 2), (.fld (.tok 0) 1)]) (.need [(.le (.lit (.i 0)) (.call 2 0 [(.tok 2), (.fld (.tok 0) 1)])), (.lt (.call 2 0 [(.tok 2), (.fld (.tok 0) 1)]) (.len (.tok 2))), (.ok 3 [(.fld (.get (.tok 2) (.call 2 0 [(.tok 2), (.fld (.tok 0) 1)])) 1)])] (.leaf [(.call 3 0 [(.fld (.get (.tok 2) (.call 2 0 [(.tok 2), (.fld (.tok 0) 1)])) 1)]), (.tok 2), (.tok 3)])) (.br (.lt (.tok 1) (.lit (.i 0))) (.need [(.ok 4 [(.tok 3)])] (.need [(.ok 5 [(.tok 2), (.call 2 0 [(.tok 2), (.fld (.tok 0) 1)]), (.row [(.mk [(.fld (.tok 0) 1), (.call 4 0 [(.tok 3)])])])])] (.leaf [(.call 4 0 [(.tok 3)]), (.call 5 0 [(.tok 2), (.call 2 0 [(.tok 2), (.fld (.tok 0) 1)]), (.row [(.mk [(.fld (.tok 0) 1), (.call 4 0 [(.tok 3)])])])]), (.call 4 2 [(.tok 3)])]))) (.need [(.ok 5 [(.tok 2), (.call 2 0 [(.tok 2), (.fld (.tok 0) 1)]), (.row [(.mk [(.fld (.tok 0) 1), (.mk [(.lit (.i 0)), (.tok 1)])])])])] (.leaf [(.mk [(.lit (.i 0)), (.tok 1)]), (.call 5 0 [(.tok 2), (.call 2 0 [(.tok 2), (.fld (.tok 0) 1)]), (.row [(.mk [(.fld (.tok 0) 1), (.mk [(.lit (.i 0)), (.tok 1)])])])]), (.tok 3)]))))) (.need [(.ok 1 [(.tok 3), (.fld (.tok 0) 2), (.len (.fld (.tok 0) 3))])] (.need [(.le (.add (.len (.fld (.call 1 2 [(.tok 3), (.fld (.tok 0) 2), (.len (.fld (.tok 0) 3))]) 0)) (.lit (.i 1))) (.lit (.i 8796093021952)))] (.need [(.le (.lit (.i 0)) (.len (.fld (.tok 0) 3))), (.le (.len (.fld (.tok 0) 3)) (.lit (.i 16777216))), (.le (.add (.len (.fld (.set (.call 1 2 [(.tok 3), (.fld (.tok 0) 2), (.len (.fld (.tok 0) 3))]) 0 (.app (.fld (.call 1 2 [(.tok 3), (.fld (.tok 0) 2), (.len (.fld (.tok 0) 3))]) 0) (.row [(.mk [(.lit (.i 4)), (.call 1 0 [(.tok 3), (.fld (.tok 0) 2), (.len (.fld (.tok 0) 3))])])]))) 0)) (.len (.fld (.tok 0) 3))) (.lit (.i 8796093021952)))] (.loop 21 4 [(.lit (.i 0)), (.tok 2), (.set (.set (.call 1 2 [(.tok 3), (.fld (.tok 0) 2), (.len (.fld (.tok 0) 3))]) 0 (.app (.fld (.call 1 2 [(.tok 3), (.fld (.tok 0) 2), (.len (.fld (.tok 0) 3))]) 0) (.row [(.mk [(.lit (.i 4)), (.call 1 0 [(.tok 3), (.fld (.tok 0) 2), (.len (.fld (.tok 0) 3))])])]))) 0 (.app (.fld (.set (.call 1 2 [(.tok 3), (.fld (.tok 0) 2), (.len (.fld (.tok 0) 3))]) 0 (.app (.fld (.call 1 2 [(.tok 3), (.fld (.tok 0) 2), (.len (.fld (.tok 0) 3))]) 0) (.row [(.mk [(.lit (.i 4)), (.call 1 0 [(.tok 3), (.fld (.tok 0) 2), (.len (.fld (.tok 0) 3))])])]))) 0) (.rep (.len (.fld (.tok 0) 3)) (.lit (.a [(.i 0), (.i 0)])))))] (.br (.lt (.tok 4) (.len (.fld (.tok 0) 3))) (.need [(.le (.lit (.i 0)) (.tok 4)), (.lt (.tok 4) (.len (.fld (.tok 0) 3)))] (.need [(.rng .i64 (.add (.len (.fld (.call 1 2 [(.tok 3), (.fld (.tok 0) 2), (.len (.fld (.tok 0) 3))]) 0)) (.lit (.i 1)))), (.rng .i64 (.add (.add (.len (.fld (.call 1 2 [(.tok 3), (.fld (.tok 0) 2), (.len (.fld (.tok 0) 3))]) 0)) (.lit (.i 1))) (.tok 4)))] (.need [(.ok 0 [(.get (.fld (.tok 0) 3) (.tok 4)), (.add (.add (.len (.fld (.call 1 2 [(.tok 3), (.fld (.tok 0) 2), (.len (.fld (.tok 0) 3))]) 0)) (.lit (.i 1))) (.tok 4)), (.tok 5), (.tok 6)])] (.need [(.le (.lit (.i 0)) (.add (.add (.len (.fld (.call 1 2 [(.tok 3), (.fld (.tok 0) 2), (.len (.fld (.tok 0) 3))]) 0)) (.lit (.i 1))) (.tok 4))), (.lt (.add (.add (.len (.fld (.call 1 2 [(.tok 3), (.fld (.tok 0) 2), (.len (.fld (.tok 0) 3))]) 0)) (.lit (.i 1))) (.tok 4)) (.len (.fld (.call 0 2 [(.get (.fld (.tok 0) 3) (.tok 4)), (.add (.add (.len (.fld (.call 1 2 [(.tok 3), (.fld (.tok 0) 2), (.len (.fld (.tok 0) 3))]) 0)) (.lit (.i 1))) (.tok 4)), (.tok 5), (.tok 6)]) 0)))] (.need [(.rng .i64 (.add (.tok 4) (.lit (.i 1))))] (.back 21 [(.add (.tok 4) (.lit (.i 1))), (.call 0 1 [(.get (.fld (.tok 0) 3) (.tok 4)), (.add (.add (.len (.fld (.call 1 2 [(.tok 3), (.fld (.tok 0) 2), (.len (.fld (.tok 0) 3))]) 0)) (.lit (.i 1))) (.tok 4)), (.tok 5), (.tok 6)]), (.set (.call 0 2 [(.get (.fld (.tok 0) 3) (.tok 4)), (.add (.add (.len (.fld (.call 1 2 [(.tok 3), (.fld (.tok 0) 2), (.len (.fld (.tok 0) 3))]) 0)) (.lit (.i 1))) (.tok 4)), (.tok 5), (.tok 6)]) 0 (.put (.fld (.call 0 2 [(.get (.fld (.tok 0) 3) (.tok 4)), (.add (.add (.len (.fld (.call 1 2 [(.tok 3), (.fld (.tok 0) 2), (.len (.fld (.tok 0) 3))]) 0)) (.lit (.i 1))) (.tok 4)), (.tok 5), (.tok 6)]) 0) (.add (.add (.len (.fld (.call 1 2 [(.tok 3), (.fld (.tok 0) 2), (.len (.fld (.tok 0) 3))]) 0)) (.lit (.i 1))) (.tok 4)) (.call 0 0 [(.get (.fld (.tok 0) 3) (.tok 4)), (.add (.add (.len (.fld (.call 1 2 [(.tok 3), (.fld (.tok 0) 2), (.len (.fld (.tok 0) 3))]) 0)) (.lit (.i 1))) (.tok 4)), (.tok 5), (.tok 6)])))])))))) (.leaf [(.mk [(.lit (.i 3)), (.len (.fld (.call 1 2 [(.tok 3), (.fld (.tok 0) 2), (.len (.fld (.tok 0) 3))]) 0))]), (.tok 5), (.tok 6)])))))))))
set_option maxRecDepth 100000 in
theorem code_cells_Put_1 (g0 g1 g2 g3 g4 g5 : List D → Option (List D)) : ∀ cd, Try.f58.body = some cd → treeOf Try.prog [(q0x, g0), (q1e, g1), (q05, g2), (q1r, g3), (q1k, g4), (q0a, g5)] ann_cells_Put_1 q0x Try.f58 cd = q2a := by
  intro cd h
  injection h with h
  subst h
  kernel_rfl
theorem fok_cells_Put_1 {g0 g1 g2 g3 g4 g5 : List D → Option (List D)} {g : List D → Option (List D)} (h0 : FOk q0x g0) (h1 : FOk q1e g1) (h2 : FOk q05 g2) (h3 : FOk q1r g3) (h4 : FOk q1k g4) (h5 : FOk q0a g5) (h : ∀ ds outs, WfA q0x.ars ds → g ds = some outs → q2a.go (tblS [(q0x, g0), (q1e, g1), (q05, g2), (q1r, g3), (q1k, g4), (q0a, g5)]) (fun o => o = outs) ds fun _ _ => False) : FOk q0x g :=
  q08 ann_cells_Put_1 Try.f58 _ (.cons h0 (.cons h1 (.cons h2 (.cons h3 (.cons h4 (.cons h5 .nil)))))) rfl rfl q4c (by decide) fun ds outs hw hg => by rw [code_cells_Put_1 g0 g1 g2 g3 g4 g5 _ rfl]; exact h ds outs hw hg

def q11 : Ct := ⟨110, [.val (.st 42), .ref (.int .i64), .cell 116 3], [], [(.cell 2, .fn 110 [1, 2])], none⟩
theorem q4i (args : Array Value) (w : World) : (callFunc q11.f args).run Try.prog w = .ok (.enter q11.f args) w := by kernel_rfl
def ann_term_Size_1 : Ann := ⟨[0, 1, 2, 3, 4, 15], [(3, ⟨[(4, .int .i64, false)], [1], [7, 8, 9, 10, 11, 12, 13, 14, 15, 18, 19, 20, 21, 22, 23, 24, 16, 17], []⟩)]⟩
def q3f : Tree := (.need [(.rng .i64 (.sub (.tok 1) (.lit (.i 1))))] (.loop 3 2 [(.lit (.i 0)), (.sub (.tok 1) (.lit (.i 1)))] (.br (.and (.lt (.tok 2) (.len (.fld (.tok 0) 3))) (.lt (.lit (.i 0)) (.tok 3))) (.need [(.ok 0 [(.get (.fld (.tok 0) 3) (.tok 2)), (.tok 3)]), (.le (.lit (.i 0)) (.tok 2)), (.lt (.tok 2) (.len (.fld (.tok 0) 3)))] (.need [(.rng .i64 (.add (.tok 2) (.lit (.i 1))))] (.back 3 [(.add (.tok 2) (.lit (.i 1))), (.call 0 0 [(.get (.fld (.tok 0) 3) (.tok 2)), (.tok 3)])]))) (.leaf [(.tok 3)]))))
set_option maxRecDepth 100000 in
theorem code_term_Size_1 (g0 : List D → Option (List D)) : ∀ cd, Try.f110.body = some cd → treeOf Try.prog [(q11, g0)] ann_term_Size_1 q11 Try.f110 cd = q3f := by
  intro cd h
  injection h with h
  subst h
  kernel_rfl
theorem fok_term_Size_1 {g0 : List D → Option (List D)} {g : List D → Option (List D)} (h0 : FOk q11 g0) (h : ∀ ds outs, WfA q11.ars ds → g ds = some outs → q3f.go (tblS [(q11, g0)]) (fun o => o = outs) ds fun _ _ => False) : FOk q11 g :=
  q08 ann_term_Size_1 Try.f110 _ (.cons h0 .nil) rfl rfl q4i (by decide) fun ds outs hw hg => by rw [code_term_Size_1 g0 _ rfl]; exact h ds outs hw hg

def q1u : Ct := ⟨95, [.val (.st 42)], [(.int .i64, false)], [], none⟩
theorem enter_term_Size (args : Array Value) (w : World) : (callFunc q1u.f args).run Try.prog w = .ok (.enter q1u.f args) w := by kernel_rfl
def ann_term_Size : Ann := ⟨[0, 1, 2, 3, 4], []⟩
def q45 : Tree := (.need [(.ok 0 [(.tok 0), (.lit (.i 2001))])] (.need [(.rng .i64 (.sub (.lit (.i 2001)) (.call 0 0 [(.tok 0), (.lit (.i 2001))])))] (.leaf [(.sub (.lit (.i 2001)) (.call 0 0 [(.tok 0), (.lit (.i 2001))]))])))
set_option maxRecDepth 100000 in
theorem code_term_Size (g0 : List D → Option (List D)) : ∀ cd, Try.f95.body = some cd → treeOf Try.prog [(q11, g0)] ann_term_Size q1u Try.f95 cd = q45 := by
  intro cd h
  injection h with h
  subst h
  kernel_rfl
theorem fok_term_Size {g0 : List D → Option (List D)} {g : List D → Option (List D)} (h0 : FOk q11 g0) (h : ∀ ds outs, WfA q1u.ars ds → g ds = some outs → q45.go (tblS [(q11, g0)]) (fun o => o = outs) ds fun _ _ => False) : FOk q1u g :=
  q08 ann_term_Size Try.f95 _ (.cons h0 .nil) rfl rfl enter_term_Size (by decide) fun ds outs hw hg => by rw [code_term_Size g0 _ rfl]; exact h ds outs hw hg

def q0v : Ct := ⟨96, [.val (.st 42)], [(.bool, false)], [], none⟩
theorem q4z (args : Array Value) (w : World) : (callFunc q0v.f args).run Try.prog w = .ok (.enter q0v.f args) w := by kernel_rfl
def ann_term_fits : Ann := ⟨[0, 1, 2, 3, 4, 6, 7, 28, 39, 56, 86], [(12, ⟨[(3, .bool, false), (4, .int .i64, false)], [], [79, 80, 81, 82, 83, 84, 85, 86, 89, 90, 91, 92, 93, 94, 87, 88], []⟩)]⟩
def q49 : Tree := (.br (.eq (.fld (.tok 0) 0) (.lit (.i 0))) (.loop 12 1 [(.and (.and (.and (.le (.lit (.i 0)) (.fld (.tok 0) 1)) (.le (.fld (.tok 0) 1) (.lit (.i 1099511627776)))) (.eq (.fld (.tok 0) 2) (.lit (.s ⟨#[]⟩)))) (.eq (.len (.fld (.tok 0) 3)) (.lit (.i 0)))), (.lit (.i 0))] (.br (.and (.lt (.tok 2) (.len (.fld (.tok 0) 3))) (.tok 1)) (.need [(.le (.lit (.i 0)) (.tok 2)), (.lt (.tok 2) (.len (.fld (.tok 0) 3))), (.ok 0 [(.get (.fld (.tok 0) 3) (.tok 2))])] (.need [(.rng .i64 (.add (.tok 2) (.lit (.i 1))))] (.back 12 [(.call 0 0 [(.get (.fld (.tok 0) 3) (.tok 2))]), (.add (.tok 2) (.lit (.i 1)))]))) (.leaf [(.tok 1)]))) (.br (.eq (.fld (.tok 0) 0) (.lit (.i 1))) (.loop 12 1 [(.and (.eq (.fld (.tok 0) 2) (.lit (.s ⟨#[]⟩))) (.eq (.len (.fld (.tok 0) 3)) (.lit (.i 0)))), (.lit (.i 0))] (.br (.and (.lt (.tok 2) (.len (.fld (.tok 0) 3))) (.tok 1)) (.need [(.le (.lit (.i 0)) (.tok 2)), (.lt (.tok 2) (.len (.fld (.tok 0) 3))), (.ok 0 [(.get (.fld (.tok 0) 3) (.tok 2))])] (.need [(.rng .i64 (.add (.tok 2) (.lit (.i 1))))] (.back 12 [(.call 0 0 [(.get (.fld (.tok 0) 3) (.tok 2))]), (.add (.tok 2) (.lit (.i 1)))]))) (.leaf [(.tok 1)]))) (.br (.eq (.fld (.tok 0) 0) (.lit (.i 2))) (.loop 12 1 [(.and (.and (.eq (.fld (.tok 0) 1) (.lit (.i 0))) (.le (.slen (.fld (.tok 0) 2)) (.lit (.i 100)))) (.eq (.len (.fld (.tok 0) 3)) (.lit (.i 0)))), (.lit (.i 0))] (.br (.and (.lt (.tok 2) (.len (.fld (.tok 0) 3))) (.tok 1)) (.need [(.le (.lit (.i 0)) (.tok 2)), (.lt (.tok 2) (.len (.fld (.tok 0) 3))), (.ok 0 [(.get (.fld (.tok 0) 3) (.tok 2))])] (.need [(.rng .i64 (.add (.tok 2) (.lit (.i 1))))] (.back 12 [(.call 0 0 [(.get (.fld (.tok 0) 3) (.tok 2))]), (.add (.tok 2) (.lit (.i 1)))]))) (.leaf [(.tok 1)]))) (.br (.eq (.fld (.tok 0) 0) (.lit (.i 3))) (.loop 12 1 [(.and (.and (.and (.eq (.fld (.tok 0) 1) (.lit (.i 0))) (.le (.slen (.fld (.tok 0) 2)) (.lit (.i 100)))) (.lt (.lit (.i 0)) (.len (.fld (.tok 0) 3)))) (.le (.len (.fld (.tok 0) 3)) (.lit (.i 8)))), (.lit (.i 0))] (.br (.and (.lt (.tok 2) (.len (.fld (.tok 0) 3))) (.tok 1)) (.need [(.le (.lit (.i 0)) (.tok 2)), (.lt (.tok 2) (.len (.fld (.tok 0) 3))), (.ok 0 [(.get (.fld (.tok 0) 3) (.tok 2))])] (.need [(.rng .i64 (.add (.tok 2) (.lit (.i 1))))] (.back 12 [(.call 0 0 [(.get (.fld (.tok 0) 3) (.tok 2))]), (.add (.tok 2) (.lit (.i 1)))]))) (.leaf [(.tok 1)]))) (.loop 12 1 [(.lit (.b .false)), (.lit (.i 0))] (.br (.and (.lt (.tok 2) (.len (.fld (.tok 0) 3))) (.tok 1)) (.need [(.le (.lit (.i 0)) (.tok 2)), (.lt (.tok 2) (.len (.fld (.tok 0) 3))), (.ok 0 [(.get (.fld (.tok 0) 3) (.tok 2))])] (.need [(.rng .i64 (.add (.tok 2) (.lit (.i 1))))] (.back 12 [(.call 0 0 [(.get (.fld (.tok 0) 3) (.tok 2))]), (.add (.tok 2) (.lit (.i 1)))]))) (.leaf [(.tok 1)])))))))
set_option maxRecDepth 100000 in
theorem code_term_fits (g0 : List D → Option (List D)) : ∀ cd, Try.f96.body = some cd → treeOf Try.prog [(q0v, g0)] ann_term_fits q0v Try.f96 cd = q49 := by
  intro cd h
  injection h with h
  subst h
  kernel_rfl
theorem fok_term_fits {g0 : List D → Option (List D)} {g : List D → Option (List D)} (h0 : FOk q0v g0) (h : ∀ ds outs, WfA q0v.ars ds → g ds = some outs → q49.go (tblS [(q0v, g0)]) (fun o => o = outs) ds fun _ _ => False) : FOk q0v g :=
  q08 ann_term_fits Try.f96 _ (.cons h0 .nil) rfl rfl q4z (by decide) fun ds outs hw hg => by rw [code_term_fits g0 _ rfl]; exact h ds outs hw hg

def q16 : Ct := ⟨54, [.val (.st 42)], [(.bool, false)], [], none⟩
theorem enter_term_Valid (args : Array Value) (w : World) : (callFunc q16.f args).run Try.prog w = .ok (.enter q16.f args) w := by kernel_rfl
def ann_term_Valid : Ann := ⟨[0, 1, 2], []⟩
def q3p : Tree := (.need [(.ok 0 [(.tok 0)]), (.imp (.le (.call 0 0 [(.tok 0)]) (.lit (.i 2000))) (.ok 1 [(.tok 0)]))] (.leaf [(.and (.le (.call 0 0 [(.tok 0)]) (.lit (.i 2000))) (.call 1 0 [(.tok 0)]))]))
set_option maxRecDepth 100000 in
theorem code_term_Valid (g0 g1 : List D → Option (List D)) : ∀ cd, Try.f54.body = some cd → treeOf Try.prog [(q1u, g0), (q0v, g1)] ann_term_Valid q16 Try.f54 cd = q3p := by
  intro cd h
  injection h with h
  subst h
  kernel_rfl
theorem fok_term_Valid {g0 g1 : List D → Option (List D)} {g : List D → Option (List D)} (h0 : FOk q1u g0) (h1 : FOk q0v g1) (h : ∀ ds outs, WfA q16.ars ds → g ds = some outs → q3p.go (tblS [(q1u, g0), (q0v, g1)]) (fun o => o = outs) ds fun _ _ => False) : FOk q16 g :=
  q08 ann_term_Valid Try.f54 _ (.cons h0 (.cons h1 .nil)) rfl rfl enter_term_Valid (by decide) fun ds outs hw hg => by rw [code_term_Valid g0 g1 _ rfl]; exact h ds outs hw hg

def q0p : Ct := ⟨67, [.val (.st 26), .val (.int .i64)], [(.int .i64, false)], [], none⟩
theorem enter_cells_arity (args : Array Value) (w : World) : (callFunc q0p.f args).run Try.prog w = .ok (.enter q0p.f args) w := by kernel_rfl
def ann_cells_arity : Ann := ⟨[0, 1, 2, 4, 13], []⟩
def q39 : Tree := (.br (.or (.lt (.tok 1) (.lit (.i 0))) (.le (.len (.fld (.tok 0) 1)) (.tok 1))) (.leaf [(.lit (.i (-1)))]) (.need [(.le (.lit (.i 0)) (.tok 1)), (.lt (.tok 1) (.len (.fld (.tok 0) 1)))] (.leaf [(.fld (.get (.fld (.tok 0) 1) (.tok 1)) 1)])))
set_option maxRecDepth 100000 in
theorem code_cells_arity : ∀ cd, Try.f67.body = some cd → treeOf Try.prog [] ann_cells_arity q0p Try.f67 cd = q39 := by
  intro cd h
  injection h with h
  subst h
  kernel_rfl
theorem fok_cells_arity {g : List D → Option (List D)}  (h : ∀ ds outs, WfA q0p.ars ds → g ds = some outs → q39.go (tblS []) (fun o => o = outs) ds fun _ _ => False) : FOk q0p g :=
  q08 ann_cells_arity Try.f67 _ .nil rfl rfl enter_cells_arity (by decide) fun ds outs hw hg => by rw [code_cells_arity  _ rfl]; exact h ds outs hw hg

def q0d : Ct := ⟨69, [.val (.st 26), .val (.int .i64)], [(.int .i64, false)], [], none⟩
theorem enter_cells_tag (args : Array Value) (w : World) : (callFunc q0d.f args).run Try.prog w = .ok (.enter q0d.f args) w := by kernel_rfl
def ann_cells_tag : Ann := ⟨[0, 1, 2, 4, 13], []⟩
def q48 : Tree := (.br (.or (.lt (.tok 1) (.lit (.i 0))) (.le (.len (.fld (.tok 0) 0)) (.tok 1))) (.leaf [(.lit (.i (-1)))]) (.need [(.le (.lit (.i 0)) (.tok 1)), (.lt (.tok 1) (.len (.fld (.tok 0) 0)))] (.leaf [(.fld (.get (.fld (.tok 0) 0) (.tok 1)) 0)])))
set_option maxRecDepth 100000 in
theorem code_cells_tag : ∀ cd, Try.f69.body = some cd → treeOf Try.prog [] ann_cells_tag q0d Try.f69 cd = q48 := by
  intro cd h
  injection h with h
  subst h
  kernel_rfl
theorem fok_cells_tag {g : List D → Option (List D)}  (h : ∀ ds outs, WfA q0d.ars ds → g ds = some outs → q48.go (tblS []) (fun o => o = outs) ds fun _ _ => False) : FOk q0d g :=
  q08 ann_cells_tag Try.f69 _ .nil rfl rfl enter_cells_tag (by decide) fun ds outs hw hg => by rw [code_cells_tag  _ rfl]; exact h ds outs hw hg

def q06 : Ct := ⟨38, [.val (.st 26), .val (.st 36)], [(.bool, false)], [], none⟩
theorem enter_cells_ValidCell (args : Array Value) (w : World) : (callFunc q06.f args).run Try.prog w = .ok (.enter q06.f args) w := by kernel_rfl
def q52 : Ann := ⟨[0, 1, 2, 3, 4, 5, 7, 8, 10, 17, 29, 36], []⟩
def q2m : Tree := (.br (.eq (.fld (.tok 1) 0) (.lit (.i 1))) (.leaf [(.lit (.b .true))]) (.br (.eq (.fld (.tok 1) 0) (.lit (.i 2))) (.need [(.ok 0 [(.tok 0), (.fld (.tok 1) 1)])] (.leaf [(.eq (.call 0 0 [(.tok 0), (.fld (.tok 1) 1)]) (.lit (.i 0)))])) (.br (.eq (.fld (.tok 1) 0) (.lit (.i 0))) (.need [(.ok 1 [(.tok 0), (.fld (.tok 1) 1)])] (.leaf [(.and (.le (.lit (.i 0)) (.call 1 0 [(.tok 0), (.fld (.tok 1) 1)])) (.not (.eq (.call 1 0 [(.tok 0), (.fld (.tok 1) 1)]) (.lit (.i 4)))))])) (.br (.eq (.fld (.tok 1) 0) (.lit (.i 3))) (.need [(.ok 1 [(.tok 0), (.fld (.tok 1) 1)])] (.leaf [(.eq (.call 1 0 [(.tok 0), (.fld (.tok 1) 1)]) (.lit (.i 4)))])) (.br (.eq (.fld (.tok 1) 0) (.lit (.i 5))) (.need [(.ok 1 [(.tok 0), (.fld (.tok 1) 1)])] (.leaf [(.eq (.call 1 0 [(.tok 0), (.fld (.tok 1) 1)]) (.lit (.i 5)))])) (.leaf [(.lit (.b .false))]))))))
set_option maxRecDepth 100000 in
theorem code_cells_ValidCell (g0 g1 : List D → Option (List D)) : ∀ cd, Try.f38.body = some cd → treeOf Try.prog [(q0p, g0), (q0d, g1)] q52 q06 Try.f38 cd = q2m := by
  intro cd h
  injection h with h
  subst h
  kernel_rfl
theorem q59 {g0 g1 : List D → Option (List D)} {g : List D → Option (List D)} (h0 : FOk q0p g0) (h1 : FOk q0d g1) (h : ∀ ds outs, WfA q06.ars ds → g ds = some outs → q2m.go (tblS [(q0p, g0), (q0d, g1)]) (fun o => o = outs) ds fun _ _ => False) : FOk q06 g :=
  q08 q52 Try.f38 _ (.cons h0 (.cons h1 .nil)) rfl rfl enter_cells_ValidCell (by decide) fun ds outs hw hg => by rw [code_cells_ValidCell g0 g1 _ rfl]; exact h ds outs hw hg

def q13 : Ct := ⟨55, [.val (.st 26), .val (.row 49)], [(.bool, false)], [], none⟩
theorem enter_cells_validVars (args : Array Value) (w : World) : (callFunc q13.f args).run Try.prog w = .ok (.enter q13.f args) w := by kernel_rfl
def q54 : Ann := ⟨[0, 1, 2, 4, 5, 6, 7, 8, 9, 10, 43], [(2, ⟨[(4, .bool, false), (9, .int .i64, false)], [], [10, 11, 12, 13, 6, 5, 14, 15, 16, 17, 18, 19, 20, 21, 22, 23, 24, 25, 26, 27, 28, 29, 30, 31, 32, 33, 34, 35, 36, 37, 38, 39, 40, 41, 42, 43, 44], []⟩)]⟩
def q2n : Tree := (.loop 2 2 [(.lit (.b .false)), (.lit (.i 0))] (.br (.lt (.tok 3) (.len (.tok 1))) (.need [(.le (.lit (.i 0)) (.tok 3)), (.lt (.tok 3) (.len (.tok 1)))] (.need [(.imp (.not (.or (.or (.lt (.fld (.get (.tok 1) (.tok 3)) 0) (.lit (.i 0))) (.lt (.lit (.i 1099511627776)) (.fld (.get (.tok 1) (.tok 3)) 0))) (.and (.lt (.lit (.i 0)) (.tok 3)) (.le (.fld (.get (.tok 1) (.tok 3)) 0) (.fld (.get (.tok 1) (.sub (.tok 3) (.lit (.i 1)))) 0))))) (.ok 0 [(.tok 0), (.fld (.get (.tok 1) (.tok 3)) 1)])), (.imp (.and (.not (.or (.lt (.fld (.get (.tok 1) (.tok 3)) 0) (.lit (.i 0))) (.lt (.lit (.i 1099511627776)) (.fld (.get (.tok 1) (.tok 3)) 0)))) (.lt (.lit (.i 0)) (.tok 3))) (.le (.lit (.i 0)) (.sub (.tok 3) (.lit (.i 1))))), (.imp (.and (.not (.or (.lt (.fld (.get (.tok 1) (.tok 3)) 0) (.lit (.i 0))) (.lt (.lit (.i 1099511627776)) (.fld (.get (.tok 1) (.tok 3)) 0)))) (.lt (.lit (.i 0)) (.tok 3))) (.lt (.sub (.tok 3) (.lit (.i 1))) (.len (.tok 1)))), (.imp (.and (.not (.or (.lt (.fld (.get (.tok 1) (.tok 3)) 0) (.lit (.i 0))) (.lt (.lit (.i 1099511627776)) (.fld (.get (.tok 1) (.tok 3)) 0)))) (.lt (.lit (.i 0)) (.tok 3))) (.le (.lit (.i 0)) (.sub (.tok 3) (.lit (.i 1))))), (.imp (.and (.not (.or (.lt (.fld (.get (.tok 1) (.tok 3)) 0) (.lit (.i 0))) (.lt (.lit (.i 1099511627776)) (.fld (.get (.tok 1) (.tok 3)) 0)))) (.lt (.lit (.i 0)) (.tok 3))) (.lt (.sub (.tok 3) (.lit (.i 1))) (.len (.tok 1)))), (.imp (.and (.not (.or (.lt (.fld (.get (.tok 1) (.tok 3)) 0) (.lit (.i 0))) (.lt (.lit (.i 1099511627776)) (.fld (.get (.tok 1) (.tok 3)) 0)))) (.lt (.lit (.i 0)) (.tok 3))) (.rng .i64 (.sub (.tok 3) (.lit (.i 1))))), (.imp (.and (.not (.or (.lt (.fld (.get (.tok 1) (.tok 3)) 0) (.lit (.i 0))) (.lt (.lit (.i 1099511627776)) (.fld (.get (.tok 1) (.tok 3)) 0)))) (.lt (.lit (.i 0)) (.tok 3))) (.rng .i64 (.sub (.tok 3) (.lit (.i 1))))), (.imp (.and (.not (.or (.lt (.fld (.get (.tok 1) (.tok 3)) 0) (.lit (.i 0))) (.lt (.lit (.i 1099511627776)) (.fld (.get (.tok 1) (.tok 3)) 0)))) (.lt (.lit (.i 0)) (.tok 3))) (.rng .i64 (.sub (.tok 3) (.lit (.i 1)))))] (.br (.or (.or (.or (.lt (.fld (.get (.tok 1) (.tok 3)) 0) (.lit (.i 0))) (.lt (.lit (.i 1099511627776)) (.fld (.get (.tok 1) (.tok 3)) 0))) (.and (.lt (.lit (.i 0)) (.tok 3)) (.le (.fld (.get (.tok 1) (.tok 3)) 0) (.fld (.get (.tok 1) (.sub (.tok 3) (.lit (.i 1)))) 0)))) (.not (.call 0 0 [(.tok 0), (.fld (.get (.tok 1) (.tok 3)) 1)]))) (.leaf [(.lit (.b .false))]) (.need [(.rng .i64 (.add (.tok 3) (.lit (.i 1))))] (.back 2 [(.tok 2), (.add (.tok 3) (.lit (.i 1)))]))))) (.leaf [(.lit (.b .true))])))
set_option maxRecDepth 100000 in
theorem code_cells_validVars (g0 : List D → Option (List D)) : ∀ cd, Try.f55.body = some cd → treeOf Try.prog [(q06, g0)] q54 q13 Try.f55 cd = q2n := by
  intro cd h
  injection h with h
  subst h
  kernel_rfl
theorem q5b {g0 : List D → Option (List D)} {g : List D → Option (List D)} (h0 : FOk q06 g0) (h : ∀ ds outs, WfA q13.ars ds → g ds = some outs → q2n.go (tblS [(q06, g0)]) (fun o => o = outs) ds fun _ _ => False) : FOk q13 g :=
  q08 q54 Try.f55 _ (.cons h0 .nil) rfl rfl enter_cells_validVars (by decide) fun ds outs hw hg => by rw [code_cells_validVars g0 _ rfl]; exact h ds outs hw hg

def q0g : Ct := ⟨97, [.val (.st 42), .ref (.map 72 4), .cell 34 5, .ref (.int .i64), .cell 116 6], [], [(.cell 2, .rref (.st 26)), (.cell 4, .fn 97 [1, 2, 3, 4])], none⟩
theorem q43 (args : Array Value) (w : World) : (callFunc q0g.f args).run Try.prog w = .ok (.enter q0g.f args) w := by kernel_rfl
def ann_cells_room_1 : Ann := ⟨[0, 1, 2, 3, 4, 5, 6, 8, 16, 32, 37, 45, 46, 47, 48], [(8, ⟨[(47, .int .i64, false)], [1, 3], [48, 49, 50, 8, 51, 52, 53, 54], []⟩)]⟩
def q31 : Tree := (.br (.or (.eq (.fld (.tok 0) 0) (.lit (.i 2))) (.eq (.fld (.tok 0) 0) (.lit (.i 3)))) (.need [(.imp (.not (.fn 0 [(.tok 1), (.mk [(.fld (.tok 0) 2), (.len (.fld (.tok 0) 3))]), (.lit (.b .false))])) (.ok 1 [(.tok 3), (.mk [(.fld (.tok 0) 2), (.len (.fld (.tok 0) 3))])]))] (.br (.and (.not (.fn 0 [(.tok 1), (.mk [(.fld (.tok 0) 2), (.len (.fld (.tok 0) 3))]), (.lit (.b .false))])) (.lt (.call 1 0 [(.tok 3), (.mk [(.fld (.tok 0) 2), (.len (.fld (.tok 0) 3))])]) (.lit (.i 0)))) (.br (.eq (.fld (.tok 0) 0) (.lit (.i 3))) (.need [(.rng .i64 (.add (.len (.fld (.tok 0) 3)) (.lit (.i 1)))), (.rng .i64 (.add (.tok 2) (.add (.len (.fld (.tok 0) 3)) (.lit (.i 1)))))] (.loop 8 4 [(.lit (.i 0)), (.fn 2 [(.tok 1), (.mk [(.fld (.tok 0) 2), (.len (.fld (.tok 0) 3))]), (.lit (.b .true))]), (.add (.tok 2) (.add (.len (.fld (.tok 0) 3)) (.lit (.i 1))))] (.br (.lt (.tok 4) (.len (.fld (.tok 0) 3))) (.need [(.le (.lit (.i 0)) (.tok 4)), (.lt (.tok 4) (.len (.fld (.tok 0) 3)))] (.need [(.ok 0 [(.get (.fld (.tok 0) 3) (.tok 4)), (.tok 5), (.tok 6), (.tok 3)])] (.need [(.rng .i64 (.add (.tok 4) (.lit (.i 1))))] (.back 8 [(.add (.tok 4) (.lit (.i 1))), (.call 0 0 [(.get (.fld (.tok 0) 3) (.tok 4)), (.tok 5), (.tok 6), (.tok 3)]), (.call 0 1 [(.get (.fld (.tok 0) 3) (.tok 4)), (.tok 5), (.tok 6), (.tok 3)])])))) (.leaf [(.tok 5), (.tok 6)])))) (.loop 8 4 [(.lit (.i 0)), (.fn 2 [(.tok 1), (.mk [(.fld (.tok 0) 2), (.len (.fld (.tok 0) 3))]), (.lit (.b .true))]), (.tok 2)] (.br (.lt (.tok 4) (.len (.fld (.tok 0) 3))) (.need [(.le (.lit (.i 0)) (.tok 4)), (.lt (.tok 4) (.len (.fld (.tok 0) 3)))] (.need [(.ok 0 [(.get (.fld (.tok 0) 3) (.tok 4)), (.tok 5), (.tok 6), (.tok 3)])] (.need [(.rng .i64 (.add (.tok 4) (.lit (.i 1))))] (.back 8 [(.add (.tok 4) (.lit (.i 1))), (.call 0 0 [(.get (.fld (.tok 0) 3) (.tok 4)), (.tok 5), (.tok 6), (.tok 3)]), (.call 0 1 [(.get (.fld (.tok 0) 3) (.tok 4)), (.tok 5), (.tok 6), (.tok 3)])])))) (.leaf [(.tok 5), (.tok 6)])))) (.br (.eq (.fld (.tok 0) 0) (.lit (.i 3))) (.need [(.rng .i64 (.add (.len (.fld (.tok 0) 3)) (.lit (.i 1)))), (.rng .i64 (.add (.tok 2) (.add (.len (.fld (.tok 0) 3)) (.lit (.i 1)))))] (.loop 8 4 [(.lit (.i 0)), (.tok 1), (.add (.tok 2) (.add (.len (.fld (.tok 0) 3)) (.lit (.i 1))))] (.br (.lt (.tok 4) (.len (.fld (.tok 0) 3))) (.need [(.le (.lit (.i 0)) (.tok 4)), (.lt (.tok 4) (.len (.fld (.tok 0) 3)))] (.need [(.ok 0 [(.get (.fld (.tok 0) 3) (.tok 4)), (.tok 5), (.tok 6), (.tok 3)])] (.need [(.rng .i64 (.add (.tok 4) (.lit (.i 1))))] (.back 8 [(.add (.tok 4) (.lit (.i 1))), (.call 0 0 [(.get (.fld (.tok 0) 3) (.tok 4)), (.tok 5), (.tok 6), (.tok 3)]), (.call 0 1 [(.get (.fld (.tok 0) 3) (.tok 4)), (.tok 5), (.tok 6), (.tok 3)])])))) (.leaf [(.tok 5), (.tok 6)])))) (.loop 8 4 [(.lit (.i 0)), (.tok 1), (.tok 2)] (.br (.lt (.tok 4) (.len (.fld (.tok 0) 3))) (.need [(.le (.lit (.i 0)) (.tok 4)), (.lt (.tok 4) (.len (.fld (.tok 0) 3)))] (.need [(.ok 0 [(.get (.fld (.tok 0) 3) (.tok 4)), (.tok 5), (.tok 6), (.tok 3)])] (.need [(.rng .i64 (.add (.tok 4) (.lit (.i 1))))] (.back 8 [(.add (.tok 4) (.lit (.i 1))), (.call 0 0 [(.get (.fld (.tok 0) 3) (.tok 4)), (.tok 5), (.tok 6), (.tok 3)]), (.call 0 1 [(.get (.fld (.tok 0) 3) (.tok 4)), (.tok 5), (.tok 6), (.tok 3)])])))) (.leaf [(.tok 5), (.tok 6)])))))) (.br (.eq (.fld (.tok 0) 0) (.lit (.i 3))) (.need [(.rng .i64 (.add (.len (.fld (.tok 0) 3)) (.lit (.i 1)))), (.rng .i64 (.add (.tok 2) (.add (.len (.fld (.tok 0) 3)) (.lit (.i 1)))))] (.loop 8 4 [(.lit (.i 0)), (.tok 1), (.add (.tok 2) (.add (.len (.fld (.tok 0) 3)) (.lit (.i 1))))] (.br (.lt (.tok 4) (.len (.fld (.tok 0) 3))) (.need [(.le (.lit (.i 0)) (.tok 4)), (.lt (.tok 4) (.len (.fld (.tok 0) 3)))] (.need [(.ok 0 [(.get (.fld (.tok 0) 3) (.tok 4)), (.tok 5), (.tok 6), (.tok 3)])] (.need [(.rng .i64 (.add (.tok 4) (.lit (.i 1))))] (.back 8 [(.add (.tok 4) (.lit (.i 1))), (.call 0 0 [(.get (.fld (.tok 0) 3) (.tok 4)), (.tok 5), (.tok 6), (.tok 3)]), (.call 0 1 [(.get (.fld (.tok 0) 3) (.tok 4)), (.tok 5), (.tok 6), (.tok 3)])])))) (.leaf [(.tok 5), (.tok 6)])))) (.loop 8 4 [(.lit (.i 0)), (.tok 1), (.tok 2)] (.br (.lt (.tok 4) (.len (.fld (.tok 0) 3))) (.need [(.le (.lit (.i 0)) (.tok 4)), (.lt (.tok 4) (.len (.fld (.tok 0) 3)))] (.need [(.ok 0 [(.get (.fld (.tok 0) 3) (.tok 4)), (.tok 5), (.tok 6), (.tok 3)])] (.need [(.rng .i64 (.add (.tok 4) (.lit (.i 1))))] (.back 8 [(.add (.tok 4) (.lit (.i 1))), (.call 0 0 [(.get (.fld (.tok 0) 3) (.tok 4)), (.tok 5), (.tok 6), (.tok 3)]), (.call 0 1 [(.get (.fld (.tok 0) 3) (.tok 4)), (.tok 5), (.tok 6), (.tok 3)])])))) (.leaf [(.tok 5), (.tok 6)])))))
set_option maxRecDepth 100000 in
theorem code_cells_room_1 (g0 g1 : List D → Option (List D)) : ∀ cd, Try.f97.body = some cd → treeOf Try.prog [(q0g, g0), (q0o, g1)] ann_cells_room_1 q0g Try.f97 cd = q31 := by
  intro cd h
  injection h with h
  subst h
  kernel_rfl
theorem fok_cells_room_1 {g0 g1 : List D → Option (List D)} {g : List D → Option (List D)} (h0 : FOk q0g g0) (h1 : FOk q0o g1) (h : ∀ ds outs, WfA q0g.ars ds → g ds = some outs → q31.go (tblS [(q0g, g0), (q0o, g1)]) (fun o => o = outs) ds fun _ _ => False) : FOk q0g g :=
  q08 ann_cells_room_1 Try.f97 _ (.cons h0 (.cons h1 .nil)) rfl rfl q43 (by decide) fun ds outs hw hg => by rw [code_cells_room_1 g0 g1 _ rfl]; exact h ds outs hw hg

def q1s : Ct := ⟨56, [.rref (.st 26), .val (.st 42), .val (.row 49)], [(.bool, false)], [], none⟩
theorem enter_cells_room (args : Array Value) (w : World) : (callFunc q1s.f args).run Try.prog w = .ok (.enter q1s.f args) w := by kernel_rfl
def ann_cells_room : Ann := ⟨[0, 1, 2, 3, 4, 6, 7, 9, 10, 11, 14, 23], []⟩
def q3q : Tree := (.br (.eq (.fld (.tok 1) 0) (.lit (.i 0))) (.need [(.ok 1 [(.tok 2), (.fld (.tok 1) 1)])] (.br (.not (.call 1 1 [(.tok 2), (.fld (.tok 1) 1)])) (.need [(.rng .i64 (.lit (.i 1)))] (.need [(.ok 0 [(.tok 1), (.lit (.mp [])), (.lit (.i 1)), (.tok 0)])] (.need [(.imp (.le (.call 0 1 [(.tok 1), (.lit (.mp [])), (.lit (.i 1)), (.tok 0)]) (.sub (.fld (.tok 0) 5) (.len (.fld (.tok 0) 0)))) (.rng .i64 (.fn 3 [(.call 0 0 [(.tok 1), (.lit (.mp [])), (.lit (.i 1)), (.tok 0)])]))), (.imp (.le (.call 0 1 [(.tok 1), (.lit (.mp [])), (.lit (.i 1)), (.tok 0)]) (.sub (.fld (.tok 0) 5) (.len (.fld (.tok 0) 0)))) (.rng .i64 (.fn 3 [(.call 0 0 [(.tok 1), (.lit (.mp [])), (.lit (.i 1)), (.tok 0)])]))), (.imp (.le (.call 0 1 [(.tok 1), (.lit (.mp [])), (.lit (.i 1)), (.tok 0)]) (.sub (.fld (.tok 0) 5) (.len (.fld (.tok 0) 0)))) (.rng .i64 (.sub (.lit (.i 1048576)) (.len (.fld (.tok 0) 1))))), (.imp (.le (.call 0 1 [(.tok 1), (.lit (.mp [])), (.lit (.i 1)), (.tok 0)]) (.sub (.fld (.tok 0) 5) (.len (.fld (.tok 0) 0)))) (.rng .i64 (.fn 3 [(.call 0 0 [(.tok 1), (.lit (.mp [])), (.lit (.i 1)), (.tok 0)])]))), (.imp (.le (.call 0 1 [(.tok 1), (.lit (.mp [])), (.lit (.i 1)), (.tok 0)]) (.sub (.fld (.tok 0) 5) (.len (.fld (.tok 0) 0)))) (.rng .i64 (.fn 3 [(.call 0 0 [(.tok 1), (.lit (.mp [])), (.lit (.i 1)), (.tok 0)])]))), (.rng .i64 (.sub (.fld (.tok 0) 5) (.len (.fld (.tok 0) 0))))] (.leaf [(.and (.le (.call 0 1 [(.tok 1), (.lit (.mp [])), (.lit (.i 1)), (.tok 0)]) (.sub (.fld (.tok 0) 5) (.len (.fld (.tok 0) 0)))) (.le (.fn 3 [(.call 0 0 [(.tok 1), (.lit (.mp [])), (.lit (.i 1)), (.tok 0)])]) (.sub (.lit (.i 1048576)) (.len (.fld (.tok 0) 1)))))])))) (.need [(.ok 0 [(.tok 1), (.lit (.mp [])), (.lit (.i 0)), (.tok 0)])] (.need [(.imp (.le (.call 0 1 [(.tok 1), (.lit (.mp [])), (.lit (.i 0)), (.tok 0)]) (.sub (.fld (.tok 0) 5) (.len (.fld (.tok 0) 0)))) (.rng .i64 (.fn 3 [(.call 0 0 [(.tok 1), (.lit (.mp [])), (.lit (.i 0)), (.tok 0)])]))), (.imp (.le (.call 0 1 [(.tok 1), (.lit (.mp [])), (.lit (.i 0)), (.tok 0)]) (.sub (.fld (.tok 0) 5) (.len (.fld (.tok 0) 0)))) (.rng .i64 (.fn 3 [(.call 0 0 [(.tok 1), (.lit (.mp [])), (.lit (.i 0)), (.tok 0)])]))), (.imp (.le (.call 0 1 [(.tok 1), (.lit (.mp [])), (.lit (.i 0)), (.tok 0)]) (.sub (.fld (.tok 0) 5) (.len (.fld (.tok 0) 0)))) (.rng .i64 (.sub (.lit (.i 1048576)) (.len (.fld (.tok 0) 1))))), (.imp (.le (.call 0 1 [(.tok 1), (.lit (.mp [])), (.lit (.i 0)), (.tok 0)]) (.sub (.fld (.tok 0) 5) (.len (.fld (.tok 0) 0)))) (.rng .i64 (.fn 3 [(.call 0 0 [(.tok 1), (.lit (.mp [])), (.lit (.i 0)), (.tok 0)])]))), (.imp (.le (.call 0 1 [(.tok 1), (.lit (.mp [])), (.lit (.i 0)), (.tok 0)]) (.sub (.fld (.tok 0) 5) (.len (.fld (.tok 0) 0)))) (.rng .i64 (.fn 3 [(.call 0 0 [(.tok 1), (.lit (.mp [])), (.lit (.i 0)), (.tok 0)])]))), (.rng .i64 (.sub (.fld (.tok 0) 5) (.len (.fld (.tok 0) 0))))] (.leaf [(.and (.le (.call 0 1 [(.tok 1), (.lit (.mp [])), (.lit (.i 0)), (.tok 0)]) (.sub (.fld (.tok 0) 5) (.len (.fld (.tok 0) 0)))) (.le (.fn 3 [(.call 0 0 [(.tok 1), (.lit (.mp [])), (.lit (.i 0)), (.tok 0)])]) (.sub (.lit (.i 1048576)) (.len (.fld (.tok 0) 1)))))]))))) (.need [(.ok 0 [(.tok 1), (.lit (.mp [])), (.lit (.i 0)), (.tok 0)])] (.need [(.imp (.le (.call 0 1 [(.tok 1), (.lit (.mp [])), (.lit (.i 0)), (.tok 0)]) (.sub (.fld (.tok 0) 5) (.len (.fld (.tok 0) 0)))) (.rng .i64 (.fn 3 [(.call 0 0 [(.tok 1), (.lit (.mp [])), (.lit (.i 0)), (.tok 0)])]))), (.imp (.le (.call 0 1 [(.tok 1), (.lit (.mp [])), (.lit (.i 0)), (.tok 0)]) (.sub (.fld (.tok 0) 5) (.len (.fld (.tok 0) 0)))) (.rng .i64 (.fn 3 [(.call 0 0 [(.tok 1), (.lit (.mp [])), (.lit (.i 0)), (.tok 0)])]))), (.imp (.le (.call 0 1 [(.tok 1), (.lit (.mp [])), (.lit (.i 0)), (.tok 0)]) (.sub (.fld (.tok 0) 5) (.len (.fld (.tok 0) 0)))) (.rng .i64 (.sub (.lit (.i 1048576)) (.len (.fld (.tok 0) 1))))), (.imp (.le (.call 0 1 [(.tok 1), (.lit (.mp [])), (.lit (.i 0)), (.tok 0)]) (.sub (.fld (.tok 0) 5) (.len (.fld (.tok 0) 0)))) (.rng .i64 (.fn 3 [(.call 0 0 [(.tok 1), (.lit (.mp [])), (.lit (.i 0)), (.tok 0)])]))), (.imp (.le (.call 0 1 [(.tok 1), (.lit (.mp [])), (.lit (.i 0)), (.tok 0)]) (.sub (.fld (.tok 0) 5) (.len (.fld (.tok 0) 0)))) (.rng .i64 (.fn 3 [(.call 0 0 [(.tok 1), (.lit (.mp [])), (.lit (.i 0)), (.tok 0)])]))), (.rng .i64 (.sub (.fld (.tok 0) 5) (.len (.fld (.tok 0) 0))))] (.leaf [(.and (.le (.call 0 1 [(.tok 1), (.lit (.mp [])), (.lit (.i 0)), (.tok 0)]) (.sub (.fld (.tok 0) 5) (.len (.fld (.tok 0) 0)))) (.le (.fn 3 [(.call 0 0 [(.tok 1), (.lit (.mp [])), (.lit (.i 0)), (.tok 0)])]) (.sub (.lit (.i 1048576)) (.len (.fld (.tok 0) 1)))))]))))
set_option maxRecDepth 100000 in
theorem code_cells_room (g0 g1 : List D → Option (List D)) : ∀ cd, Try.f56.body = some cd → treeOf Try.prog [(q0g, g0), (q05, g1)] ann_cells_room q1s Try.f56 cd = q3q := by
  intro cd h
  injection h with h
  subst h
  kernel_rfl
theorem fok_cells_room {g0 g1 : List D → Option (List D)} {g : List D → Option (List D)} (h0 : FOk q0g g0) (h1 : FOk q05 g1) (h : ∀ ds outs, WfA q1s.ars ds → g ds = some outs → q3q.go (tblS [(q0g, g0), (q05, g1)]) (fun o => o = outs) ds fun _ _ => False) : FOk q1s g :=
  q08 ann_cells_room Try.f56 _ (.cons h0 (.cons h1 .nil)) rfl rfl enter_cells_room (by decide) fun ds outs hw hg => by rw [code_cells_room g0 g1 _ rfl]; exact h ds outs hw hg

def q0m : Ct := ⟨57, [.val (.row 49)], [(.row 49, true)], [], none⟩
theorem q5n (args : Array Value) (w : World) : (callFunc q0m.f args).run Try.prog w = .ok (.enter q0m.f args) w := by kernel_rfl
def q40 : Ann := ⟨[0, 2, 4], []⟩
def q2t : Tree := (.amb (.tok 0) .false (.leaf [(.lit (.r []))]) (.need [(.le (.add (.lit (.i 0)) (.len (.tok 0))) (.lit (.i 5864062014634)))] (.leaf [(.app (.row []) (.tok 0))])))
set_option maxRecDepth 100000 in
theorem q5p : ∀ cd, Try.f57.body = some cd → treeOf Try.prog [] q40 q0m Try.f57 cd = q2t := by
  intro cd h
  injection h with h
  subst h
  kernel_rfl
theorem q41 {g : List D → Option (List D)}  (h : ∀ ds outs, WfA q0m.ars ds → g ds = some outs → q2t.go (tblS []) (fun o => o = outs) ds fun _ _ => False) : FOk q0m g :=
  q08 q40 Try.f57 _ .nil rfl rfl q5n (by decide) fun ds outs hw hg => by rw [q5p  _ rfl]; exact h ds outs hw hg

def q1m : Ct := ⟨21, [.ref (.st 26), .val (.st 42), .val (.row 49)], [(.st 36, false), (.row 49, false), (.int .i64, false)], [], none⟩
theorem enter_cells_Put (args : Array Value) (w : World) : (callFunc q1m.f args).run Try.prog w = .ok (.enter q1m.f args) w := by kernel_rfl
def ann_cells_Put : Ann := ⟨[0, 1, 2, 3, 4, 6, 7, 8, 9, 24, 30], []⟩
def q47 : Tree := (.need [(.ok 1 [(.tok 1)]), (.imp (.not (.not (.call 1 0 [(.tok 1)]))) (.ok 2 [(.tok 0), (.tok 2)]))] (.br (.or (.not (.call 1 0 [(.tok 1)])) (.not (.call 2 0 [(.tok 0), (.tok 2)]))) (.leaf [(.lit (.a [(.i 0), (.i 0)])), (.lit (.r [])), (.lit (.i 1)), (.tok 0)]) (.need [(.ok 3 [(.tok 0), (.tok 1), (.tok 2)])] (.br (.not (.call 3 0 [(.tok 0), (.tok 1), (.tok 2)])) (.leaf [(.lit (.a [(.i 0), (.i 0)])), (.lit (.r [])), (.lit (.i 13)), (.tok 0)]) (.need [(.ok 4 [(.tok 2)])] (.need [(.ok 0 [(.tok 1), (.lit (.i (-1))), (.call 4 0 [(.tok 2)]), (.tok 0)])] (.leaf [(.call 0 0 [(.tok 1), (.lit (.i (-1))), (.call 4 0 [(.tok 2)]), (.tok 0)]), (.call 0 1 [(.tok 1), (.lit (.i (-1))), (.call 4 0 [(.tok 2)]), (.tok 0)]), (.lit (.i 0)), (.call 0 2 [(.tok 1), (.lit (.i (-1))), (.call 4 0 [(.tok 2)]), (.tok 0)])])))))))
set_option maxRecDepth 100000 in
theorem code_cells_Put (g0 g1 g2 g3 g4 : List D → Option (List D)) : ∀ cd, Try.f21.body = some cd → treeOf Try.prog [(q0x, g0), (q16, g1), (q13, g2), (q1s, g3), (q0m, g4)] ann_cells_Put q1m Try.f21 cd = q47 := by
  intro cd h
  injection h with h
  subst h
  kernel_rfl
theorem fok_cells_Put {g0 g1 g2 g3 g4 : List D → Option (List D)} {g : List D → Option (List D)} (h0 : FOk q0x g0) (h1 : FOk q16 g1) (h2 : FOk q13 g2) (h3 : FOk q1s g3) (h4 : FOk q0m g4) (h : ∀ ds outs, WfA q1m.ars ds → g ds = some outs → q47.go (tblS [(q0x, g0), (q16, g1), (q13, g2), (q1s, g3), (q0m, g4)]) (fun o => o = outs) ds fun _ _ => False) : FOk q1m g :=
  q08 ann_cells_Put Try.f21 _ (.cons h0 (.cons h1 (.cons h2 (.cons h3 (.cons h4 .nil))))) rfl rfl enter_cells_Put (by decide) fun ds outs hw hg => by rw [code_cells_Put g0 g1 g2 g3 g4 _ rfl]; exact h ds outs hw hg

def q2c : Ct := ⟨44, [.val (.int .i64)], [(.st 36, false)], [], none⟩
theorem enter_law30_str (args : Array Value) (w : World) : (callFunc q2c.f args).run Try.prog w = .ok (.enter q2c.f args) w := by kernel_rfl
def ann_law30_str : Ann := ⟨[0, 2], []⟩
def q5d : Tree := (.leaf [(.mk [(.lit (.i 3)), (.tok 0)])])
set_option maxRecDepth 100000 in
theorem code_law30_str : ∀ cd, Try.f44.body = some cd → treeOf Try.prog [] ann_law30_str q2c Try.f44 cd = q5d := by
  intro cd h
  injection h with h
  subst h
  kernel_rfl
theorem fok_law30_str {g : List D → Option (List D)}  (h : ∀ ds outs, WfA q2c.ars ds → g ds = some outs → q5d.go (tblS []) (fun o => o = outs) ds fun _ _ => False) : FOk q2c g :=
  q08 ann_law30_str Try.f44 _ .nil rfl rfl enter_law30_str (by decide) fun ds outs hw hg => by rw [code_law30_str  _ rfl]; exact h ds outs hw hg

def q2d : Ct := ⟨39, [.val (.int .i64)], [(.st 36, false)], [], none⟩
theorem enter_law30_ref (args : Array Value) (w : World) : (callFunc q2d.f args).run Try.prog w = .ok (.enter q2d.f args) w := by kernel_rfl
def ann_law30_ref : Ann := ⟨[0, 2], []⟩
def q5g : Tree := (.leaf [(.mk [(.lit (.i 0)), (.tok 0)])])
set_option maxRecDepth 100000 in
theorem code_law30_ref : ∀ cd, Try.f39.body = some cd → treeOf Try.prog [] ann_law30_ref q2d Try.f39 cd = q5g := by
  intro cd h
  injection h with h
  subst h
  kernel_rfl
theorem fok_law30_ref {g : List D → Option (List D)}  (h : ∀ ds outs, WfA q2d.ars ds → g ds = some outs → q5g.go (tblS []) (fun o => o = outs) ds fun _ _ => False) : FOk q2d g :=
  q08 ann_law30_ref Try.f39 _ .nil rfl rfl enter_law30_ref (by decide) fun ds outs hw hg => by rw [code_law30_ref  _ rfl]; exact h ds outs hw hg

def q1a : Ct := ⟨23, [.val (.row 49), .val (.row 49)], [(.bool, false)], [], none⟩
theorem enter_law30_vars (args : Array Value) (w : World) : (callFunc q1a.f args).run Try.prog w = .ok (.enter q1a.f args) w := by kernel_rfl
def ann_law30_vars : Ann := ⟨[0, 1, 4, 5, 10, 14, 25], [(4, ⟨[(4, .bool, false), (5, .int .i64, false)], [], [11, 12, 13, 14, 17, 18, 19, 20, 21, 22, 23, 24, 25, 15, 16], []⟩)]⟩
def q3l : Tree := (.br (.not (.eq (.len (.tok 0)) (.len (.tok 1)))) (.leaf [(.lit (.b .false))]) (.loop 4 2 [(.lit (.b .false)), (.lit (.i 0))] (.br (.lt (.tok 3) (.len (.tok 0))) (.need [(.le (.lit (.i 0)) (.tok 3)), (.lt (.tok 3) (.len (.tok 1))), (.le (.lit (.i 0)) (.tok 3)), (.lt (.tok 3) (.len (.tok 0)))] (.br (.not (.eq (.get (.tok 0) (.tok 3)) (.get (.tok 1) (.tok 3)))) (.leaf [(.lit (.b .false))]) (.need [(.rng .i64 (.add (.tok 3) (.lit (.i 1))))] (.back 4 [(.tok 2), (.add (.tok 3) (.lit (.i 1)))])))) (.leaf [(.lit (.b .true))]))))
set_option maxRecDepth 100000 in
theorem code_law30_vars : ∀ cd, Try.f23.body = some cd → treeOf Try.prog [] ann_law30_vars q1a Try.f23 cd = q3l := by
  intro cd h
  injection h with h
  subst h
  kernel_rfl
theorem fok_law30_vars {g : List D → Option (List D)}  (h : ∀ ds outs, WfA q1a.ars ds → g ds = some outs → q3l.go (tblS []) (fun o => o = outs) ds fun _ _ => False) : FOk q1a g :=
  q08 ann_law30_vars Try.f23 _ .nil rfl rfl enter_law30_vars (by decide) fun ds outs hw hg => by rw [code_law30_vars  _ rfl]; exact h ds outs hw hg

def q14 : Ct := ⟨26, [.val (.st 26), .val (.st 36)], [(.st 36, false)], [], none⟩
theorem enter_cells_Deref (args : Array Value) (w : World) : (callFunc q14.f args).run Try.prog w = .ok (.enter q14.f args) w := by kernel_rfl
def ann_cells_Deref : Ann := ⟨[0, 1, 2, 3, 4, 8, 12, 13, 14, 34], [(4, ⟨[(13, .int .i64, false)], [3], [14, 15, 16, 17, 18, 19, 20, 21, 22, 23, 24, 25, 26, 27, 28, 29, 30, 31, 32, 33, 34, 35, 36, 37, 38, 39, 40, 41], []⟩)]⟩
def q38 : Tree := (.need [(.ok 0 [(.tok 0), (.tok 1)])] (.br (.not (.call 0 0 [(.tok 0), (.tok 1)])) (.leaf [(.lit (.a [(.i 0), (.i 0)]))]) (.loop 4 2 [(.lit (.i 0)), (.tok 1)] (.br (.lt (.tok 2) (.len (.fld (.tok 0) 0))) (.need [(.imp (.not (.or (.not (.eq (.fld (.tok 3) 0) (.lit (.i 0)))) (.lt (.call 1 0 [(.tok 0), (.fld (.tok 3) 1)]) (.lit (.i 0))))) (.le (.lit (.i 0)) (.fld (.tok 3) 1))), (.imp (.not (.or (.not (.eq (.fld (.tok 3) 0) (.lit (.i 0)))) (.lt (.call 1 0 [(.tok 0), (.fld (.tok 3) 1)]) (.lit (.i 0))))) (.lt (.fld (.tok 3) 1) (.len (.fld (.tok 0) 0)))), (.imp (.not (.or (.not (.eq (.fld (.tok 3) 0) (.lit (.i 0)))) (.lt (.call 1 0 [(.tok 0), (.fld (.tok 3) 1)]) (.lit (.i 0))))) (.le (.lit (.i 0)) (.fld (.tok 3) 1))), (.imp (.not (.or (.not (.eq (.fld (.tok 3) 0) (.lit (.i 0)))) (.lt (.call 1 0 [(.tok 0), (.fld (.tok 3) 1)]) (.lit (.i 0))))) (.lt (.fld (.tok 3) 1) (.len (.fld (.tok 0) 0)))), (.imp (.not (.not (.eq (.fld (.tok 3) 0) (.lit (.i 0))))) (.ok 1 [(.tok 0), (.fld (.tok 3) 1)]))] (.br (.or (.or (.not (.eq (.fld (.tok 3) 0) (.lit (.i 0)))) (.lt (.call 1 0 [(.tok 0), (.fld (.tok 3) 1)]) (.lit (.i 0)))) (.eq (.get (.fld (.tok 0) 0) (.fld (.tok 3) 1)) (.tok 3))) (.leaf [(.tok 3)]) (.need [(.le (.lit (.i 0)) (.fld (.tok 3) 1)), (.lt (.fld (.tok 3) 1) (.len (.fld (.tok 0) 0)))] (.need [(.rng .i64 (.add (.tok 2) (.lit (.i 1))))] (.back 4 [(.add (.tok 2) (.lit (.i 1))), (.get (.fld (.tok 0) 0) (.fld (.tok 3) 1))]))))) (.leaf [(.tok 3)])))))
set_option maxRecDepth 100000 in
theorem code_cells_Deref (g0 g1 : List D → Option (List D)) : ∀ cd, Try.f26.body = some cd → treeOf Try.prog [(q06, g0), (q0d, g1)] ann_cells_Deref q14 Try.f26 cd = q38 := by
  intro cd h
  injection h with h
  subst h
  kernel_rfl
theorem fok_cells_Deref {g0 g1 : List D → Option (List D)} {g : List D → Option (List D)} (h0 : FOk q06 g0) (h1 : FOk q0d g1) (h : ∀ ds outs, WfA q14.ars ds → g ds = some outs → q38.go (tblS [(q06, g0), (q0d, g1)]) (fun o => o = outs) ds fun _ _ => False) : FOk q14 g :=
  q08 ann_cells_Deref Try.f26 _ (.cons h0 (.cons h1 .nil)) rfl rfl enter_cells_Deref (by decide) fun ds outs hw hg => by rw [code_cells_Deref g0 g1 _ rfl]; exact h ds outs hw hg

def q26 : Ct := ⟨66, [.val (.int .i64)], [(.st 42, false)], [], none⟩
theorem enter_term_Int (args : Array Value) (w : World) : (callFunc q26.f args).run Try.prog w = .ok (.enter q26.f args) w := by kernel_rfl
def ann_term_Int : Ann := ⟨[0, 2], []⟩
def q4k : Tree := (.leaf [(.set (.set (.lit (.a [(.i 0), (.i 0), (.s ⟨#[]⟩), (.r [])])) 0 (.lit (.i 1))) 1 (.tok 0))])
set_option maxRecDepth 100000 in
theorem code_term_Int : ∀ cd, Try.f66.body = some cd → treeOf Try.prog [] ann_term_Int q26 Try.f66 cd = q4k := by
  intro cd h
  injection h with h
  subst h
  kernel_rfl
theorem fok_term_Int {g : List D → Option (List D)}  (h : ∀ ds outs, WfA q26.ars ds → g ds = some outs → q4k.go (tblS []) (fun o => o = outs) ds fun _ _ => False) : FOk q26 g :=
  q08 ann_term_Int Try.f66 _ .nil rfl rfl enter_term_Int (by decide) fun ds outs hw hg => by rw [code_term_Int  _ rfl]; exact h ds outs hw hg

def q1f : Ct := ⟨114, [.val (.st 42)], [(.st 42, false)], [], none⟩
theorem enter_term_Clone_1 (args : Array Value) (w : World) : (callFunc q1f.f args).run Try.prog w = .ok (.enter q1f.f args) w := by kernel_rfl
def ann_term_Clone_1 : Ann := ⟨[0, 1, 2], []⟩
def q30 : Tree := (.leaf [(.tok 0)])
set_option maxRecDepth 100000 in
theorem code_term_Clone_1 : ∀ cd, Try.f114.body = some cd → treeOf Try.prog [] ann_term_Clone_1 q1f Try.f114 cd = q30 := by
  intro cd h
  injection h with h
  subst h
  kernel_rfl
theorem fok_term_Clone_1 {g : List D → Option (List D)}  (h : ∀ ds outs, WfA q1f.ars ds → g ds = some outs → q30.go (tblS []) (fun o => o = outs) ds fun _ _ => False) : FOk q1f g :=
  q08 ann_term_Clone_1 Try.f114 _ .nil rfl rfl enter_term_Clone_1 (by decide) fun ds outs hw hg => by rw [code_term_Clone_1  _ rfl]; exact h ds outs hw hg

def q15 : Ct := ⟨113, [.val (.st 42), .fn 114 []], [(.st 42, false)], [], none⟩
theorem q4n (args : Array Value) (w : World) : (callFunc q15.f args).run Try.prog w = .ok (.enter q15.f args) w := by kernel_rfl
def ann_term_apply : Ann := ⟨[0, 1, 2, 4, 5, 7, 10, 22, 23, 24, 25], [(5, ⟨[(24, .int .i64, false)], [5], [25, 26, 27, 7, 28, 29, 30, 31, 32, 33, 34, 35, 36], []⟩)]⟩
def q3o : Tree := (.br (.eq (.fld (.tok 0) 0) (.lit (.i 0))) (.need [(.ok 0 [(.tok 0)])] (.leaf [(.call 0 0 [(.tok 0)])])) (.loop 5 1 [(.lit (.i 0)), (.set (.set (.set (.lit (.a [(.i 0), (.i 0), (.s ⟨#[]⟩), (.r [])])) 0 (.fld (.tok 0) 0)) 1 (.fld (.tok 0) 1)) 2 (.fld (.tok 0) 2))] (.br (.lt (.tok 1) (.len (.fld (.tok 0) 3))) (.need [(.le (.lit (.i 0)) (.tok 1)), (.lt (.tok 1) (.len (.fld (.tok 0) 3)))] (.need [(.ok 1 [(.get (.fld (.tok 0) 3) (.tok 1))]), (.le (.add (.len (.fld (.tok 2) 3)) (.lit (.i 1))) (.lit (.i 2513169434843)))] (.need [(.rng .i64 (.add (.tok 1) (.lit (.i 1))))] (.back 5 [(.add (.tok 1) (.lit (.i 1))), (.set (.tok 2) 3 (.app (.fld (.tok 2) 3) (.row [(.call 1 0 [(.get (.fld (.tok 0) 3) (.tok 1))])])))])))) (.leaf [(.tok 2)]))))
set_option maxRecDepth 100000 in
theorem code_term_apply (g0 g1 : List D → Option (List D)) : ∀ cd, Try.f113.body = some cd → treeOf Try.prog [(q1f, g0), (q15, g1)] ann_term_apply q15 Try.f113 cd = q3o := by
  intro cd h
  injection h with h
  subst h
  kernel_rfl
theorem fok_term_apply {g0 g1 : List D → Option (List D)} {g : List D → Option (List D)} (h0 : FOk q1f g0) (h1 : FOk q15 g1) (h : ∀ ds outs, WfA q15.ars ds → g ds = some outs → q3o.go (tblS [(q1f, g0), (q15, g1)]) (fun o => o = outs) ds fun _ _ => False) : FOk q15 g :=
  q08 ann_term_apply Try.f113 _ (.cons h0 (.cons h1 .nil)) rfl rfl q4n (by decide) fun ds outs hw hg => by rw [code_term_apply g0 g1 _ rfl]; exact h ds outs hw hg

def q1p : Ct := ⟨105, [.val (.st 42)], [(.st 42, false)], [], none⟩
theorem enter_term_Clone (args : Array Value) (w : World) : (callFunc q1p.f args).run Try.prog w = .ok (.enter q1p.f args) w := by kernel_rfl
def ann_term_Clone : Ann := ⟨[0, 1, 2, 5], []⟩
def q3t : Tree := (.need [(.ok 0 [(.tok 0)])] (.br (.not (.call 0 0 [(.tok 0)])) (.leaf [(.lit (.a [(.i 0), (.i 0), (.s ⟨#[]⟩), (.r [])]))]) (.need [(.ok 1 [(.tok 0)])] (.leaf [(.call 1 0 [(.tok 0)])]))))
set_option maxRecDepth 100000 in
theorem code_term_Clone (g0 g1 : List D → Option (List D)) : ∀ cd, Try.f105.body = some cd → treeOf Try.prog [(q16, g0), (q15, g1)] ann_term_Clone q1p Try.f105 cd = q3t := by
  intro cd h
  injection h with h
  subst h
  kernel_rfl
theorem fok_term_Clone {g0 g1 : List D → Option (List D)} {g : List D → Option (List D)} (h0 : FOk q16 g0) (h1 : FOk q15 g1) (h : ∀ ds outs, WfA q1p.ars ds → g ds = some outs → q3t.go (tblS [(q16, g0), (q15, g1)]) (fun o => o = outs) ds fun _ _ => False) : FOk q1p g :=
  q08 ann_term_Clone Try.f105 _ (.cons h0 (.cons h1 .nil)) rfl rfl enter_term_Clone (by decide) fun ds outs hw hg => by rw [code_term_Clone g0 g1 _ rfl]; exact h ds outs hw hg

def q1v : Ct := ⟨68, [.val (.str)], [(.st 42, false)], [], none⟩
theorem enter_term_Atom (args : Array Value) (w : World) : (callFunc q1v.f args).run Try.prog w = .ok (.enter q1v.f args) w := by kernel_rfl
def ann_term_Atom : Ann := ⟨[0, 2], []⟩
def q46 : Tree := (.need [(.ok 0 [(.set (.set (.lit (.a [(.i 0), (.i 0), (.s ⟨#[]⟩), (.r [])])) 0 (.lit (.i 2))) 2 (.tok 0))])] (.leaf [(.call 0 0 [(.set (.set (.lit (.a [(.i 0), (.i 0), (.s ⟨#[]⟩), (.r [])])) 0 (.lit (.i 2))) 2 (.tok 0))])]))
set_option maxRecDepth 100000 in
theorem code_term_Atom (g0 : List D → Option (List D)) : ∀ cd, Try.f68.body = some cd → treeOf Try.prog [(q1p, g0)] ann_term_Atom q1v Try.f68 cd = q46 := by
  intro cd h
  injection h with h
  subst h
  kernel_rfl
theorem fok_term_Atom {g0 : List D → Option (List D)} {g : List D → Option (List D)} (h0 : FOk q1p g0) (h : ∀ ds outs, WfA q1v.ars ds → g ds = some outs → q46.go (tblS [(q1p, g0)]) (fun o => o = outs) ds fun _ _ => False) : FOk q1v g :=
  q08 ann_term_Atom Try.f68 _ (.cons h0 .nil) rfl rfl enter_term_Atom (by decide) fun ds outs hw hg => by rw [code_term_Atom g0 _ rfl]; exact h ds outs hw hg

def q0y : Ct := ⟨65, [.val (.st 36), .ref (.int .i64), .rref (.st 26), .cell 97 4], [(.st 42, false)], [(.cell 3, .fn 65 [1, 2, 3])], none⟩
theorem q4e (args : Array Value) (w : World) : (callFunc q0y.f args).run Try.prog w = .ok (.enter q0y.f args) w := by kernel_rfl
def ann_cells_Get_1 : Ann := ⟨[0, 1, 2, 3, 4, 5, 6, 7, 8, 12, 17, 24, 43, 99], [(13, ⟨[(8, .int .i64, false)], [1, 7], [83, 84, 85, 86, 87, 88, 89, 90, 91, 92, 93, 94, 95, 96, 97, 98, 99, 102, 103, 104, 105, 106, 107, 108, 109, 110, 111, 112, 113, 100, 101], []⟩)]⟩
def q3a : Tree := (.need [(.rng .i64 (.sub (.tok 1) (.lit (.i 1))))] (.br (.lt (.sub (.tok 1) (.lit (.i 1))) (.lit (.i 0))) (.leaf [(.lit (.a [(.i 0), (.i 0), (.s ⟨#[]⟩), (.r [])])), (.sub (.tok 1) (.lit (.i 1)))]) (.need [(.ok 1 [(.tok 2), (.tok 0)])] (.br (.eq (.fld (.call 1 0 [(.tok 2), (.tok 0)]) 0) (.lit (.i 1))) (.need [(.ok 2 [(.fld (.call 1 0 [(.tok 2), (.tok 0)]) 1)])] (.leaf [(.call 2 0 [(.fld (.call 1 0 [(.tok 2), (.tok 0)]) 1)]), (.sub (.tok 1) (.lit (.i 1)))])) (.need [(.imp (.eq (.fld (.call 1 0 [(.tok 2), (.tok 0)]) 0) (.lit (.i 2))) (.ok 3 [(.tok 2), (.fld (.call 1 0 [(.tok 2), (.tok 0)]) 1)]))] (.br (.and (.eq (.fld (.call 1 0 [(.tok 2), (.tok 0)]) 0) (.lit (.i 2))) (.le (.lit (.i 0)) (.call 3 0 [(.tok 2), (.fld (.call 1 0 [(.tok 2), (.tok 0)]) 1)]))) (.need [(.le (.lit (.i 0)) (.fld (.call 1 0 [(.tok 2), (.tok 0)]) 1)), (.lt (.fld (.call 1 0 [(.tok 2), (.tok 0)]) 1) (.len (.fld (.tok 2) 1))), (.ok 4 [(.fld (.get (.fld (.tok 2) 1) (.fld (.call 1 0 [(.tok 2), (.tok 0)]) 1)) 0)])] (.leaf [(.call 4 0 [(.fld (.get (.fld (.tok 2) 1) (.fld (.call 1 0 [(.tok 2), (.tok 0)]) 1)) 0)]), (.sub (.tok 1) (.lit (.i 1)))])) (.need [(.imp (.and (.eq (.fld (.call 1 0 [(.tok 2), (.tok 0)]) 0) (.lit (.i 3))) (.eq (.call 5 0 [(.tok 2), (.fld (.call 1 0 [(.tok 2), (.tok 0)]) 1)]) (.lit (.i 4)))) (.ok 3 [(.tok 2), (.fld (.get (.fld (.tok 2) 0) (.fld (.call 1 0 [(.tok 2), (.tok 0)]) 1)) 1)])), (.imp (.and (.eq (.fld (.call 1 0 [(.tok 2), (.tok 0)]) 0) (.lit (.i 3))) (.eq (.call 5 0 [(.tok 2), (.fld (.call 1 0 [(.tok 2), (.tok 0)]) 1)]) (.lit (.i 4)))) (.le (.lit (.i 0)) (.fld (.call 1 0 [(.tok 2), (.tok 0)]) 1))), (.imp (.and (.eq (.fld (.call 1 0 [(.tok 2), (.tok 0)]) 0) (.lit (.i 3))) (.eq (.call 5 0 [(.tok 2), (.fld (.call 1 0 [(.tok 2), (.tok 0)]) 1)]) (.lit (.i 4)))) (.lt (.fld (.call 1 0 [(.tok 2), (.tok 0)]) 1) (.len (.fld (.tok 2) 0)))), (.imp (.eq (.fld (.call 1 0 [(.tok 2), (.tok 0)]) 0) (.lit (.i 3))) (.ok 5 [(.tok 2), (.fld (.call 1 0 [(.tok 2), (.tok 0)]) 1)]))] (.br (.and (.and (.eq (.fld (.call 1 0 [(.tok 2), (.tok 0)]) 0) (.lit (.i 3))) (.eq (.call 5 0 [(.tok 2), (.fld (.call 1 0 [(.tok 2), (.tok 0)]) 1)]) (.lit (.i 4)))) (.le (.lit (.i 0)) (.call 3 0 [(.tok 2), (.fld (.get (.fld (.tok 2) 0) (.fld (.call 1 0 [(.tok 2), (.tok 0)]) 1)) 1)]))) (.need [(.le (.lit (.i 0)) (.fld (.get (.fld (.tok 2) 0) (.fld (.call 1 0 [(.tok 2), (.tok 0)]) 1)) 1)), (.lt (.fld (.get (.fld (.tok 2) 0) (.fld (.call 1 0 [(.tok 2), (.tok 0)]) 1)) 1) (.len (.fld (.tok 2) 1))), (.le (.lit (.i 0)) (.fld (.call 1 0 [(.tok 2), (.tok 0)]) 1)), (.lt (.fld (.call 1 0 [(.tok 2), (.tok 0)]) 1) (.len (.fld (.tok 2) 0)))] (.need [(.rng .i64 (.add (.fld (.call 1 0 [(.tok 2), (.tok 0)]) 1) (.lit (.i 1))))] (.loop 13 3 [(.add (.fld (.call 1 0 [(.tok 2), (.tok 0)]) 1) (.lit (.i 1))), (.sub (.tok 1) (.lit (.i 1))), (.set (.set (.lit (.a [(.i 0), (.i 0), (.s ⟨#[]⟩), (.r [])])) 0 (.lit (.i 3))) 2 (.fld (.get (.fld (.tok 2) 1) (.fld (.get (.fld (.tok 2) 0) (.fld (.call 1 0 [(.tok 2), (.tok 0)]) 1)) 1)) 0))] (.need [(.rng .i64 (.add (.fld (.call 1 0 [(.tok 2), (.tok 0)]) 1) (.fld (.get (.fld (.tok 2) 1) (.fld (.get (.fld (.tok 2) 0) (.fld (.call 1 0 [(.tok 2), (.tok 0)]) 1)) 1)) 1))), (.imp (.le (.tok 3) (.add (.fld (.call 1 0 [(.tok 2), (.tok 0)]) 1) (.fld (.get (.fld (.tok 2) 1) (.fld (.get (.fld (.tok 2) 0) (.fld (.call 1 0 [(.tok 2), (.tok 0)]) 1)) 1)) 1))) (.ok 5 [(.tok 2), (.tok 3)]))] (.br (.and (.and (.le (.tok 3) (.add (.fld (.call 1 0 [(.tok 2), (.tok 0)]) 1) (.fld (.get (.fld (.tok 2) 1) (.fld (.get (.fld (.tok 2) 0) (.fld (.call 1 0 [(.tok 2), (.tok 0)]) 1)) 1)) 1))) (.le (.lit (.i 0)) (.call 5 0 [(.tok 2), (.tok 3)]))) (.le (.lit (.i 0)) (.tok 4))) (.need [(.le (.lit (.i 0)) (.tok 3)), (.lt (.tok 3) (.len (.fld (.tok 2) 0))), (.ok 0 [(.get (.fld (.tok 2) 0) (.tok 3)), (.tok 4), (.tok 2)]), (.le (.add (.len (.fld (.tok 5) 3)) (.lit (.i 1))) (.lit (.i 2513169434843)))] (.need [(.rng .i64 (.add (.tok 3) (.lit (.i 1))))] (.back 13 [(.add (.tok 3) (.lit (.i 1))), (.call 0 1 [(.get (.fld (.tok 2) 0) (.tok 3)), (.tok 4), (.tok 2)]), (.set (.tok 5) 3 (.app (.fld (.tok 5) 3) (.row [(.call 0 0 [(.get (.fld (.tok 2) 0) (.tok 3)), (.tok 4), (.tok 2)])])))]))) (.leaf [(.tok 5), (.tok 4)])))))) (.leaf [(.set (.set (.lit (.a [(.i 0), (.i 0), (.s ⟨#[]⟩), (.r [])])) 0 (.lit (.i 0))) 1 (.fld (.call 1 0 [(.tok 2), (.tok 0)]) 1)), (.sub (.tok 1) (.lit (.i 1)))])))))))))
set_option maxRecDepth 100000 in
theorem code_cells_Get_1 (g0 g1 g2 g3 g4 g5 : List D → Option (List D)) : ∀ cd, Try.f65.body = some cd → treeOf Try.prog [(q0y, g0), (q14, g1), (q26, g2), (q0p, g3), (q1v, g4), (q0d, g5)] ann_cells_Get_1 q0y Try.f65 cd = q3a := by
  intro cd h
  injection h with h
  subst h
  kernel_rfl
theorem fok_cells_Get_1 {g0 g1 g2 g3 g4 g5 : List D → Option (List D)} {g : List D → Option (List D)} (h0 : FOk q0y g0) (h1 : FOk q14 g1) (h2 : FOk q26 g2) (h3 : FOk q0p g3) (h4 : FOk q1v g4) (h5 : FOk q0d g5) (h : ∀ ds outs, WfA q0y.ars ds → g ds = some outs → q3a.go (tblS [(q0y, g0), (q14, g1), (q26, g2), (q0p, g3), (q1v, g4), (q0d, g5)]) (fun o => o = outs) ds fun _ _ => False) : FOk q0y g :=
  q08 ann_cells_Get_1 Try.f65 _ (.cons h0 (.cons h1 (.cons h2 (.cons h3 (.cons h4 (.cons h5 .nil)))))) rfl rfl q4e (by decide) fun ds outs hw hg => by rw [code_cells_Get_1 g0 g1 g2 g3 g4 g5 _ rfl]; exact h ds outs hw hg

def q1l : Ct := ⟨24, [.val (.st 26), .val (.st 36)], [(.st 42, false), (.int .i64, false)], [], none⟩
theorem enter_cells_Get (args : Array Value) (w : World) : (callFunc q1l.f args).run Try.prog w = .ok (.enter q1l.f args) w := by kernel_rfl
def ann_cells_Get : Ann := ⟨[0, 1, 2, 3, 4, 5, 6, 7, 11, 18], []⟩
def q4a : Tree := (.need [(.ok 1 [(.tok 0), (.tok 1)])] (.br (.not (.call 1 0 [(.tok 0), (.tok 1)])) (.leaf [(.lit (.a [(.i 0), (.i 0), (.s ⟨#[]⟩), (.r [])])), (.lit (.i 1))]) (.need [(.ok 0 [(.tok 1), (.lit (.i 2000)), (.tok 0)])] (.br (.lt (.call 0 1 [(.tok 1), (.lit (.i 2000)), (.tok 0)]) (.lit (.i 0))) (.leaf [(.lit (.a [(.i 0), (.i 0), (.s ⟨#[]⟩), (.r [])])), (.lit (.i 2))]) (.leaf [(.call 0 0 [(.tok 1), (.lit (.i 2000)), (.tok 0)]), (.lit (.i 0))])))))
set_option maxRecDepth 100000 in
theorem code_cells_Get (g0 g1 : List D → Option (List D)) : ∀ cd, Try.f24.body = some cd → treeOf Try.prog [(q0y, g0), (q06, g1)] ann_cells_Get q1l Try.f24 cd = q4a := by
  intro cd h
  injection h with h
  subst h
  kernel_rfl
theorem fok_cells_Get {g0 g1 : List D → Option (List D)} {g : List D → Option (List D)} (h0 : FOk q0y g0) (h1 : FOk q06 g1) (h : ∀ ds outs, WfA q1l.ars ds → g ds = some outs → q4a.go (tblS [(q0y, g0), (q06, g1)]) (fun o => o = outs) ds fun _ _ => False) : FOk q1l g :=
  q08 ann_cells_Get Try.f24 _ (.cons h0 (.cons h1 .nil)) rfl rfl enter_cells_Get (by decide) fun ds outs hw hg => by rw [code_cells_Get g0 g1 _ rfl]; exact h ds outs hw hg

def q10 : Ct := ⟨74, [.val (.st 42), .val (.int .i64)], [(.int .i64, false)], [], none⟩
theorem q4f (args : Array Value) (w : World) : (callFunc q10.f args).run Try.prog w = .ok (.enter q10.f args) w := by kernel_rfl
def ann_ref03_Count : Ann := ⟨[0, 1, 2, 4, 5, 6, 16], [(3, ⟨[(5, .int .i64, false), (6, .int .i64, false)], [], [7, 8, 9, 10, 11, 12, 13, 14, 15, 16, 19, 20, 21, 22, 23, 24, 25, 26, 27, 28, 29, 17, 18], []⟩)]⟩
def q37 : Tree := (.loop 3 2 [(.lit (.i 1)), (.lit (.i 0))] (.br (.and (.lt (.tok 3) (.len (.fld (.tok 0) 3))) (.lt (.tok 2) (.tok 1))) (.need [(.le (.lit (.i 0)) (.tok 3)), (.lt (.tok 3) (.len (.fld (.tok 0) 3))), (.rng .i64 (.sub (.tok 1) (.tok 2))), (.ok 0 [(.get (.fld (.tok 0) 3) (.tok 3)), (.sub (.tok 1) (.tok 2))]), (.rng .i64 (.add (.tok 2) (.call 0 0 [(.get (.fld (.tok 0) 3) (.tok 3)), (.sub (.tok 1) (.tok 2))])))] (.need [(.rng .i64 (.add (.tok 3) (.lit (.i 1))))] (.back 3 [(.add (.tok 2) (.call 0 0 [(.get (.fld (.tok 0) 3) (.tok 3)), (.sub (.tok 1) (.tok 2))])), (.add (.tok 3) (.lit (.i 1)))]))) (.leaf [(.tok 2)])))
set_option maxRecDepth 100000 in
theorem code_ref03_Count (g0 : List D → Option (List D)) : ∀ cd, Try.f74.body = some cd → treeOf Try.prog [(q10, g0)] ann_ref03_Count q10 Try.f74 cd = q37 := by
  intro cd h
  injection h with h
  subst h
  kernel_rfl
theorem fok_ref03_Count {g0 : List D → Option (List D)} {g : List D → Option (List D)} (h0 : FOk q10 g0) (h : ∀ ds outs, WfA q10.ars ds → g ds = some outs → q37.go (tblS [(q10, g0)]) (fun o => o = outs) ds fun _ _ => False) : FOk q10 g :=
  q08 ann_ref03_Count Try.f74 _ (.cons h0 .nil) rfl rfl q4f (by decide) fun ds outs hw hg => by rw [code_ref03_Count g0 _ rfl]; exact h ds outs hw hg

def q0s : Ct := ⟨30, [.val (.st 42)], [(.int .i64, false)], [], none⟩
theorem enter_ref03_Size (args : Array Value) (w : World) : (callFunc q0s.f args).run Try.prog w = .ok (.enter q0s.f args) w := by kernel_rfl
def ann_ref03_Size : Ann := ⟨[0, 1, 2], []⟩
def q3u : Tree := (.need [(.ok 0 [(.tok 0), (.lit (.i 2001))])] (.leaf [(.call 0 0 [(.tok 0), (.lit (.i 2001))])]))
set_option maxRecDepth 100000 in
theorem code_ref03_Size (g0 : List D → Option (List D)) : ∀ cd, Try.f30.body = some cd → treeOf Try.prog [(q10, g0)] ann_ref03_Size q0s Try.f30 cd = q3u := by
  intro cd h
  injection h with h
  subst h
  kernel_rfl
theorem fok_ref03_Size {g0 : List D → Option (List D)} {g : List D → Option (List D)} (h0 : FOk q10 g0) (h : ∀ ds outs, WfA q0s.ars ds → g ds = some outs → q3u.go (tblS [(q10, g0)]) (fun o => o = outs) ds fun _ _ => False) : FOk q0s g :=
  q08 ann_ref03_Size Try.f30 _ (.cons h0 .nil) rfl rfl enter_ref03_Size (by decide) fun ds outs hw hg => by rw [code_ref03_Size g0 _ rfl]; exact h ds outs hw hg

def q1q : Ct := ⟨106, [.val (.st 42)], [(.bool, false)], [], none⟩
theorem enter_ref03_node (args : Array Value) (w : World) : (callFunc q1q.f args).run Try.prog w = .ok (.enter q1q.f args) w := by kernel_rfl
def ann_ref03_node : Ann := ⟨[0, 1, 2, 4, 5, 26, 37, 54], []⟩
def q3v : Tree := (.br (.eq (.fld (.tok 0) 0) (.lit (.i 0))) (.leaf [(.and (.and (.and (.le (.lit (.i 0)) (.fld (.tok 0) 1)) (.le (.fld (.tok 0) 1) (.lit (.i 1099511627776)))) (.eq (.fld (.tok 0) 2) (.lit (.s ⟨#[]⟩)))) (.eq (.len (.fld (.tok 0) 3)) (.lit (.i 0))))]) (.br (.eq (.fld (.tok 0) 0) (.lit (.i 1))) (.leaf [(.and (.eq (.fld (.tok 0) 2) (.lit (.s ⟨#[]⟩))) (.eq (.len (.fld (.tok 0) 3)) (.lit (.i 0))))]) (.br (.eq (.fld (.tok 0) 0) (.lit (.i 2))) (.leaf [(.and (.and (.eq (.fld (.tok 0) 1) (.lit (.i 0))) (.le (.slen (.fld (.tok 0) 2)) (.lit (.i 100)))) (.eq (.len (.fld (.tok 0) 3)) (.lit (.i 0))))]) (.br (.eq (.fld (.tok 0) 0) (.lit (.i 3))) (.leaf [(.and (.and (.and (.eq (.fld (.tok 0) 1) (.lit (.i 0))) (.le (.slen (.fld (.tok 0) 2)) (.lit (.i 100)))) (.le (.lit (.i 1)) (.len (.fld (.tok 0) 3)))) (.le (.len (.fld (.tok 0) 3)) (.lit (.i 8))))]) (.leaf [(.lit (.b .false))])))))
set_option maxRecDepth 100000 in
theorem code_ref03_node : ∀ cd, Try.f106.body = some cd → treeOf Try.prog [] ann_ref03_node q1q Try.f106 cd = q3v := by
  intro cd h
  injection h with h
  subst h
  kernel_rfl
theorem fok_ref03_node {g : List D → Option (List D)}  (h : ∀ ds outs, WfA q1q.ars ds → g ds = some outs → q3v.go (tblS []) (fun o => o = outs) ds fun _ _ => False) : FOk q1q g :=
  q08 ann_ref03_node Try.f106 _ .nil rfl rfl enter_ref03_node (by decide) fun ds outs hw hg => by rw [code_ref03_node  _ rfl]; exact h ds outs hw hg

def q0z : Ct := ⟨73, [.val (.st 42)], [(.bool, false)], [], none⟩
theorem q4d (args : Array Value) (w : World) : (callFunc q0z.f args).run Try.prog w = .ok (.enter q0z.f args) w := by kernel_rfl
def ann_ref03_nodes : Ann := ⟨[0, 1, 2, 3, 6, 11, 20], [(4, ⟨[(2, .bool, false), (3, .int .i64, false)], [], [7, 8, 9, 10, 11, 14, 15, 16, 17, 18, 19, 20, 12, 13], []⟩)]⟩
def q3g : Tree := (.need [(.ok 0 [(.tok 0)])] (.br (.not (.call 0 0 [(.tok 0)])) (.leaf [(.lit (.b .false))]) (.loop 4 1 [(.lit (.b .false)), (.lit (.i 0))] (.br (.lt (.tok 2) (.len (.fld (.tok 0) 3))) (.need [(.le (.lit (.i 0)) (.tok 2)), (.lt (.tok 2) (.len (.fld (.tok 0) 3))), (.ok 1 [(.get (.fld (.tok 0) 3) (.tok 2))])] (.br (.not (.call 1 0 [(.get (.fld (.tok 0) 3) (.tok 2))])) (.leaf [(.lit (.b .false))]) (.need [(.rng .i64 (.add (.tok 2) (.lit (.i 1))))] (.back 4 [(.tok 1), (.add (.tok 2) (.lit (.i 1)))])))) (.leaf [(.lit (.b .true))])))))
set_option maxRecDepth 100000 in
theorem code_ref03_nodes (g0 g1 : List D → Option (List D)) : ∀ cd, Try.f73.body = some cd → treeOf Try.prog [(q1q, g0), (q0z, g1)] ann_ref03_nodes q0z Try.f73 cd = q3g := by
  intro cd h
  injection h with h
  subst h
  kernel_rfl
theorem fok_ref03_nodes {g0 g1 : List D → Option (List D)} {g : List D → Option (List D)} (h0 : FOk q1q g0) (h1 : FOk q0z g1) (h : ∀ ds outs, WfA q0z.ars ds → g ds = some outs → q3g.go (tblS [(q1q, g0), (q0z, g1)]) (fun o => o = outs) ds fun _ _ => False) : FOk q0z g :=
  q08 ann_ref03_nodes Try.f73 _ (.cons h0 (.cons h1 .nil)) rfl rfl q4d (by decide) fun ds outs hw hg => by rw [code_ref03_nodes g0 g1 _ rfl]; exact h ds outs hw hg

def q0e : Ct := ⟨29, [.val (.st 42)], [(.bool, false)], [], none⟩
theorem enter_ref03_Valid (args : Array Value) (w : World) : (callFunc q0e.f args).run Try.prog w = .ok (.enter q0e.f args) w := by kernel_rfl
def ann_ref03_Valid : Ann := ⟨[0, 1, 2], []⟩
def q3i : Tree := (.need [(.ok 0 [(.tok 0)]), (.imp (.le (.call 0 0 [(.tok 0)]) (.lit (.i 2000))) (.ok 1 [(.tok 0)]))] (.leaf [(.and (.le (.call 0 0 [(.tok 0)]) (.lit (.i 2000))) (.call 1 0 [(.tok 0)]))]))
set_option maxRecDepth 100000 in
theorem code_ref03_Valid (g0 g1 : List D → Option (List D)) : ∀ cd, Try.f29.body = some cd → treeOf Try.prog [(q0s, g0), (q0z, g1)] ann_ref03_Valid q0e Try.f29 cd = q3i := by
  intro cd h
  injection h with h
  subst h
  kernel_rfl
theorem fok_ref03_Valid {g0 g1 : List D → Option (List D)} {g : List D → Option (List D)} (h0 : FOk q0s g0) (h1 : FOk q0z g1) (h : ∀ ds outs, WfA q0e.ars ds → g ds = some outs → q3i.go (tblS [(q0s, g0), (q0z, g1)]) (fun o => o = outs) ds fun _ _ => False) : FOk q0e g :=
  q08 ann_ref03_Valid Try.f29 _ (.cons h0 (.cons h1 .nil)) rfl rfl enter_ref03_Valid (by decide) fun ds outs hw hg => by rw [code_ref03_Valid g0 g1 _ rfl]; exact h ds outs hw hg

def q0j : Ct := ⟨72, [.val (.st 42), .val (.st 42)], [(.bool, false)], [], none⟩
theorem q34 (args : Array Value) (w : World) : (callFunc q0j.f args).run Try.prog w = .ok (.enter q0j.f args) w := by kernel_rfl
def q57 : Ann := ⟨[0, 1, 2, 3, 4, 5, 33, 38, 52], [(4, ⟨[(4, .bool, false), (5, .int .i64, false)], [], [34, 35, 36, 37, 38, 41, 42, 43, 44, 45, 46, 47, 48, 49, 50, 51, 52, 39, 40], []⟩)]⟩
def q2q : Tree := (.br (.or (.or (.or (.not (.eq (.fld (.tok 0) 0) (.fld (.tok 1) 0))) (.not (.eq (.fld (.tok 0) 1) (.fld (.tok 1) 1)))) (.not (.eq (.fld (.tok 0) 2) (.fld (.tok 1) 2)))) (.not (.eq (.len (.fld (.tok 0) 3)) (.len (.fld (.tok 1) 3))))) (.leaf [(.lit (.b .false))]) (.loop 4 2 [(.lit (.b .false)), (.lit (.i 0))] (.br (.lt (.tok 3) (.len (.fld (.tok 0) 3))) (.need [(.ok 0 [(.get (.fld (.tok 0) 3) (.tok 3)), (.get (.fld (.tok 1) 3) (.tok 3))]), (.le (.lit (.i 0)) (.tok 3)), (.lt (.tok 3) (.len (.fld (.tok 1) 3))), (.le (.lit (.i 0)) (.tok 3)), (.lt (.tok 3) (.len (.fld (.tok 0) 3)))] (.br (.not (.call 0 0 [(.get (.fld (.tok 0) 3) (.tok 3)), (.get (.fld (.tok 1) 3) (.tok 3))])) (.leaf [(.lit (.b .false))]) (.need [(.rng .i64 (.add (.tok 3) (.lit (.i 1))))] (.back 4 [(.tok 2), (.add (.tok 3) (.lit (.i 1)))])))) (.leaf [(.lit (.b .true))]))))
set_option maxRecDepth 100000 in
theorem code_ref03_identical (g0 : List D → Option (List D)) : ∀ cd, Try.f72.body = some cd → treeOf Try.prog [(q0j, g0)] q57 q0j Try.f72 cd = q2q := by
  intro cd h
  injection h with h
  subst h
  kernel_rfl
theorem q5a {g0 : List D → Option (List D)} {g : List D → Option (List D)} (h0 : FOk q0j g0) (h : ∀ ds outs, WfA q0j.ars ds → g ds = some outs → q2q.go (tblS [(q0j, g0)]) (fun o => o = outs) ds fun _ _ => False) : FOk q0j g :=
  q08 q57 Try.f72 _ (.cons h0 .nil) rfl rfl q34 (by decide) fun ds outs hw hg => by rw [code_ref03_identical g0 _ rfl]; exact h ds outs hw hg

def q1d : Ct := ⟨28, [.val (.st 42), .val (.st 42)], [(.bool, false)], [], none⟩
theorem enter_ref03_Same (args : Array Value) (w : World) : (callFunc q1d.f args).run Try.prog w = .ok (.enter q1d.f args) w := by kernel_rfl
def ann_ref03_Same : Ann := ⟨[0, 1, 2, 3, 4], []⟩
def q3r : Tree := (.need [(.ok 0 [(.tok 0)]), (.imp (.call 0 0 [(.tok 0)]) (.ok 0 [(.tok 1)])), (.imp (.and (.call 0 0 [(.tok 0)]) (.call 0 0 [(.tok 1)])) (.ok 1 [(.tok 0), (.tok 1)]))] (.leaf [(.and (.and (.call 0 0 [(.tok 0)]) (.call 0 0 [(.tok 1)])) (.call 1 0 [(.tok 0), (.tok 1)]))]))
set_option maxRecDepth 100000 in
theorem code_ref03_Same (g0 g1 : List D → Option (List D)) : ∀ cd, Try.f28.body = some cd → treeOf Try.prog [(q0e, g0), (q0j, g1)] ann_ref03_Same q1d Try.f28 cd = q3r := by
  intro cd h
  injection h with h
  subst h
  kernel_rfl
theorem fok_ref03_Same {g0 g1 : List D → Option (List D)} {g : List D → Option (List D)} (h0 : FOk q0e g0) (h1 : FOk q0j g1) (h : ∀ ds outs, WfA q1d.ars ds → g ds = some outs → q3r.go (tblS [(q0e, g0), (q0j, g1)]) (fun o => o = outs) ds fun _ _ => False) : FOk q1d g :=
  q08 ann_ref03_Same Try.f28 _ (.cons h0 (.cons h1 .nil)) rfl rfl enter_ref03_Same (by decide) fun ds outs hw hg => by rw [code_ref03_Same g0 g1 _ rfl]; exact h ds outs hw hg

def q20 : Ct := ⟨14, [], [(.bool, false)], [], none⟩
theorem enter_law30_awake (args : Array Value) (w : World) : (callFunc q20.f args).run Try.prog w = .ok (.enter q20.f args) w := by kernel_rfl
def ann_law30_awake : Ann := ⟨[0, 1, 2, 3, 4, 5, 6, 7, 8, 9, 10, 11, 57, 59, 75], [(6, ⟨[(0, .bool, false), (6, .int .i64, false)], [], [58, 59, 62, 63, 64, 65, 66, 67, 68, 69, 70, 71, 72, 73, 74, 75, 60, 61], []⟩)]⟩
def tree_law30_awake : Tree := (.need [(.ok 0 [(.lit (.i 10))])] (.need [(.ok 1 [(.lit (.i 0))]), (.ok 2 [(.lit (.s ⟨#[103]⟩)), (.row [(.call 1 0 [(.lit (.i 0))])])]), (.ok 1 [(.lit (.i 0))]), (.ok 2 [(.lit (.s ⟨#[102]⟩)), (.row [(.call 2 0 [(.lit (.s ⟨#[103]⟩)), (.row [(.call 1 0 [(.lit (.i 0))])])]), (.call 1 0 [(.lit (.i 0))])])]), (.ok 3 [(.call 0 0 [(.lit (.i 10))]), (.call 2 0 [(.lit (.s ⟨#[102]⟩)), (.row [(.call 2 0 [(.lit (.s ⟨#[103]⟩)), (.row [(.call 1 0 [(.lit (.i 0))])])]), (.call 1 0 [(.lit (.i 0))])])]), (.lit (.r []))])] (.need [(.imp (.not (.or (.or (.not (.eq (.call 0 1 [(.lit (.i 10))]) (.lit (.i 0)))) (.not (.eq (.call 3 2 [(.call 0 0 [(.lit (.i 10))]), (.call 2 0 [(.lit (.s ⟨#[102]⟩)), (.row [(.call 2 0 [(.lit (.s ⟨#[103]⟩)), (.row [(.call 1 0 [(.lit (.i 0))])])]), (.call 1 0 [(.lit (.i 0))])])]), (.lit (.r []))]) (.lit (.i 0))))) (.not (.eq (.call 3 0 [(.call 0 0 [(.lit (.i 10))]), (.call 2 0 [(.lit (.s ⟨#[102]⟩)), (.row [(.call 2 0 [(.lit (.s ⟨#[103]⟩)), (.row [(.call 1 0 [(.lit (.i 0))])])]), (.call 1 0 [(.lit (.i 0))])])]), (.lit (.r []))]) (.call 4 0 [(.lit (.i 0))]))))) (.ok 6 [(.call 3 1 [(.call 0 0 [(.lit (.i 10))]), (.call 2 0 [(.lit (.s ⟨#[102]⟩)), (.row [(.call 2 0 [(.lit (.s ⟨#[103]⟩)), (.row [(.call 1 0 [(.lit (.i 0))])])]), (.call 1 0 [(.lit (.i 0))])])]), (.lit (.r []))]), (.row [(.mk [(.lit (.i 0)), (.call 5 0 [(.lit (.i 4))])])])])), (.imp (.not (.or (.or (.not (.eq (.call 0 1 [(.lit (.i 10))]) (.lit (.i 0)))) (.not (.eq (.call 3 2 [(.call 0 0 [(.lit (.i 10))]), (.call 2 0 [(.lit (.s ⟨#[102]⟩)), (.row [(.call 2 0 [(.lit (.s ⟨#[103]⟩)), (.row [(.call 1 0 [(.lit (.i 0))])])]), (.call 1 0 [(.lit (.i 0))])])]), (.lit (.r []))]) (.lit (.i 0))))) (.not (.eq (.call 3 0 [(.call 0 0 [(.lit (.i 10))]), (.call 2 0 [(.lit (.s ⟨#[102]⟩)), (.row [(.call 2 0 [(.lit (.s ⟨#[103]⟩)), (.row [(.call 1 0 [(.lit (.i 0))])])]), (.call 1 0 [(.lit (.i 0))])])]), (.lit (.r []))]) (.call 4 0 [(.lit (.i 0))]))))) (.ok 5 [(.lit (.i 4))])), (.imp (.not (.or (.not (.eq (.call 0 1 [(.lit (.i 10))]) (.lit (.i 0)))) (.not (.eq (.call 3 2 [(.call 0 0 [(.lit (.i 10))]), (.call 2 0 [(.lit (.s ⟨#[102]⟩)), (.row [(.call 2 0 [(.lit (.s ⟨#[103]⟩)), (.row [(.call 1 0 [(.lit (.i 0))])])]), (.call 1 0 [(.lit (.i 0))])])]), (.lit (.r []))]) (.lit (.i 0)))))) (.ok 4 [(.lit (.i 0))]))] (.br (.or (.or (.or (.or (.or (.not (.eq (.call 0 1 [(.lit (.i 10))]) (.lit (.i 0)))) (.not (.eq (.call 3 2 [(.call 0 0 [(.lit (.i 10))]), (.call 2 0 [(.lit (.s ⟨#[102]⟩)), (.row [(.call 2 0 [(.lit (.s ⟨#[103]⟩)), (.row [(.call 1 0 [(.lit (.i 0))])])]), (.call 1 0 [(.lit (.i 0))])])]), (.lit (.r []))]) (.lit (.i 0))))) (.not (.eq (.call 3 0 [(.call 0 0 [(.lit (.i 10))]), (.call 2 0 [(.lit (.s ⟨#[102]⟩)), (.row [(.call 2 0 [(.lit (.s ⟨#[103]⟩)), (.row [(.call 1 0 [(.lit (.i 0))])])]), (.call 1 0 [(.lit (.i 0))])])]), (.lit (.r []))]) (.call 4 0 [(.lit (.i 0))])))) (.not (.call 6 0 [(.call 3 1 [(.call 0 0 [(.lit (.i 10))]), (.call 2 0 [(.lit (.s ⟨#[102]⟩)), (.row [(.call 2 0 [(.lit (.s ⟨#[103]⟩)), (.row [(.call 1 0 [(.lit (.i 0))])])]), (.call 1 0 [(.lit (.i 0))])])]), (.lit (.r []))]), (.row [(.mk [(.lit (.i 0)), (.call 5 0 [(.lit (.i 4))])])])]))) (.not (.eq (.len (.fld (.call 3 3 [(.call 0 0 [(.lit (.i 10))]), (.call 2 0 [(.lit (.s ⟨#[102]⟩)), (.row [(.call 2 0 [(.lit (.s ⟨#[103]⟩)), (.row [(.call 1 0 [(.lit (.i 0))])])]), (.call 1 0 [(.lit (.i 0))])])]), (.lit (.r []))]) 0)) (.lit (.i 5))))) (.not (.eq (.len (.fld (.call 3 3 [(.call 0 0 [(.lit (.i 10))]), (.call 2 0 [(.lit (.s ⟨#[102]⟩)), (.row [(.call 2 0 [(.lit (.s ⟨#[103]⟩)), (.row [(.call 1 0 [(.lit (.i 0))])])]), (.call 1 0 [(.lit (.i 0))])])]), (.lit (.r []))]) 1)) (.lit (.i 2))))) (.leaf [(.lit (.b .false))]) (.loop 6 0 [(.lit (.b .false)), (.lit (.i 0))] (.br (.lt (.tok 1) (.lit (.i 5))) (.need [(.le (.lit (.i 0)) (.tok 1)), (.lt (.tok 1) (.lit (.i 5))), (.ok 5 [(.lit (.i 4))]), (.ok 5 [(.lit (.i 4))]), (.ok 5 [(.lit (.i 4))]), (.ok 4 [(.lit (.i 3))]), (.ok 4 [(.lit (.i 3))]), (.le (.lit (.i 0)) (.tok 1)), (.lt (.tok 1) (.len (.fld (.call 3 3 [(.call 0 0 [(.lit (.i 10))]), (.call 2 0 [(.lit (.s ⟨#[102]⟩)), (.row [(.call 2 0 [(.lit (.s ⟨#[103]⟩)), (.row [(.call 1 0 [(.lit (.i 0))])])]), (.call 1 0 [(.lit (.i 0))])])]), (.lit (.r []))]) 0)))] (.br (.not (.eq (.get (.fld (.call 3 3 [(.call 0 0 [(.lit (.i 10))]), (.call 2 0 [(.lit (.s ⟨#[102]⟩)), (.row [(.call 2 0 [(.lit (.s ⟨#[103]⟩)), (.row [(.call 1 0 [(.lit (.i 0))])])]), (.call 1 0 [(.lit (.i 0))])])]), (.lit (.r []))]) 0) (.tok 1)) (.get (.row [(.mk [(.lit (.i 4)), (.lit (.i 0))]), (.call 4 0 [(.lit (.i 3))]), (.call 5 0 [(.lit (.i 4))]), (.mk [(.lit (.i 4)), (.lit (.i 1))]), (.call 5 0 [(.lit (.i 4))])]) (.tok 1)))) (.leaf [(.lit (.b .false))]) (.need [(.rng .i64 (.add (.tok 1) (.lit (.i 1))))] (.back 6 [(.tok 0), (.add (.tok 1) (.lit (.i 1)))])))) (.need [(.ok 1 [(.lit (.i 1))]), (.ok 3 [(.call 3 3 [(.call 0 0 [(.lit (.i 10))]), (.call 2 0 [(.lit (.s ⟨#[102]⟩)), (.row [(.call 2 0 [(.lit (.s ⟨#[103]⟩)), (.row [(.call 1 0 [(.lit (.i 0))])])]), (.call 1 0 [(.lit (.i 0))])])]), (.lit (.r []))]), (.call 1 0 [(.lit (.i 1))]), (.call 3 1 [(.call 0 0 [(.lit (.i 10))]), (.call 2 0 [(.lit (.s ⟨#[102]⟩)), (.row [(.call 2 0 [(.lit (.s ⟨#[103]⟩)), (.row [(.call 1 0 [(.lit (.i 0))])])]), (.call 1 0 [(.lit (.i 0))])])]), (.lit (.r []))])])] (.need [(.ok 7 [(.call 3 3 [(.call 3 3 [(.call 0 0 [(.lit (.i 10))]), (.call 2 0 [(.lit (.s ⟨#[102]⟩)), (.row [(.call 2 0 [(.lit (.s ⟨#[103]⟩)), (.row [(.call 1 0 [(.lit (.i 0))])])]), (.call 1 0 [(.lit (.i 0))])])]), (.lit (.r []))]), (.call 1 0 [(.lit (.i 1))]), (.call 3 1 [(.call 0 0 [(.lit (.i 10))]), (.call 2 0 [(.lit (.s ⟨#[102]⟩)), (.row [(.call 2 0 [(.lit (.s ⟨#[103]⟩)), (.row [(.call 1 0 [(.lit (.i 0))])])]), (.call 1 0 [(.lit (.i 0))])])]), (.lit (.r []))])]), (.call 4 0 [(.lit (.i 0))])]), (.ok 4 [(.lit (.i 0))]), (.ok 4 [(.lit (.i 0))])] (.need [(.imp (.and (.and (.and (.and (.and (.and (.eq (.call 3 2 [(.call 3 3 [(.call 0 0 [(.lit (.i 10))]), (.call 2 0 [(.lit (.s ⟨#[102]⟩)), (.row [(.call 2 0 [(.lit (.s ⟨#[103]⟩)), (.row [(.call 1 0 [(.lit (.i 0))])])]), (.call 1 0 [(.lit (.i 0))])])]), (.lit (.r []))]), (.call 1 0 [(.lit (.i 1))]), (.call 3 1 [(.call 0 0 [(.lit (.i 10))]), (.call 2 0 [(.lit (.s ⟨#[102]⟩)), (.row [(.call 2 0 [(.lit (.s ⟨#[103]⟩)), (.row [(.call 1 0 [(.lit (.i 0))])])]), (.call 1 0 [(.lit (.i 0))])])]), (.lit (.r []))])]) (.lit (.i 0))) (.eq (.call 3 0 [(.call 3 3 [(.call 0 0 [(.lit (.i 10))]), (.call 2 0 [(.lit (.s ⟨#[102]⟩)), (.row [(.call 2 0 [(.lit (.s ⟨#[103]⟩)), (.row [(.call 1 0 [(.lit (.i 0))])])]), (.call 1 0 [(.lit (.i 0))])])]), (.lit (.r []))]), (.call 1 0 [(.lit (.i 1))]), (.call 3 1 [(.call 0 0 [(.lit (.i 10))]), (.call 2 0 [(.lit (.s ⟨#[102]⟩)), (.row [(.call 2 0 [(.lit (.s ⟨#[103]⟩)), (.row [(.call 1 0 [(.lit (.i 0))])])]), (.call 1 0 [(.lit (.i 0))])])]), (.lit (.r []))])]) (.call 5 0 [(.lit (.i 5))]))) (.call 6 0 [(.call 3 1 [(.call 3 3 [(.call 0 0 [(.lit (.i 10))]), (.call 2 0 [(.lit (.s ⟨#[102]⟩)), (.row [(.call 2 0 [(.lit (.s ⟨#[103]⟩)), (.row [(.call 1 0 [(.lit (.i 0))])])]), (.call 1 0 [(.lit (.i 0))])])]), (.lit (.r []))]), (.call 1 0 [(.lit (.i 1))]), (.call 3 1 [(.call 0 0 [(.lit (.i 10))]), (.call 2 0 [(.lit (.s ⟨#[102]⟩)), (.row [(.call 2 0 [(.lit (.s ⟨#[103]⟩)), (.row [(.call 1 0 [(.lit (.i 0))])])]), (.call 1 0 [(.lit (.i 0))])])]), (.lit (.r []))])]), (.row [(.mk [(.lit (.i 0)), (.call 5 0 [(.lit (.i 4))])]), (.mk [(.lit (.i 1)), (.call 5 0 [(.lit (.i 5))])])])])) (.eq (.call 7 1 [(.call 3 3 [(.call 3 3 [(.call 0 0 [(.lit (.i 10))]), (.call 2 0 [(.lit (.s ⟨#[102]⟩)), (.row [(.call 2 0 [(.lit (.s ⟨#[103]⟩)), (.row [(.call 1 0 [(.lit (.i 0))])])]), (.call 1 0 [(.lit (.i 0))])])]), (.lit (.r []))]), (.call 1 0 [(.lit (.i 1))]), (.call 3 1 [(.call 0 0 [(.lit (.i 10))]), (.call 2 0 [(.lit (.s ⟨#[102]⟩)), (.row [(.call 2 0 [(.lit (.s ⟨#[103]⟩)), (.row [(.call 1 0 [(.lit (.i 0))])])]), (.call 1 0 [(.lit (.i 0))])])]), (.lit (.r []))])]), (.call 4 0 [(.lit (.i 0))])]) (.lit (.i 0)))) (.call 8 0 [(.call 7 0 [(.call 3 3 [(.call 3 3 [(.call 0 0 [(.lit (.i 10))]), (.call 2 0 [(.lit (.s ⟨#[102]⟩)), (.row [(.call 2 0 [(.lit (.s ⟨#[103]⟩)), (.row [(.call 1 0 [(.lit (.i 0))])])]), (.call 1 0 [(.lit (.i 0))])])]), (.lit (.r []))]), (.call 1 0 [(.lit (.i 1))]), (.call 3 1 [(.call 0 0 [(.lit (.i 10))]), (.call 2 0 [(.lit (.s ⟨#[102]⟩)), (.row [(.call 2 0 [(.lit (.s ⟨#[103]⟩)), (.row [(.call 1 0 [(.lit (.i 0))])])]), (.call 1 0 [(.lit (.i 0))])])]), (.lit (.r []))])]), (.call 4 0 [(.lit (.i 0))])]), (.call 2 0 [(.lit (.s ⟨#[102]⟩)), (.row [(.call 2 0 [(.lit (.s ⟨#[103]⟩)), (.row [(.call 1 0 [(.lit (.i 4))])])]), (.call 1 0 [(.lit (.i 4))])])])])) (.eq (.call 9 0 [(.call 3 3 [(.call 3 3 [(.call 0 0 [(.lit (.i 10))]), (.call 2 0 [(.lit (.s ⟨#[102]⟩)), (.row [(.call 2 0 [(.lit (.s ⟨#[103]⟩)), (.row [(.call 1 0 [(.lit (.i 0))])])]), (.call 1 0 [(.lit (.i 0))])])]), (.lit (.r []))]), (.call 1 0 [(.lit (.i 1))]), (.call 3 1 [(.call 0 0 [(.lit (.i 10))]), (.call 2 0 [(.lit (.s ⟨#[102]⟩)), (.row [(.call 2 0 [(.lit (.s ⟨#[103]⟩)), (.row [(.call 1 0 [(.lit (.i 0))])])]), (.call 1 0 [(.lit (.i 0))])])]), (.lit (.r []))])]), (.call 5 0 [(.lit (.i 2))])]) (.call 5 0 [(.lit (.i 4))]))) (.eq (.call 9 0 [(.call 3 3 [(.call 3 3 [(.call 0 0 [(.lit (.i 10))]), (.call 2 0 [(.lit (.s ⟨#[102]⟩)), (.row [(.call 2 0 [(.lit (.s ⟨#[103]⟩)), (.row [(.call 1 0 [(.lit (.i 0))])])]), (.call 1 0 [(.lit (.i 0))])])]), (.lit (.r []))]), (.call 1 0 [(.lit (.i 1))]), (.call 3 1 [(.call 0 0 [(.lit (.i 10))]), (.call 2 0 [(.lit (.s ⟨#[102]⟩)), (.row [(.call 2 0 [(.lit (.s ⟨#[103]⟩)), (.row [(.call 1 0 [(.lit (.i 0))])])]), (.call 1 0 [(.lit (.i 0))])])]), (.lit (.r []))])]), (.call 5 0 [(.lit (.i 1))])]) (.call 4 0 [(.lit (.i 3))]))) (.lit (.b .true))), (.imp (.and (.and (.and (.and (.and (.and (.eq (.call 3 2 [(.call 3 3 [(.call 0 0 [(.lit (.i 10))]), (.call 2 0 [(.lit (.s ⟨#[102]⟩)), (.row [(.call 2 0 [(.lit (.s ⟨#[103]⟩)), (.row [(.call 1 0 [(.lit (.i 0))])])]), (.call 1 0 [(.lit (.i 0))])])]), (.lit (.r []))]), (.call 1 0 [(.lit (.i 1))]), (.call 3 1 [(.call 0 0 [(.lit (.i 10))]), (.call 2 0 [(.lit (.s ⟨#[102]⟩)), (.row [(.call 2 0 [(.lit (.s ⟨#[103]⟩)), (.row [(.call 1 0 [(.lit (.i 0))])])]), (.call 1 0 [(.lit (.i 0))])])]), (.lit (.r []))])]) (.lit (.i 0))) (.eq (.call 3 0 [(.call 3 3 [(.call 0 0 [(.lit (.i 10))]), (.call 2 0 [(.lit (.s ⟨#[102]⟩)), (.row [(.call 2 0 [(.lit (.s ⟨#[103]⟩)), (.row [(.call 1 0 [(.lit (.i 0))])])]), (.call 1 0 [(.lit (.i 0))])])]), (.lit (.r []))]), (.call 1 0 [(.lit (.i 1))]), (.call 3 1 [(.call 0 0 [(.lit (.i 10))]), (.call 2 0 [(.lit (.s ⟨#[102]⟩)), (.row [(.call 2 0 [(.lit (.s ⟨#[103]⟩)), (.row [(.call 1 0 [(.lit (.i 0))])])]), (.call 1 0 [(.lit (.i 0))])])]), (.lit (.r []))])]) (.call 5 0 [(.lit (.i 5))]))) (.call 6 0 [(.call 3 1 [(.call 3 3 [(.call 0 0 [(.lit (.i 10))]), (.call 2 0 [(.lit (.s ⟨#[102]⟩)), (.row [(.call 2 0 [(.lit (.s ⟨#[103]⟩)), (.row [(.call 1 0 [(.lit (.i 0))])])]), (.call 1 0 [(.lit (.i 0))])])]), (.lit (.r []))]), (.call 1 0 [(.lit (.i 1))]), (.call 3 1 [(.call 0 0 [(.lit (.i 10))]), (.call 2 0 [(.lit (.s ⟨#[102]⟩)), (.row [(.call 2 0 [(.lit (.s ⟨#[103]⟩)), (.row [(.call 1 0 [(.lit (.i 0))])])]), (.call 1 0 [(.lit (.i 0))])])]), (.lit (.r []))])]), (.row [(.mk [(.lit (.i 0)), (.call 5 0 [(.lit (.i 4))])]), (.mk [(.lit (.i 1)), (.call 5 0 [(.lit (.i 5))])])])])) (.eq (.call 7 1 [(.call 3 3 [(.call 3 3 [(.call 0 0 [(.lit (.i 10))]), (.call 2 0 [(.lit (.s ⟨#[102]⟩)), (.row [(.call 2 0 [(.lit (.s ⟨#[103]⟩)), (.row [(.call 1 0 [(.lit (.i 0))])])]), (.call 1 0 [(.lit (.i 0))])])]), (.lit (.r []))]), (.call 1 0 [(.lit (.i 1))]), (.call 3 1 [(.call 0 0 [(.lit (.i 10))]), (.call 2 0 [(.lit (.s ⟨#[102]⟩)), (.row [(.call 2 0 [(.lit (.s ⟨#[103]⟩)), (.row [(.call 1 0 [(.lit (.i 0))])])]), (.call 1 0 [(.lit (.i 0))])])]), (.lit (.r []))])]), (.call 4 0 [(.lit (.i 0))])]) (.lit (.i 0)))) (.call 8 0 [(.call 7 0 [(.call 3 3 [(.call 3 3 [(.call 0 0 [(.lit (.i 10))]), (.call 2 0 [(.lit (.s ⟨#[102]⟩)), (.row [(.call 2 0 [(.lit (.s ⟨#[103]⟩)), (.row [(.call 1 0 [(.lit (.i 0))])])]), (.call 1 0 [(.lit (.i 0))])])]), (.lit (.r []))]), (.call 1 0 [(.lit (.i 1))]), (.call 3 1 [(.call 0 0 [(.lit (.i 10))]), (.call 2 0 [(.lit (.s ⟨#[102]⟩)), (.row [(.call 2 0 [(.lit (.s ⟨#[103]⟩)), (.row [(.call 1 0 [(.lit (.i 0))])])]), (.call 1 0 [(.lit (.i 0))])])]), (.lit (.r []))])]), (.call 4 0 [(.lit (.i 0))])]), (.call 2 0 [(.lit (.s ⟨#[102]⟩)), (.row [(.call 2 0 [(.lit (.s ⟨#[103]⟩)), (.row [(.call 1 0 [(.lit (.i 4))])])]), (.call 1 0 [(.lit (.i 4))])])])])) (.eq (.call 9 0 [(.call 3 3 [(.call 3 3 [(.call 0 0 [(.lit (.i 10))]), (.call 2 0 [(.lit (.s ⟨#[102]⟩)), (.row [(.call 2 0 [(.lit (.s ⟨#[103]⟩)), (.row [(.call 1 0 [(.lit (.i 0))])])]), (.call 1 0 [(.lit (.i 0))])])]), (.lit (.r []))]), (.call 1 0 [(.lit (.i 1))]), (.call 3 1 [(.call 0 0 [(.lit (.i 10))]), (.call 2 0 [(.lit (.s ⟨#[102]⟩)), (.row [(.call 2 0 [(.lit (.s ⟨#[103]⟩)), (.row [(.call 1 0 [(.lit (.i 0))])])]), (.call 1 0 [(.lit (.i 0))])])]), (.lit (.r []))])]), (.call 5 0 [(.lit (.i 2))])]) (.call 5 0 [(.lit (.i 4))]))) (.eq (.call 9 0 [(.call 3 3 [(.call 3 3 [(.call 0 0 [(.lit (.i 10))]), (.call 2 0 [(.lit (.s ⟨#[102]⟩)), (.row [(.call 2 0 [(.lit (.s ⟨#[103]⟩)), (.row [(.call 1 0 [(.lit (.i 0))])])]), (.call 1 0 [(.lit (.i 0))])])]), (.lit (.r []))]), (.call 1 0 [(.lit (.i 1))]), (.call 3 1 [(.call 0 0 [(.lit (.i 10))]), (.call 2 0 [(.lit (.s ⟨#[102]⟩)), (.row [(.call 2 0 [(.lit (.s ⟨#[103]⟩)), (.row [(.call 1 0 [(.lit (.i 0))])])]), (.call 1 0 [(.lit (.i 0))])])]), (.lit (.r []))])]), (.call 5 0 [(.lit (.i 1))])]) (.call 4 0 [(.lit (.i 3))]))) (.lt (.lit (.i 1)) (.len (.fld (.call 3 3 [(.call 3 3 [(.call 0 0 [(.lit (.i 10))]), (.call 2 0 [(.lit (.s ⟨#[102]⟩)), (.row [(.call 2 0 [(.lit (.s ⟨#[103]⟩)), (.row [(.call 1 0 [(.lit (.i 0))])])]), (.call 1 0 [(.lit (.i 0))])])]), (.lit (.r []))]), (.call 1 0 [(.lit (.i 1))]), (.call 3 1 [(.call 0 0 [(.lit (.i 10))]), (.call 2 0 [(.lit (.s ⟨#[102]⟩)), (.row [(.call 2 0 [(.lit (.s ⟨#[103]⟩)), (.row [(.call 1 0 [(.lit (.i 0))])])]), (.call 1 0 [(.lit (.i 0))])])]), (.lit (.r []))])]) 1)))), (.imp (.and (.and (.and (.and (.and (.and (.eq (.call 3 2 [(.call 3 3 [(.call 0 0 [(.lit (.i 10))]), (.call 2 0 [(.lit (.s ⟨#[102]⟩)), (.row [(.call 2 0 [(.lit (.s ⟨#[103]⟩)), (.row [(.call 1 0 [(.lit (.i 0))])])]), (.call 1 0 [(.lit (.i 0))])])]), (.lit (.r []))]), (.call 1 0 [(.lit (.i 1))]), (.call 3 1 [(.call 0 0 [(.lit (.i 10))]), (.call 2 0 [(.lit (.s ⟨#[102]⟩)), (.row [(.call 2 0 [(.lit (.s ⟨#[103]⟩)), (.row [(.call 1 0 [(.lit (.i 0))])])]), (.call 1 0 [(.lit (.i 0))])])]), (.lit (.r []))])]) (.lit (.i 0))) (.eq (.call 3 0 [(.call 3 3 [(.call 0 0 [(.lit (.i 10))]), (.call 2 0 [(.lit (.s ⟨#[102]⟩)), (.row [(.call 2 0 [(.lit (.s ⟨#[103]⟩)), (.row [(.call 1 0 [(.lit (.i 0))])])]), (.call 1 0 [(.lit (.i 0))])])]), (.lit (.r []))]), (.call 1 0 [(.lit (.i 1))]), (.call 3 1 [(.call 0 0 [(.lit (.i 10))]), (.call 2 0 [(.lit (.s ⟨#[102]⟩)), (.row [(.call 2 0 [(.lit (.s ⟨#[103]⟩)), (.row [(.call 1 0 [(.lit (.i 0))])])]), (.call 1 0 [(.lit (.i 0))])])]), (.lit (.r []))])]) (.call 5 0 [(.lit (.i 5))]))) (.call 6 0 [(.call 3 1 [(.call 3 3 [(.call 0 0 [(.lit (.i 10))]), (.call 2 0 [(.lit (.s ⟨#[102]⟩)), (.row [(.call 2 0 [(.lit (.s ⟨#[103]⟩)), (.row [(.call 1 0 [(.lit (.i 0))])])]), (.call 1 0 [(.lit (.i 0))])])]), (.lit (.r []))]), (.call 1 0 [(.lit (.i 1))]), (.call 3 1 [(.call 0 0 [(.lit (.i 10))]), (.call 2 0 [(.lit (.s ⟨#[102]⟩)), (.row [(.call 2 0 [(.lit (.s ⟨#[103]⟩)), (.row [(.call 1 0 [(.lit (.i 0))])])]), (.call 1 0 [(.lit (.i 0))])])]), (.lit (.r []))])]), (.row [(.mk [(.lit (.i 0)), (.call 5 0 [(.lit (.i 4))])]), (.mk [(.lit (.i 1)), (.call 5 0 [(.lit (.i 5))])])])])) (.eq (.call 7 1 [(.call 3 3 [(.call 3 3 [(.call 0 0 [(.lit (.i 10))]), (.call 2 0 [(.lit (.s ⟨#[102]⟩)), (.row [(.call 2 0 [(.lit (.s ⟨#[103]⟩)), (.row [(.call 1 0 [(.lit (.i 0))])])]), (.call 1 0 [(.lit (.i 0))])])]), (.lit (.r []))]), (.call 1 0 [(.lit (.i 1))]), (.call 3 1 [(.call 0 0 [(.lit (.i 10))]), (.call 2 0 [(.lit (.s ⟨#[102]⟩)), (.row [(.call 2 0 [(.lit (.s ⟨#[103]⟩)), (.row [(.call 1 0 [(.lit (.i 0))])])]), (.call 1 0 [(.lit (.i 0))])])]), (.lit (.r []))])]), (.call 4 0 [(.lit (.i 0))])]) (.lit (.i 0)))) (.call 8 0 [(.call 7 0 [(.call 3 3 [(.call 3 3 [(.call 0 0 [(.lit (.i 10))]), (.call 2 0 [(.lit (.s ⟨#[102]⟩)), (.row [(.call 2 0 [(.lit (.s ⟨#[103]⟩)), (.row [(.call 1 0 [(.lit (.i 0))])])]), (.call 1 0 [(.lit (.i 0))])])]), (.lit (.r []))]), (.call 1 0 [(.lit (.i 1))]), (.call 3 1 [(.call 0 0 [(.lit (.i 10))]), (.call 2 0 [(.lit (.s ⟨#[102]⟩)), (.row [(.call 2 0 [(.lit (.s ⟨#[103]⟩)), (.row [(.call 1 0 [(.lit (.i 0))])])]), (.call 1 0 [(.lit (.i 0))])])]), (.lit (.r []))])]), (.call 4 0 [(.lit (.i 0))])]), (.call 2 0 [(.lit (.s ⟨#[102]⟩)), (.row [(.call 2 0 [(.lit (.s ⟨#[103]⟩)), (.row [(.call 1 0 [(.lit (.i 4))])])]), (.call 1 0 [(.lit (.i 4))])])])])) (.eq (.call 9 0 [(.call 3 3 [(.call 3 3 [(.call 0 0 [(.lit (.i 10))]), (.call 2 0 [(.lit (.s ⟨#[102]⟩)), (.row [(.call 2 0 [(.lit (.s ⟨#[103]⟩)), (.row [(.call 1 0 [(.lit (.i 0))])])]), (.call 1 0 [(.lit (.i 0))])])]), (.lit (.r []))]), (.call 1 0 [(.lit (.i 1))]), (.call 3 1 [(.call 0 0 [(.lit (.i 10))]), (.call 2 0 [(.lit (.s ⟨#[102]⟩)), (.row [(.call 2 0 [(.lit (.s ⟨#[103]⟩)), (.row [(.call 1 0 [(.lit (.i 0))])])]), (.call 1 0 [(.lit (.i 0))])])]), (.lit (.r []))])]), (.call 5 0 [(.lit (.i 2))])]) (.call 5 0 [(.lit (.i 4))]))) (.eq (.call 9 0 [(.call 3 3 [(.call 3 3 [(.call 0 0 [(.lit (.i 10))]), (.call 2 0 [(.lit (.s ⟨#[102]⟩)), (.row [(.call 2 0 [(.lit (.s ⟨#[103]⟩)), (.row [(.call 1 0 [(.lit (.i 0))])])]), (.call 1 0 [(.lit (.i 0))])])]), (.lit (.r []))]), (.call 1 0 [(.lit (.i 1))]), (.call 3 1 [(.call 0 0 [(.lit (.i 10))]), (.call 2 0 [(.lit (.s ⟨#[102]⟩)), (.row [(.call 2 0 [(.lit (.s ⟨#[103]⟩)), (.row [(.call 1 0 [(.lit (.i 0))])])]), (.call 1 0 [(.lit (.i 0))])])]), (.lit (.r []))])]), (.call 5 0 [(.lit (.i 1))])]) (.call 4 0 [(.lit (.i 3))]))) (.lit (.b .true))), (.imp (.and (.and (.and (.and (.and (.and (.eq (.call 3 2 [(.call 3 3 [(.call 0 0 [(.lit (.i 10))]), (.call 2 0 [(.lit (.s ⟨#[102]⟩)), (.row [(.call 2 0 [(.lit (.s ⟨#[103]⟩)), (.row [(.call 1 0 [(.lit (.i 0))])])]), (.call 1 0 [(.lit (.i 0))])])]), (.lit (.r []))]), (.call 1 0 [(.lit (.i 1))]), (.call 3 1 [(.call 0 0 [(.lit (.i 10))]), (.call 2 0 [(.lit (.s ⟨#[102]⟩)), (.row [(.call 2 0 [(.lit (.s ⟨#[103]⟩)), (.row [(.call 1 0 [(.lit (.i 0))])])]), (.call 1 0 [(.lit (.i 0))])])]), (.lit (.r []))])]) (.lit (.i 0))) (.eq (.call 3 0 [(.call 3 3 [(.call 0 0 [(.lit (.i 10))]), (.call 2 0 [(.lit (.s ⟨#[102]⟩)), (.row [(.call 2 0 [(.lit (.s ⟨#[103]⟩)), (.row [(.call 1 0 [(.lit (.i 0))])])]), (.call 1 0 [(.lit (.i 0))])])]), (.lit (.r []))]), (.call 1 0 [(.lit (.i 1))]), (.call 3 1 [(.call 0 0 [(.lit (.i 10))]), (.call 2 0 [(.lit (.s ⟨#[102]⟩)), (.row [(.call 2 0 [(.lit (.s ⟨#[103]⟩)), (.row [(.call 1 0 [(.lit (.i 0))])])]), (.call 1 0 [(.lit (.i 0))])])]), (.lit (.r []))])]) (.call 5 0 [(.lit (.i 5))]))) (.call 6 0 [(.call 3 1 [(.call 3 3 [(.call 0 0 [(.lit (.i 10))]), (.call 2 0 [(.lit (.s ⟨#[102]⟩)), (.row [(.call 2 0 [(.lit (.s ⟨#[103]⟩)), (.row [(.call 1 0 [(.lit (.i 0))])])]), (.call 1 0 [(.lit (.i 0))])])]), (.lit (.r []))]), (.call 1 0 [(.lit (.i 1))]), (.call 3 1 [(.call 0 0 [(.lit (.i 10))]), (.call 2 0 [(.lit (.s ⟨#[102]⟩)), (.row [(.call 2 0 [(.lit (.s ⟨#[103]⟩)), (.row [(.call 1 0 [(.lit (.i 0))])])]), (.call 1 0 [(.lit (.i 0))])])]), (.lit (.r []))])]), (.row [(.mk [(.lit (.i 0)), (.call 5 0 [(.lit (.i 4))])]), (.mk [(.lit (.i 1)), (.call 5 0 [(.lit (.i 5))])])])])) (.eq (.call 7 1 [(.call 3 3 [(.call 3 3 [(.call 0 0 [(.lit (.i 10))]), (.call 2 0 [(.lit (.s ⟨#[102]⟩)), (.row [(.call 2 0 [(.lit (.s ⟨#[103]⟩)), (.row [(.call 1 0 [(.lit (.i 0))])])]), (.call 1 0 [(.lit (.i 0))])])]), (.lit (.r []))]), (.call 1 0 [(.lit (.i 1))]), (.call 3 1 [(.call 0 0 [(.lit (.i 10))]), (.call 2 0 [(.lit (.s ⟨#[102]⟩)), (.row [(.call 2 0 [(.lit (.s ⟨#[103]⟩)), (.row [(.call 1 0 [(.lit (.i 0))])])]), (.call 1 0 [(.lit (.i 0))])])]), (.lit (.r []))])]), (.call 4 0 [(.lit (.i 0))])]) (.lit (.i 0)))) (.call 8 0 [(.call 7 0 [(.call 3 3 [(.call 3 3 [(.call 0 0 [(.lit (.i 10))]), (.call 2 0 [(.lit (.s ⟨#[102]⟩)), (.row [(.call 2 0 [(.lit (.s ⟨#[103]⟩)), (.row [(.call 1 0 [(.lit (.i 0))])])]), (.call 1 0 [(.lit (.i 0))])])]), (.lit (.r []))]), (.call 1 0 [(.lit (.i 1))]), (.call 3 1 [(.call 0 0 [(.lit (.i 10))]), (.call 2 0 [(.lit (.s ⟨#[102]⟩)), (.row [(.call 2 0 [(.lit (.s ⟨#[103]⟩)), (.row [(.call 1 0 [(.lit (.i 0))])])]), (.call 1 0 [(.lit (.i 0))])])]), (.lit (.r []))])]), (.call 4 0 [(.lit (.i 0))])]), (.call 2 0 [(.lit (.s ⟨#[102]⟩)), (.row [(.call 2 0 [(.lit (.s ⟨#[103]⟩)), (.row [(.call 1 0 [(.lit (.i 4))])])]), (.call 1 0 [(.lit (.i 4))])])])])) (.eq (.call 9 0 [(.call 3 3 [(.call 3 3 [(.call 0 0 [(.lit (.i 10))]), (.call 2 0 [(.lit (.s ⟨#[102]⟩)), (.row [(.call 2 0 [(.lit (.s ⟨#[103]⟩)), (.row [(.call 1 0 [(.lit (.i 0))])])]), (.call 1 0 [(.lit (.i 0))])])]), (.lit (.r []))]), (.call 1 0 [(.lit (.i 1))]), (.call 3 1 [(.call 0 0 [(.lit (.i 10))]), (.call 2 0 [(.lit (.s ⟨#[102]⟩)), (.row [(.call 2 0 [(.lit (.s ⟨#[103]⟩)), (.row [(.call 1 0 [(.lit (.i 0))])])]), (.call 1 0 [(.lit (.i 0))])])]), (.lit (.r []))])]), (.call 5 0 [(.lit (.i 2))])]) (.call 5 0 [(.lit (.i 4))]))) (.eq (.call 9 0 [(.call 3 3 [(.call 3 3 [(.call 0 0 [(.lit (.i 10))]), (.call 2 0 [(.lit (.s ⟨#[102]⟩)), (.row [(.call 2 0 [(.lit (.s ⟨#[103]⟩)), (.row [(.call 1 0 [(.lit (.i 0))])])]), (.call 1 0 [(.lit (.i 0))])])]), (.lit (.r []))]), (.call 1 0 [(.lit (.i 1))]), (.call 3 1 [(.call 0 0 [(.lit (.i 10))]), (.call 2 0 [(.lit (.s ⟨#[102]⟩)), (.row [(.call 2 0 [(.lit (.s ⟨#[103]⟩)), (.row [(.call 1 0 [(.lit (.i 0))])])]), (.call 1 0 [(.lit (.i 0))])])]), (.lit (.r []))])]), (.call 5 0 [(.lit (.i 1))])]) (.call 4 0 [(.lit (.i 3))]))) (.lt (.lit (.i 1)) (.len (.fld (.call 3 3 [(.call 3 3 [(.call 0 0 [(.lit (.i 10))]), (.call 2 0 [(.lit (.s ⟨#[102]⟩)), (.row [(.call 2 0 [(.lit (.s ⟨#[103]⟩)), (.row [(.call 1 0 [(.lit (.i 0))])])]), (.call 1 0 [(.lit (.i 0))])])]), (.lit (.r []))]), (.call 1 0 [(.lit (.i 1))]), (.call 3 1 [(.call 0 0 [(.lit (.i 10))]), (.call 2 0 [(.lit (.s ⟨#[102]⟩)), (.row [(.call 2 0 [(.lit (.s ⟨#[103]⟩)), (.row [(.call 1 0 [(.lit (.i 0))])])]), (.call 1 0 [(.lit (.i 0))])])]), (.lit (.r []))])]) 1)))), (.imp (.and (.and (.and (.and (.and (.eq (.call 3 2 [(.call 3 3 [(.call 0 0 [(.lit (.i 10))]), (.call 2 0 [(.lit (.s ⟨#[102]⟩)), (.row [(.call 2 0 [(.lit (.s ⟨#[103]⟩)), (.row [(.call 1 0 [(.lit (.i 0))])])]), (.call 1 0 [(.lit (.i 0))])])]), (.lit (.r []))]), (.call 1 0 [(.lit (.i 1))]), (.call 3 1 [(.call 0 0 [(.lit (.i 10))]), (.call 2 0 [(.lit (.s ⟨#[102]⟩)), (.row [(.call 2 0 [(.lit (.s ⟨#[103]⟩)), (.row [(.call 1 0 [(.lit (.i 0))])])]), (.call 1 0 [(.lit (.i 0))])])]), (.lit (.r []))])]) (.lit (.i 0))) (.eq (.call 3 0 [(.call 3 3 [(.call 0 0 [(.lit (.i 10))]), (.call 2 0 [(.lit (.s ⟨#[102]⟩)), (.row [(.call 2 0 [(.lit (.s ⟨#[103]⟩)), (.row [(.call 1 0 [(.lit (.i 0))])])]), (.call 1 0 [(.lit (.i 0))])])]), (.lit (.r []))]), (.call 1 0 [(.lit (.i 1))]), (.call 3 1 [(.call 0 0 [(.lit (.i 10))]), (.call 2 0 [(.lit (.s ⟨#[102]⟩)), (.row [(.call 2 0 [(.lit (.s ⟨#[103]⟩)), (.row [(.call 1 0 [(.lit (.i 0))])])]), (.call 1 0 [(.lit (.i 0))])])]), (.lit (.r []))])]) (.call 5 0 [(.lit (.i 5))]))) (.call 6 0 [(.call 3 1 [(.call 3 3 [(.call 0 0 [(.lit (.i 10))]), (.call 2 0 [(.lit (.s ⟨#[102]⟩)), (.row [(.call 2 0 [(.lit (.s ⟨#[103]⟩)), (.row [(.call 1 0 [(.lit (.i 0))])])]), (.call 1 0 [(.lit (.i 0))])])]), (.lit (.r []))]), (.call 1 0 [(.lit (.i 1))]), (.call 3 1 [(.call 0 0 [(.lit (.i 10))]), (.call 2 0 [(.lit (.s ⟨#[102]⟩)), (.row [(.call 2 0 [(.lit (.s ⟨#[103]⟩)), (.row [(.call 1 0 [(.lit (.i 0))])])]), (.call 1 0 [(.lit (.i 0))])])]), (.lit (.r []))])]), (.row [(.mk [(.lit (.i 0)), (.call 5 0 [(.lit (.i 4))])]), (.mk [(.lit (.i 1)), (.call 5 0 [(.lit (.i 5))])])])])) (.eq (.call 7 1 [(.call 3 3 [(.call 3 3 [(.call 0 0 [(.lit (.i 10))]), (.call 2 0 [(.lit (.s ⟨#[102]⟩)), (.row [(.call 2 0 [(.lit (.s ⟨#[103]⟩)), (.row [(.call 1 0 [(.lit (.i 0))])])]), (.call 1 0 [(.lit (.i 0))])])]), (.lit (.r []))]), (.call 1 0 [(.lit (.i 1))]), (.call 3 1 [(.call 0 0 [(.lit (.i 10))]), (.call 2 0 [(.lit (.s ⟨#[102]⟩)), (.row [(.call 2 0 [(.lit (.s ⟨#[103]⟩)), (.row [(.call 1 0 [(.lit (.i 0))])])]), (.call 1 0 [(.lit (.i 0))])])]), (.lit (.r []))])]), (.call 4 0 [(.lit (.i 0))])]) (.lit (.i 0)))) (.call 8 0 [(.call 7 0 [(.call 3 3 [(.call 3 3 [(.call 0 0 [(.lit (.i 10))]), (.call 2 0 [(.lit (.s ⟨#[102]⟩)), (.row [(.call 2 0 [(.lit (.s ⟨#[103]⟩)), (.row [(.call 1 0 [(.lit (.i 0))])])]), (.call 1 0 [(.lit (.i 0))])])]), (.lit (.r []))]), (.call 1 0 [(.lit (.i 1))]), (.call 3 1 [(.call 0 0 [(.lit (.i 10))]), (.call 2 0 [(.lit (.s ⟨#[102]⟩)), (.row [(.call 2 0 [(.lit (.s ⟨#[103]⟩)), (.row [(.call 1 0 [(.lit (.i 0))])])]), (.call 1 0 [(.lit (.i 0))])])]), (.lit (.r []))])]), (.call 4 0 [(.lit (.i 0))])]), (.call 2 0 [(.lit (.s ⟨#[102]⟩)), (.row [(.call 2 0 [(.lit (.s ⟨#[103]⟩)), (.row [(.call 1 0 [(.lit (.i 4))])])]), (.call 1 0 [(.lit (.i 4))])])])])) (.eq (.call 9 0 [(.call 3 3 [(.call 3 3 [(.call 0 0 [(.lit (.i 10))]), (.call 2 0 [(.lit (.s ⟨#[102]⟩)), (.row [(.call 2 0 [(.lit (.s ⟨#[103]⟩)), (.row [(.call 1 0 [(.lit (.i 0))])])]), (.call 1 0 [(.lit (.i 0))])])]), (.lit (.r []))]), (.call 1 0 [(.lit (.i 1))]), (.call 3 1 [(.call 0 0 [(.lit (.i 10))]), (.call 2 0 [(.lit (.s ⟨#[102]⟩)), (.row [(.call 2 0 [(.lit (.s ⟨#[103]⟩)), (.row [(.call 1 0 [(.lit (.i 0))])])]), (.call 1 0 [(.lit (.i 0))])])]), (.lit (.r []))])]), (.call 5 0 [(.lit (.i 2))])]) (.call 5 0 [(.lit (.i 4))]))) (.ok 4 [(.lit (.i 3))])), (.imp (.and (.and (.and (.and (.and (.eq (.call 3 2 [(.call 3 3 [(.call 0 0 [(.lit (.i 10))]), (.call 2 0 [(.lit (.s ⟨#[102]⟩)), (.row [(.call 2 0 [(.lit (.s ⟨#[103]⟩)), (.row [(.call 1 0 [(.lit (.i 0))])])]), (.call 1 0 [(.lit (.i 0))])])]), (.lit (.r []))]), (.call 1 0 [(.lit (.i 1))]), (.call 3 1 [(.call 0 0 [(.lit (.i 10))]), (.call 2 0 [(.lit (.s ⟨#[102]⟩)), (.row [(.call 2 0 [(.lit (.s ⟨#[103]⟩)), (.row [(.call 1 0 [(.lit (.i 0))])])]), (.call 1 0 [(.lit (.i 0))])])]), (.lit (.r []))])]) (.lit (.i 0))) (.eq (.call 3 0 [(.call 3 3 [(.call 0 0 [(.lit (.i 10))]), (.call 2 0 [(.lit (.s ⟨#[102]⟩)), (.row [(.call 2 0 [(.lit (.s ⟨#[103]⟩)), (.row [(.call 1 0 [(.lit (.i 0))])])]), (.call 1 0 [(.lit (.i 0))])])]), (.lit (.r []))]), (.call 1 0 [(.lit (.i 1))]), (.call 3 1 [(.call 0 0 [(.lit (.i 10))]), (.call 2 0 [(.lit (.s ⟨#[102]⟩)), (.row [(.call 2 0 [(.lit (.s ⟨#[103]⟩)), (.row [(.call 1 0 [(.lit (.i 0))])])]), (.call 1 0 [(.lit (.i 0))])])]), (.lit (.r []))])]) (.call 5 0 [(.lit (.i 5))]))) (.call 6 0 [(.call 3 1 [(.call 3 3 [(.call 0 0 [(.lit (.i 10))]), (.call 2 0 [(.lit (.s ⟨#[102]⟩)), (.row [(.call 2 0 [(.lit (.s ⟨#[103]⟩)), (.row [(.call 1 0 [(.lit (.i 0))])])]), (.call 1 0 [(.lit (.i 0))])])]), (.lit (.r []))]), (.call 1 0 [(.lit (.i 1))]), (.call 3 1 [(.call 0 0 [(.lit (.i 10))]), (.call 2 0 [(.lit (.s ⟨#[102]⟩)), (.row [(.call 2 0 [(.lit (.s ⟨#[103]⟩)), (.row [(.call 1 0 [(.lit (.i 0))])])]), (.call 1 0 [(.lit (.i 0))])])]), (.lit (.r []))])]), (.row [(.mk [(.lit (.i 0)), (.call 5 0 [(.lit (.i 4))])]), (.mk [(.lit (.i 1)), (.call 5 0 [(.lit (.i 5))])])])])) (.eq (.call 7 1 [(.call 3 3 [(.call 3 3 [(.call 0 0 [(.lit (.i 10))]), (.call 2 0 [(.lit (.s ⟨#[102]⟩)), (.row [(.call 2 0 [(.lit (.s ⟨#[103]⟩)), (.row [(.call 1 0 [(.lit (.i 0))])])]), (.call 1 0 [(.lit (.i 0))])])]), (.lit (.r []))]), (.call 1 0 [(.lit (.i 1))]), (.call 3 1 [(.call 0 0 [(.lit (.i 10))]), (.call 2 0 [(.lit (.s ⟨#[102]⟩)), (.row [(.call 2 0 [(.lit (.s ⟨#[103]⟩)), (.row [(.call 1 0 [(.lit (.i 0))])])]), (.call 1 0 [(.lit (.i 0))])])]), (.lit (.r []))])]), (.call 4 0 [(.lit (.i 0))])]) (.lit (.i 0)))) (.call 8 0 [(.call 7 0 [(.call 3 3 [(.call 3 3 [(.call 0 0 [(.lit (.i 10))]), (.call 2 0 [(.lit (.s ⟨#[102]⟩)), (.row [(.call 2 0 [(.lit (.s ⟨#[103]⟩)), (.row [(.call 1 0 [(.lit (.i 0))])])]), (.call 1 0 [(.lit (.i 0))])])]), (.lit (.r []))]), (.call 1 0 [(.lit (.i 1))]), (.call 3 1 [(.call 0 0 [(.lit (.i 10))]), (.call 2 0 [(.lit (.s ⟨#[102]⟩)), (.row [(.call 2 0 [(.lit (.s ⟨#[103]⟩)), (.row [(.call 1 0 [(.lit (.i 0))])])]), (.call 1 0 [(.lit (.i 0))])])]), (.lit (.r []))])]), (.call 4 0 [(.lit (.i 0))])]), (.call 2 0 [(.lit (.s ⟨#[102]⟩)), (.row [(.call 2 0 [(.lit (.s ⟨#[103]⟩)), (.row [(.call 1 0 [(.lit (.i 4))])])]), (.call 1 0 [(.lit (.i 4))])])])])) (.eq (.call 9 0 [(.call 3 3 [(.call 3 3 [(.call 0 0 [(.lit (.i 10))]), (.call 2 0 [(.lit (.s ⟨#[102]⟩)), (.row [(.call 2 0 [(.lit (.s ⟨#[103]⟩)), (.row [(.call 1 0 [(.lit (.i 0))])])]), (.call 1 0 [(.lit (.i 0))])])]), (.lit (.r []))]), (.call 1 0 [(.lit (.i 1))]), (.call 3 1 [(.call 0 0 [(.lit (.i 10))]), (.call 2 0 [(.lit (.s ⟨#[102]⟩)), (.row [(.call 2 0 [(.lit (.s ⟨#[103]⟩)), (.row [(.call 1 0 [(.lit (.i 0))])])]), (.call 1 0 [(.lit (.i 0))])])]), (.lit (.r []))])]), (.call 5 0 [(.lit (.i 2))])]) (.call 5 0 [(.lit (.i 4))]))) (.ok 9 [(.call 3 3 [(.call 3 3 [(.call 0 0 [(.lit (.i 10))]), (.call 2 0 [(.lit (.s ⟨#[102]⟩)), (.row [(.call 2 0 [(.lit (.s ⟨#[103]⟩)), (.row [(.call 1 0 [(.lit (.i 0))])])]), (.call 1 0 [(.lit (.i 0))])])]), (.lit (.r []))]), (.call 1 0 [(.lit (.i 1))]), (.call 3 1 [(.call 0 0 [(.lit (.i 10))]), (.call 2 0 [(.lit (.s ⟨#[102]⟩)), (.row [(.call 2 0 [(.lit (.s ⟨#[103]⟩)), (.row [(.call 1 0 [(.lit (.i 0))])])]), (.call 1 0 [(.lit (.i 0))])])]), (.lit (.r []))])]), (.call 5 0 [(.lit (.i 1))])])), (.imp (.and (.and (.and (.and (.and (.eq (.call 3 2 [(.call 3 3 [(.call 0 0 [(.lit (.i 10))]), (.call 2 0 [(.lit (.s ⟨#[102]⟩)), (.row [(.call 2 0 [(.lit (.s ⟨#[103]⟩)), (.row [(.call 1 0 [(.lit (.i 0))])])]), (.call 1 0 [(.lit (.i 0))])])]), (.lit (.r []))]), (.call 1 0 [(.lit (.i 1))]), (.call 3 1 [(.call 0 0 [(.lit (.i 10))]), (.call 2 0 [(.lit (.s ⟨#[102]⟩)), (.row [(.call 2 0 [(.lit (.s ⟨#[103]⟩)), (.row [(.call 1 0 [(.lit (.i 0))])])]), (.call 1 0 [(.lit (.i 0))])])]), (.lit (.r []))])]) (.lit (.i 0))) (.eq (.call 3 0 [(.call 3 3 [(.call 0 0 [(.lit (.i 10))]), (.call 2 0 [(.lit (.s ⟨#[102]⟩)), (.row [(.call 2 0 [(.lit (.s ⟨#[103]⟩)), (.row [(.call 1 0 [(.lit (.i 0))])])]), (.call 1 0 [(.lit (.i 0))])])]), (.lit (.r []))]), (.call 1 0 [(.lit (.i 1))]), (.call 3 1 [(.call 0 0 [(.lit (.i 10))]), (.call 2 0 [(.lit (.s ⟨#[102]⟩)), (.row [(.call 2 0 [(.lit (.s ⟨#[103]⟩)), (.row [(.call 1 0 [(.lit (.i 0))])])]), (.call 1 0 [(.lit (.i 0))])])]), (.lit (.r []))])]) (.call 5 0 [(.lit (.i 5))]))) (.call 6 0 [(.call 3 1 [(.call 3 3 [(.call 0 0 [(.lit (.i 10))]), (.call 2 0 [(.lit (.s ⟨#[102]⟩)), (.row [(.call 2 0 [(.lit (.s ⟨#[103]⟩)), (.row [(.call 1 0 [(.lit (.i 0))])])]), (.call 1 0 [(.lit (.i 0))])])]), (.lit (.r []))]), (.call 1 0 [(.lit (.i 1))]), (.call 3 1 [(.call 0 0 [(.lit (.i 10))]), (.call 2 0 [(.lit (.s ⟨#[102]⟩)), (.row [(.call 2 0 [(.lit (.s ⟨#[103]⟩)), (.row [(.call 1 0 [(.lit (.i 0))])])]), (.call 1 0 [(.lit (.i 0))])])]), (.lit (.r []))])]), (.row [(.mk [(.lit (.i 0)), (.call 5 0 [(.lit (.i 4))])]), (.mk [(.lit (.i 1)), (.call 5 0 [(.lit (.i 5))])])])])) (.eq (.call 7 1 [(.call 3 3 [(.call 3 3 [(.call 0 0 [(.lit (.i 10))]), (.call 2 0 [(.lit (.s ⟨#[102]⟩)), (.row [(.call 2 0 [(.lit (.s ⟨#[103]⟩)), (.row [(.call 1 0 [(.lit (.i 0))])])]), (.call 1 0 [(.lit (.i 0))])])]), (.lit (.r []))]), (.call 1 0 [(.lit (.i 1))]), (.call 3 1 [(.call 0 0 [(.lit (.i 10))]), (.call 2 0 [(.lit (.s ⟨#[102]⟩)), (.row [(.call 2 0 [(.lit (.s ⟨#[103]⟩)), (.row [(.call 1 0 [(.lit (.i 0))])])]), (.call 1 0 [(.lit (.i 0))])])]), (.lit (.r []))])]), (.call 4 0 [(.lit (.i 0))])]) (.lit (.i 0)))) (.call 8 0 [(.call 7 0 [(.call 3 3 [(.call 3 3 [(.call 0 0 [(.lit (.i 10))]), (.call 2 0 [(.lit (.s ⟨#[102]⟩)), (.row [(.call 2 0 [(.lit (.s ⟨#[103]⟩)), (.row [(.call 1 0 [(.lit (.i 0))])])]), (.call 1 0 [(.lit (.i 0))])])]), (.lit (.r []))]), (.call 1 0 [(.lit (.i 1))]), (.call 3 1 [(.call 0 0 [(.lit (.i 10))]), (.call 2 0 [(.lit (.s ⟨#[102]⟩)), (.row [(.call 2 0 [(.lit (.s ⟨#[103]⟩)), (.row [(.call 1 0 [(.lit (.i 0))])])]), (.call 1 0 [(.lit (.i 0))])])]), (.lit (.r []))])]), (.call 4 0 [(.lit (.i 0))])]), (.call 2 0 [(.lit (.s ⟨#[102]⟩)), (.row [(.call 2 0 [(.lit (.s ⟨#[103]⟩)), (.row [(.call 1 0 [(.lit (.i 4))])])]), (.call 1 0 [(.lit (.i 4))])])])])) (.eq (.call 9 0 [(.call 3 3 [(.call 3 3 [(.call 0 0 [(.lit (.i 10))]), (.call 2 0 [(.lit (.s ⟨#[102]⟩)), (.row [(.call 2 0 [(.lit (.s ⟨#[103]⟩)), (.row [(.call 1 0 [(.lit (.i 0))])])]), (.call 1 0 [(.lit (.i 0))])])]), (.lit (.r []))]), (.call 1 0 [(.lit (.i 1))]), (.call 3 1 [(.call 0 0 [(.lit (.i 10))]), (.call 2 0 [(.lit (.s ⟨#[102]⟩)), (.row [(.call 2 0 [(.lit (.s ⟨#[103]⟩)), (.row [(.call 1 0 [(.lit (.i 0))])])]), (.call 1 0 [(.lit (.i 0))])])]), (.lit (.r []))])]), (.call 5 0 [(.lit (.i 2))])]) (.call 5 0 [(.lit (.i 4))]))) (.ok 5 [(.lit (.i 1))])), (.imp (.and (.and (.and (.and (.eq (.call 3 2 [(.call 3 3 [(.call 0 0 [(.lit (.i 10))]), (.call 2 0 [(.lit (.s ⟨#[102]⟩)), (.row [(.call 2 0 [(.lit (.s ⟨#[103]⟩)), (.row [(.call 1 0 [(.lit (.i 0))])])]), (.call 1 0 [(.lit (.i 0))])])]), (.lit (.r []))]), (.call 1 0 [(.lit (.i 1))]), (.call 3 1 [(.call 0 0 [(.lit (.i 10))]), (.call 2 0 [(.lit (.s ⟨#[102]⟩)), (.row [(.call 2 0 [(.lit (.s ⟨#[103]⟩)), (.row [(.call 1 0 [(.lit (.i 0))])])]), (.call 1 0 [(.lit (.i 0))])])]), (.lit (.r []))])]) (.lit (.i 0))) (.eq (.call 3 0 [(.call 3 3 [(.call 0 0 [(.lit (.i 10))]), (.call 2 0 [(.lit (.s ⟨#[102]⟩)), (.row [(.call 2 0 [(.lit (.s ⟨#[103]⟩)), (.row [(.call 1 0 [(.lit (.i 0))])])]), (.call 1 0 [(.lit (.i 0))])])]), (.lit (.r []))]), (.call 1 0 [(.lit (.i 1))]), (.call 3 1 [(.call 0 0 [(.lit (.i 10))]), (.call 2 0 [(.lit (.s ⟨#[102]⟩)), (.row [(.call 2 0 [(.lit (.s ⟨#[103]⟩)), (.row [(.call 1 0 [(.lit (.i 0))])])]), (.call 1 0 [(.lit (.i 0))])])]), (.lit (.r []))])]) (.call 5 0 [(.lit (.i 5))]))) (.call 6 0 [(.call 3 1 [(.call 3 3 [(.call 0 0 [(.lit (.i 10))]), (.call 2 0 [(.lit (.s ⟨#[102]⟩)), (.row [(.call 2 0 [(.lit (.s ⟨#[103]⟩)), (.row [(.call 1 0 [(.lit (.i 0))])])]), (.call 1 0 [(.lit (.i 0))])])]), (.lit (.r []))]), (.call 1 0 [(.lit (.i 1))]), (.call 3 1 [(.call 0 0 [(.lit (.i 10))]), (.call 2 0 [(.lit (.s ⟨#[102]⟩)), (.row [(.call 2 0 [(.lit (.s ⟨#[103]⟩)), (.row [(.call 1 0 [(.lit (.i 0))])])]), (.call 1 0 [(.lit (.i 0))])])]), (.lit (.r []))])]), (.row [(.mk [(.lit (.i 0)), (.call 5 0 [(.lit (.i 4))])]), (.mk [(.lit (.i 1)), (.call 5 0 [(.lit (.i 5))])])])])) (.eq (.call 7 1 [(.call 3 3 [(.call 3 3 [(.call 0 0 [(.lit (.i 10))]), (.call 2 0 [(.lit (.s ⟨#[102]⟩)), (.row [(.call 2 0 [(.lit (.s ⟨#[103]⟩)), (.row [(.call 1 0 [(.lit (.i 0))])])]), (.call 1 0 [(.lit (.i 0))])])]), (.lit (.r []))]), (.call 1 0 [(.lit (.i 1))]), (.call 3 1 [(.call 0 0 [(.lit (.i 10))]), (.call 2 0 [(.lit (.s ⟨#[102]⟩)), (.row [(.call 2 0 [(.lit (.s ⟨#[103]⟩)), (.row [(.call 1 0 [(.lit (.i 0))])])]), (.call 1 0 [(.lit (.i 0))])])]), (.lit (.r []))])]), (.call 4 0 [(.lit (.i 0))])]) (.lit (.i 0)))) (.call 8 0 [(.call 7 0 [(.call 3 3 [(.call 3 3 [(.call 0 0 [(.lit (.i 10))]), (.call 2 0 [(.lit (.s ⟨#[102]⟩)), (.row [(.call 2 0 [(.lit (.s ⟨#[103]⟩)), (.row [(.call 1 0 [(.lit (.i 0))])])]), (.call 1 0 [(.lit (.i 0))])])]), (.lit (.r []))]), (.call 1 0 [(.lit (.i 1))]), (.call 3 1 [(.call 0 0 [(.lit (.i 10))]), (.call 2 0 [(.lit (.s ⟨#[102]⟩)), (.row [(.call 2 0 [(.lit (.s ⟨#[103]⟩)), (.row [(.call 1 0 [(.lit (.i 0))])])]), (.call 1 0 [(.lit (.i 0))])])]), (.lit (.r []))])]), (.call 4 0 [(.lit (.i 0))])]), (.call 2 0 [(.lit (.s ⟨#[102]⟩)), (.row [(.call 2 0 [(.lit (.s ⟨#[103]⟩)), (.row [(.call 1 0 [(.lit (.i 4))])])]), (.call 1 0 [(.lit (.i 4))])])])])) (.ok 5 [(.lit (.i 4))])), (.imp (.and (.and (.and (.and (.eq (.call 3 2 [(.call 3 3 [(.call 0 0 [(.lit (.i 10))]), (.call 2 0 [(.lit (.s ⟨#[102]⟩)), (.row [(.call 2 0 [(.lit (.s ⟨#[103]⟩)), (.row [(.call 1 0 [(.lit (.i 0))])])]), (.call 1 0 [(.lit (.i 0))])])]), (.lit (.r []))]), (.call 1 0 [(.lit (.i 1))]), (.call 3 1 [(.call 0 0 [(.lit (.i 10))]), (.call 2 0 [(.lit (.s ⟨#[102]⟩)), (.row [(.call 2 0 [(.lit (.s ⟨#[103]⟩)), (.row [(.call 1 0 [(.lit (.i 0))])])]), (.call 1 0 [(.lit (.i 0))])])]), (.lit (.r []))])]) (.lit (.i 0))) (.eq (.call 3 0 [(.call 3 3 [(.call 0 0 [(.lit (.i 10))]), (.call 2 0 [(.lit (.s ⟨#[102]⟩)), (.row [(.call 2 0 [(.lit (.s ⟨#[103]⟩)), (.row [(.call 1 0 [(.lit (.i 0))])])]), (.call 1 0 [(.lit (.i 0))])])]), (.lit (.r []))]), (.call 1 0 [(.lit (.i 1))]), (.call 3 1 [(.call 0 0 [(.lit (.i 10))]), (.call 2 0 [(.lit (.s ⟨#[102]⟩)), (.row [(.call 2 0 [(.lit (.s ⟨#[103]⟩)), (.row [(.call 1 0 [(.lit (.i 0))])])]), (.call 1 0 [(.lit (.i 0))])])]), (.lit (.r []))])]) (.call 5 0 [(.lit (.i 5))]))) (.call 6 0 [(.call 3 1 [(.call 3 3 [(.call 0 0 [(.lit (.i 10))]), (.call 2 0 [(.lit (.s ⟨#[102]⟩)), (.row [(.call 2 0 [(.lit (.s ⟨#[103]⟩)), (.row [(.call 1 0 [(.lit (.i 0))])])]), (.call 1 0 [(.lit (.i 0))])])]), (.lit (.r []))]), (.call 1 0 [(.lit (.i 1))]), (.call 3 1 [(.call 0 0 [(.lit (.i 10))]), (.call 2 0 [(.lit (.s ⟨#[102]⟩)), (.row [(.call 2 0 [(.lit (.s ⟨#[103]⟩)), (.row [(.call 1 0 [(.lit (.i 0))])])]), (.call 1 0 [(.lit (.i 0))])])]), (.lit (.r []))])]), (.row [(.mk [(.lit (.i 0)), (.call 5 0 [(.lit (.i 4))])]), (.mk [(.lit (.i 1)), (.call 5 0 [(.lit (.i 5))])])])])) (.eq (.call 7 1 [(.call 3 3 [(.call 3 3 [(.call 0 0 [(.lit (.i 10))]), (.call 2 0 [(.lit (.s ⟨#[102]⟩)), (.row [(.call 2 0 [(.lit (.s ⟨#[103]⟩)), (.row [(.call 1 0 [(.lit (.i 0))])])]), (.call 1 0 [(.lit (.i 0))])])]), (.lit (.r []))]), (.call 1 0 [(.lit (.i 1))]), (.call 3 1 [(.call 0 0 [(.lit (.i 10))]), (.call 2 0 [(.lit (.s ⟨#[102]⟩)), (.row [(.call 2 0 [(.lit (.s ⟨#[103]⟩)), (.row [(.call 1 0 [(.lit (.i 0))])])]), (.call 1 0 [(.lit (.i 0))])])]), (.lit (.r []))])]), (.call 4 0 [(.lit (.i 0))])]) (.lit (.i 0)))) (.call 8 0 [(.call 7 0 [(.call 3 3 [(.call 3 3 [(.call 0 0 [(.lit (.i 10))]), (.call 2 0 [(.lit (.s ⟨#[102]⟩)), (.row [(.call 2 0 [(.lit (.s ⟨#[103]⟩)), (.row [(.call 1 0 [(.lit (.i 0))])])]), (.call 1 0 [(.lit (.i 0))])])]), (.lit (.r []))]), (.call 1 0 [(.lit (.i 1))]), (.call 3 1 [(.call 0 0 [(.lit (.i 10))]), (.call 2 0 [(.lit (.s ⟨#[102]⟩)), (.row [(.call 2 0 [(.lit (.s ⟨#[103]⟩)), (.row [(.call 1 0 [(.lit (.i 0))])])]), (.call 1 0 [(.lit (.i 0))])])]), (.lit (.r []))])]), (.call 4 0 [(.lit (.i 0))])]), (.call 2 0 [(.lit (.s ⟨#[102]⟩)), (.row [(.call 2 0 [(.lit (.s ⟨#[103]⟩)), (.row [(.call 1 0 [(.lit (.i 4))])])]), (.call 1 0 [(.lit (.i 4))])])])])) (.ok 9 [(.call 3 3 [(.call 3 3 [(.call 0 0 [(.lit (.i 10))]), (.call 2 0 [(.lit (.s ⟨#[102]⟩)), (.row [(.call 2 0 [(.lit (.s ⟨#[103]⟩)), (.row [(.call 1 0 [(.lit (.i 0))])])]), (.call 1 0 [(.lit (.i 0))])])]), (.lit (.r []))]), (.call 1 0 [(.lit (.i 1))]), (.call 3 1 [(.call 0 0 [(.lit (.i 10))]), (.call 2 0 [(.lit (.s ⟨#[102]⟩)), (.row [(.call 2 0 [(.lit (.s ⟨#[103]⟩)), (.row [(.call 1 0 [(.lit (.i 0))])])]), (.call 1 0 [(.lit (.i 0))])])]), (.lit (.r []))])]), (.call 5 0 [(.lit (.i 2))])])), (.imp (.and (.and (.and (.and (.eq (.call 3 2 [(.call 3 3 [(.call 0 0 [(.lit (.i 10))]), (.call 2 0 [(.lit (.s ⟨#[102]⟩)), (.row [(.call 2 0 [(.lit (.s ⟨#[103]⟩)), (.row [(.call 1 0 [(.lit (.i 0))])])]), (.call 1 0 [(.lit (.i 0))])])]), (.lit (.r []))]), (.call 1 0 [(.lit (.i 1))]), (.call 3 1 [(.call 0 0 [(.lit (.i 10))]), (.call 2 0 [(.lit (.s ⟨#[102]⟩)), (.row [(.call 2 0 [(.lit (.s ⟨#[103]⟩)), (.row [(.call 1 0 [(.lit (.i 0))])])]), (.call 1 0 [(.lit (.i 0))])])]), (.lit (.r []))])]) (.lit (.i 0))) (.eq (.call 3 0 [(.call 3 3 [(.call 0 0 [(.lit (.i 10))]), (.call 2 0 [(.lit (.s ⟨#[102]⟩)), (.row [(.call 2 0 [(.lit (.s ⟨#[103]⟩)), (.row [(.call 1 0 [(.lit (.i 0))])])]), (.call 1 0 [(.lit (.i 0))])])]), (.lit (.r []))]), (.call 1 0 [(.lit (.i 1))]), (.call 3 1 [(.call 0 0 [(.lit (.i 10))]), (.call 2 0 [(.lit (.s ⟨#[102]⟩)), (.row [(.call 2 0 [(.lit (.s ⟨#[103]⟩)), (.row [(.call 1 0 [(.lit (.i 0))])])]), (.call 1 0 [(.lit (.i 0))])])]), (.lit (.r []))])]) (.call 5 0 [(.lit (.i 5))]))) (.call 6 0 [(.call 3 1 [(.call 3 3 [(.call 0 0 [(.lit (.i 10))]), (.call 2 0 [(.lit (.s ⟨#[102]⟩)), (.row [(.call 2 0 [(.lit (.s ⟨#[103]⟩)), (.row [(.call 1 0 [(.lit (.i 0))])])]), (.call 1 0 [(.lit (.i 0))])])]), (.lit (.r []))]), (.call 1 0 [(.lit (.i 1))]), (.call 3 1 [(.call 0 0 [(.lit (.i 10))]), (.call 2 0 [(.lit (.s ⟨#[102]⟩)), (.row [(.call 2 0 [(.lit (.s ⟨#[103]⟩)), (.row [(.call 1 0 [(.lit (.i 0))])])]), (.call 1 0 [(.lit (.i 0))])])]), (.lit (.r []))])]), (.row [(.mk [(.lit (.i 0)), (.call 5 0 [(.lit (.i 4))])]), (.mk [(.lit (.i 1)), (.call 5 0 [(.lit (.i 5))])])])])) (.eq (.call 7 1 [(.call 3 3 [(.call 3 3 [(.call 0 0 [(.lit (.i 10))]), (.call 2 0 [(.lit (.s ⟨#[102]⟩)), (.row [(.call 2 0 [(.lit (.s ⟨#[103]⟩)), (.row [(.call 1 0 [(.lit (.i 0))])])]), (.call 1 0 [(.lit (.i 0))])])]), (.lit (.r []))]), (.call 1 0 [(.lit (.i 1))]), (.call 3 1 [(.call 0 0 [(.lit (.i 10))]), (.call 2 0 [(.lit (.s ⟨#[102]⟩)), (.row [(.call 2 0 [(.lit (.s ⟨#[103]⟩)), (.row [(.call 1 0 [(.lit (.i 0))])])]), (.call 1 0 [(.lit (.i 0))])])]), (.lit (.r []))])]), (.call 4 0 [(.lit (.i 0))])]) (.lit (.i 0)))) (.call 8 0 [(.call 7 0 [(.call 3 3 [(.call 3 3 [(.call 0 0 [(.lit (.i 10))]), (.call 2 0 [(.lit (.s ⟨#[102]⟩)), (.row [(.call 2 0 [(.lit (.s ⟨#[103]⟩)), (.row [(.call 1 0 [(.lit (.i 0))])])]), (.call 1 0 [(.lit (.i 0))])])]), (.lit (.r []))]), (.call 1 0 [(.lit (.i 1))]), (.call 3 1 [(.call 0 0 [(.lit (.i 10))]), (.call 2 0 [(.lit (.s ⟨#[102]⟩)), (.row [(.call 2 0 [(.lit (.s ⟨#[103]⟩)), (.row [(.call 1 0 [(.lit (.i 0))])])]), (.call 1 0 [(.lit (.i 0))])])]), (.lit (.r []))])]), (.call 4 0 [(.lit (.i 0))])]), (.call 2 0 [(.lit (.s ⟨#[102]⟩)), (.row [(.call 2 0 [(.lit (.s ⟨#[103]⟩)), (.row [(.call 1 0 [(.lit (.i 4))])])]), (.call 1 0 [(.lit (.i 4))])])])])) (.ok 5 [(.lit (.i 2))])), (.imp (.and (.and (.and (.eq (.call 3 2 [(.call 3 3 [(.call 0 0 [(.lit (.i 10))]), (.call 2 0 [(.lit (.s ⟨#[102]⟩)), (.row [(.call 2 0 [(.lit (.s ⟨#[103]⟩)), (.row [(.call 1 0 [(.lit (.i 0))])])]), (.call 1 0 [(.lit (.i 0))])])]), (.lit (.r []))]), (.call 1 0 [(.lit (.i 1))]), (.call 3 1 [(.call 0 0 [(.lit (.i 10))]), (.call 2 0 [(.lit (.s ⟨#[102]⟩)), (.row [(.call 2 0 [(.lit (.s ⟨#[103]⟩)), (.row [(.call 1 0 [(.lit (.i 0))])])]), (.call 1 0 [(.lit (.i 0))])])]), (.lit (.r []))])]) (.lit (.i 0))) (.eq (.call 3 0 [(.call 3 3 [(.call 0 0 [(.lit (.i 10))]), (.call 2 0 [(.lit (.s ⟨#[102]⟩)), (.row [(.call 2 0 [(.lit (.s ⟨#[103]⟩)), (.row [(.call 1 0 [(.lit (.i 0))])])]), (.call 1 0 [(.lit (.i 0))])])]), (.lit (.r []))]), (.call 1 0 [(.lit (.i 1))]), (.call 3 1 [(.call 0 0 [(.lit (.i 10))]), (.call 2 0 [(.lit (.s ⟨#[102]⟩)), (.row [(.call 2 0 [(.lit (.s ⟨#[103]⟩)), (.row [(.call 1 0 [(.lit (.i 0))])])]), (.call 1 0 [(.lit (.i 0))])])]), (.lit (.r []))])]) (.call 5 0 [(.lit (.i 5))]))) (.call 6 0 [(.call 3 1 [(.call 3 3 [(.call 0 0 [(.lit (.i 10))]), (.call 2 0 [(.lit (.s ⟨#[102]⟩)), (.row [(.call 2 0 [(.lit (.s ⟨#[103]⟩)), (.row [(.call 1 0 [(.lit (.i 0))])])]), (.call 1 0 [(.lit (.i 0))])])]), (.lit (.r []))]), (.call 1 0 [(.lit (.i 1))]), (.call 3 1 [(.call 0 0 [(.lit (.i 10))]), (.call 2 0 [(.lit (.s ⟨#[102]⟩)), (.row [(.call 2 0 [(.lit (.s ⟨#[103]⟩)), (.row [(.call 1 0 [(.lit (.i 0))])])]), (.call 1 0 [(.lit (.i 0))])])]), (.lit (.r []))])]), (.row [(.mk [(.lit (.i 0)), (.call 5 0 [(.lit (.i 4))])]), (.mk [(.lit (.i 1)), (.call 5 0 [(.lit (.i 5))])])])])) (.eq (.call 7 1 [(.call 3 3 [(.call 3 3 [(.call 0 0 [(.lit (.i 10))]), (.call 2 0 [(.lit (.s ⟨#[102]⟩)), (.row [(.call 2 0 [(.lit (.s ⟨#[103]⟩)), (.row [(.call 1 0 [(.lit (.i 0))])])]), (.call 1 0 [(.lit (.i 0))])])]), (.lit (.r []))]), (.call 1 0 [(.lit (.i 1))]), (.call 3 1 [(.call 0 0 [(.lit (.i 10))]), (.call 2 0 [(.lit (.s ⟨#[102]⟩)), (.row [(.call 2 0 [(.lit (.s ⟨#[103]⟩)), (.row [(.call 1 0 [(.lit (.i 0))])])]), (.call 1 0 [(.lit (.i 0))])])]), (.lit (.r []))])]), (.call 4 0 [(.lit (.i 0))])]) (.lit (.i 0)))) (.ok 8 [(.call 7 0 [(.call 3 3 [(.call 3 3 [(.call 0 0 [(.lit (.i 10))]), (.call 2 0 [(.lit (.s ⟨#[102]⟩)), (.row [(.call 2 0 [(.lit (.s ⟨#[103]⟩)), (.row [(.call 1 0 [(.lit (.i 0))])])]), (.call 1 0 [(.lit (.i 0))])])]), (.lit (.r []))]), (.call 1 0 [(.lit (.i 1))]), (.call 3 1 [(.call 0 0 [(.lit (.i 10))]), (.call 2 0 [(.lit (.s ⟨#[102]⟩)), (.row [(.call 2 0 [(.lit (.s ⟨#[103]⟩)), (.row [(.call 1 0 [(.lit (.i 0))])])]), (.call 1 0 [(.lit (.i 0))])])]), (.lit (.r []))])]), (.call 4 0 [(.lit (.i 0))])]), (.call 2 0 [(.lit (.s ⟨#[102]⟩)), (.row [(.call 2 0 [(.lit (.s ⟨#[103]⟩)), (.row [(.call 1 0 [(.lit (.i 4))])])]), (.call 1 0 [(.lit (.i 4))])])])])), (.imp (.and (.and (.and (.eq (.call 3 2 [(.call 3 3 [(.call 0 0 [(.lit (.i 10))]), (.call 2 0 [(.lit (.s ⟨#[102]⟩)), (.row [(.call 2 0 [(.lit (.s ⟨#[103]⟩)), (.row [(.call 1 0 [(.lit (.i 0))])])]), (.call 1 0 [(.lit (.i 0))])])]), (.lit (.r []))]), (.call 1 0 [(.lit (.i 1))]), (.call 3 1 [(.call 0 0 [(.lit (.i 10))]), (.call 2 0 [(.lit (.s ⟨#[102]⟩)), (.row [(.call 2 0 [(.lit (.s ⟨#[103]⟩)), (.row [(.call 1 0 [(.lit (.i 0))])])]), (.call 1 0 [(.lit (.i 0))])])]), (.lit (.r []))])]) (.lit (.i 0))) (.eq (.call 3 0 [(.call 3 3 [(.call 0 0 [(.lit (.i 10))]), (.call 2 0 [(.lit (.s ⟨#[102]⟩)), (.row [(.call 2 0 [(.lit (.s ⟨#[103]⟩)), (.row [(.call 1 0 [(.lit (.i 0))])])]), (.call 1 0 [(.lit (.i 0))])])]), (.lit (.r []))]), (.call 1 0 [(.lit (.i 1))]), (.call 3 1 [(.call 0 0 [(.lit (.i 10))]), (.call 2 0 [(.lit (.s ⟨#[102]⟩)), (.row [(.call 2 0 [(.lit (.s ⟨#[103]⟩)), (.row [(.call 1 0 [(.lit (.i 0))])])]), (.call 1 0 [(.lit (.i 0))])])]), (.lit (.r []))])]) (.call 5 0 [(.lit (.i 5))]))) (.call 6 0 [(.call 3 1 [(.call 3 3 [(.call 0 0 [(.lit (.i 10))]), (.call 2 0 [(.lit (.s ⟨#[102]⟩)), (.row [(.call 2 0 [(.lit (.s ⟨#[103]⟩)), (.row [(.call 1 0 [(.lit (.i 0))])])]), (.call 1 0 [(.lit (.i 0))])])]), (.lit (.r []))]), (.call 1 0 [(.lit (.i 1))]), (.call 3 1 [(.call 0 0 [(.lit (.i 10))]), (.call 2 0 [(.lit (.s ⟨#[102]⟩)), (.row [(.call 2 0 [(.lit (.s ⟨#[103]⟩)), (.row [(.call 1 0 [(.lit (.i 0))])])]), (.call 1 0 [(.lit (.i 0))])])]), (.lit (.r []))])]), (.row [(.mk [(.lit (.i 0)), (.call 5 0 [(.lit (.i 4))])]), (.mk [(.lit (.i 1)), (.call 5 0 [(.lit (.i 5))])])])])) (.eq (.call 7 1 [(.call 3 3 [(.call 3 3 [(.call 0 0 [(.lit (.i 10))]), (.call 2 0 [(.lit (.s ⟨#[102]⟩)), (.row [(.call 2 0 [(.lit (.s ⟨#[103]⟩)), (.row [(.call 1 0 [(.lit (.i 0))])])]), (.call 1 0 [(.lit (.i 0))])])]), (.lit (.r []))]), (.call 1 0 [(.lit (.i 1))]), (.call 3 1 [(.call 0 0 [(.lit (.i 10))]), (.call 2 0 [(.lit (.s ⟨#[102]⟩)), (.row [(.call 2 0 [(.lit (.s ⟨#[103]⟩)), (.row [(.call 1 0 [(.lit (.i 0))])])]), (.call 1 0 [(.lit (.i 0))])])]), (.lit (.r []))])]), (.call 4 0 [(.lit (.i 0))])]) (.lit (.i 0)))) (.ok 2 [(.lit (.s ⟨#[102]⟩)), (.row [(.call 2 0 [(.lit (.s ⟨#[103]⟩)), (.row [(.call 1 0 [(.lit (.i 4))])])]), (.call 1 0 [(.lit (.i 4))])])])), (.imp (.and (.and (.and (.eq (.call 3 2 [(.call 3 3 [(.call 0 0 [(.lit (.i 10))]), (.call 2 0 [(.lit (.s ⟨#[102]⟩)), (.row [(.call 2 0 [(.lit (.s ⟨#[103]⟩)), (.row [(.call 1 0 [(.lit (.i 0))])])]), (.call 1 0 [(.lit (.i 0))])])]), (.lit (.r []))]), (.call 1 0 [(.lit (.i 1))]), (.call 3 1 [(.call 0 0 [(.lit (.i 10))]), (.call 2 0 [(.lit (.s ⟨#[102]⟩)), (.row [(.call 2 0 [(.lit (.s ⟨#[103]⟩)), (.row [(.call 1 0 [(.lit (.i 0))])])]), (.call 1 0 [(.lit (.i 0))])])]), (.lit (.r []))])]) (.lit (.i 0))) (.eq (.call 3 0 [(.call 3 3 [(.call 0 0 [(.lit (.i 10))]), (.call 2 0 [(.lit (.s ⟨#[102]⟩)), (.row [(.call 2 0 [(.lit (.s ⟨#[103]⟩)), (.row [(.call 1 0 [(.lit (.i 0))])])]), (.call 1 0 [(.lit (.i 0))])])]), (.lit (.r []))]), (.call 1 0 [(.lit (.i 1))]), (.call 3 1 [(.call 0 0 [(.lit (.i 10))]), (.call 2 0 [(.lit (.s ⟨#[102]⟩)), (.row [(.call 2 0 [(.lit (.s ⟨#[103]⟩)), (.row [(.call 1 0 [(.lit (.i 0))])])]), (.call 1 0 [(.lit (.i 0))])])]), (.lit (.r []))])]) (.call 5 0 [(.lit (.i 5))]))) (.call 6 0 [(.call 3 1 [(.call 3 3 [(.call 0 0 [(.lit (.i 10))]), (.call 2 0 [(.lit (.s ⟨#[102]⟩)), (.row [(.call 2 0 [(.lit (.s ⟨#[103]⟩)), (.row [(.call 1 0 [(.lit (.i 0))])])]), (.call 1 0 [(.lit (.i 0))])])]), (.lit (.r []))]), (.call 1 0 [(.lit (.i 1))]), (.call 3 1 [(.call 0 0 [(.lit (.i 10))]), (.call 2 0 [(.lit (.s ⟨#[102]⟩)), (.row [(.call 2 0 [(.lit (.s ⟨#[103]⟩)), (.row [(.call 1 0 [(.lit (.i 0))])])]), (.call 1 0 [(.lit (.i 0))])])]), (.lit (.r []))])]), (.row [(.mk [(.lit (.i 0)), (.call 5 0 [(.lit (.i 4))])]), (.mk [(.lit (.i 1)), (.call 5 0 [(.lit (.i 5))])])])])) (.eq (.call 7 1 [(.call 3 3 [(.call 3 3 [(.call 0 0 [(.lit (.i 10))]), (.call 2 0 [(.lit (.s ⟨#[102]⟩)), (.row [(.call 2 0 [(.lit (.s ⟨#[103]⟩)), (.row [(.call 1 0 [(.lit (.i 0))])])]), (.call 1 0 [(.lit (.i 0))])])]), (.lit (.r []))]), (.call 1 0 [(.lit (.i 1))]), (.call 3 1 [(.call 0 0 [(.lit (.i 10))]), (.call 2 0 [(.lit (.s ⟨#[102]⟩)), (.row [(.call 2 0 [(.lit (.s ⟨#[103]⟩)), (.row [(.call 1 0 [(.lit (.i 0))])])]), (.call 1 0 [(.lit (.i 0))])])]), (.lit (.r []))])]), (.call 4 0 [(.lit (.i 0))])]) (.lit (.i 0)))) (.ok 1 [(.lit (.i 4))])), (.imp (.and (.and (.and (.eq (.call 3 2 [(.call 3 3 [(.call 0 0 [(.lit (.i 10))]), (.call 2 0 [(.lit (.s ⟨#[102]⟩)), (.row [(.call 2 0 [(.lit (.s ⟨#[103]⟩)), (.row [(.call 1 0 [(.lit (.i 0))])])]), (.call 1 0 [(.lit (.i 0))])])]), (.lit (.r []))]), (.call 1 0 [(.lit (.i 1))]), (.call 3 1 [(.call 0 0 [(.lit (.i 10))]), (.call 2 0 [(.lit (.s ⟨#[102]⟩)), (.row [(.call 2 0 [(.lit (.s ⟨#[103]⟩)), (.row [(.call 1 0 [(.lit (.i 0))])])]), (.call 1 0 [(.lit (.i 0))])])]), (.lit (.r []))])]) (.lit (.i 0))) (.eq (.call 3 0 [(.call 3 3 [(.call 0 0 [(.lit (.i 10))]), (.call 2 0 [(.lit (.s ⟨#[102]⟩)), (.row [(.call 2 0 [(.lit (.s ⟨#[103]⟩)), (.row [(.call 1 0 [(.lit (.i 0))])])]), (.call 1 0 [(.lit (.i 0))])])]), (.lit (.r []))]), (.call 1 0 [(.lit (.i 1))]), (.call 3 1 [(.call 0 0 [(.lit (.i 10))]), (.call 2 0 [(.lit (.s ⟨#[102]⟩)), (.row [(.call 2 0 [(.lit (.s ⟨#[103]⟩)), (.row [(.call 1 0 [(.lit (.i 0))])])]), (.call 1 0 [(.lit (.i 0))])])]), (.lit (.r []))])]) (.call 5 0 [(.lit (.i 5))]))) (.call 6 0 [(.call 3 1 [(.call 3 3 [(.call 0 0 [(.lit (.i 10))]), (.call 2 0 [(.lit (.s ⟨#[102]⟩)), (.row [(.call 2 0 [(.lit (.s ⟨#[103]⟩)), (.row [(.call 1 0 [(.lit (.i 0))])])]), (.call 1 0 [(.lit (.i 0))])])]), (.lit (.r []))]), (.call 1 0 [(.lit (.i 1))]), (.call 3 1 [(.call 0 0 [(.lit (.i 10))]), (.call 2 0 [(.lit (.s ⟨#[102]⟩)), (.row [(.call 2 0 [(.lit (.s ⟨#[103]⟩)), (.row [(.call 1 0 [(.lit (.i 0))])])]), (.call 1 0 [(.lit (.i 0))])])]), (.lit (.r []))])]), (.row [(.mk [(.lit (.i 0)), (.call 5 0 [(.lit (.i 4))])]), (.mk [(.lit (.i 1)), (.call 5 0 [(.lit (.i 5))])])])])) (.eq (.call 7 1 [(.call 3 3 [(.call 3 3 [(.call 0 0 [(.lit (.i 10))]), (.call 2 0 [(.lit (.s ⟨#[102]⟩)), (.row [(.call 2 0 [(.lit (.s ⟨#[103]⟩)), (.row [(.call 1 0 [(.lit (.i 0))])])]), (.call 1 0 [(.lit (.i 0))])])]), (.lit (.r []))]), (.call 1 0 [(.lit (.i 1))]), (.call 3 1 [(.call 0 0 [(.lit (.i 10))]), (.call 2 0 [(.lit (.s ⟨#[102]⟩)), (.row [(.call 2 0 [(.lit (.s ⟨#[103]⟩)), (.row [(.call 1 0 [(.lit (.i 0))])])]), (.call 1 0 [(.lit (.i 0))])])]), (.lit (.r []))])]), (.call 4 0 [(.lit (.i 0))])]) (.lit (.i 0)))) (.ok 2 [(.lit (.s ⟨#[103]⟩)), (.row [(.call 1 0 [(.lit (.i 4))])])])), (.imp (.and (.and (.and (.eq (.call 3 2 [(.call 3 3 [(.call 0 0 [(.lit (.i 10))]), (.call 2 0 [(.lit (.s ⟨#[102]⟩)), (.row [(.call 2 0 [(.lit (.s ⟨#[103]⟩)), (.row [(.call 1 0 [(.lit (.i 0))])])]), (.call 1 0 [(.lit (.i 0))])])]), (.lit (.r []))]), (.call 1 0 [(.lit (.i 1))]), (.call 3 1 [(.call 0 0 [(.lit (.i 10))]), (.call 2 0 [(.lit (.s ⟨#[102]⟩)), (.row [(.call 2 0 [(.lit (.s ⟨#[103]⟩)), (.row [(.call 1 0 [(.lit (.i 0))])])]), (.call 1 0 [(.lit (.i 0))])])]), (.lit (.r []))])]) (.lit (.i 0))) (.eq (.call 3 0 [(.call 3 3 [(.call 0 0 [(.lit (.i 10))]), (.call 2 0 [(.lit (.s ⟨#[102]⟩)), (.row [(.call 2 0 [(.lit (.s ⟨#[103]⟩)), (.row [(.call 1 0 [(.lit (.i 0))])])]), (.call 1 0 [(.lit (.i 0))])])]), (.lit (.r []))]), (.call 1 0 [(.lit (.i 1))]), (.call 3 1 [(.call 0 0 [(.lit (.i 10))]), (.call 2 0 [(.lit (.s ⟨#[102]⟩)), (.row [(.call 2 0 [(.lit (.s ⟨#[103]⟩)), (.row [(.call 1 0 [(.lit (.i 0))])])]), (.call 1 0 [(.lit (.i 0))])])]), (.lit (.r []))])]) (.call 5 0 [(.lit (.i 5))]))) (.call 6 0 [(.call 3 1 [(.call 3 3 [(.call 0 0 [(.lit (.i 10))]), (.call 2 0 [(.lit (.s ⟨#[102]⟩)), (.row [(.call 2 0 [(.lit (.s ⟨#[103]⟩)), (.row [(.call 1 0 [(.lit (.i 0))])])]), (.call 1 0 [(.lit (.i 0))])])]), (.lit (.r []))]), (.call 1 0 [(.lit (.i 1))]), (.call 3 1 [(.call 0 0 [(.lit (.i 10))]), (.call 2 0 [(.lit (.s ⟨#[102]⟩)), (.row [(.call 2 0 [(.lit (.s ⟨#[103]⟩)), (.row [(.call 1 0 [(.lit (.i 0))])])]), (.call 1 0 [(.lit (.i 0))])])]), (.lit (.r []))])]), (.row [(.mk [(.lit (.i 0)), (.call 5 0 [(.lit (.i 4))])]), (.mk [(.lit (.i 1)), (.call 5 0 [(.lit (.i 5))])])])])) (.eq (.call 7 1 [(.call 3 3 [(.call 3 3 [(.call 0 0 [(.lit (.i 10))]), (.call 2 0 [(.lit (.s ⟨#[102]⟩)), (.row [(.call 2 0 [(.lit (.s ⟨#[103]⟩)), (.row [(.call 1 0 [(.lit (.i 0))])])]), (.call 1 0 [(.lit (.i 0))])])]), (.lit (.r []))]), (.call 1 0 [(.lit (.i 1))]), (.call 3 1 [(.call 0 0 [(.lit (.i 10))]), (.call 2 0 [(.lit (.s ⟨#[102]⟩)), (.row [(.call 2 0 [(.lit (.s ⟨#[103]⟩)), (.row [(.call 1 0 [(.lit (.i 0))])])]), (.call 1 0 [(.lit (.i 0))])])]), (.lit (.r []))])]), (.call 4 0 [(.lit (.i 0))])]) (.lit (.i 0)))) (.ok 1 [(.lit (.i 4))])), (.imp (.and (.eq (.call 3 2 [(.call 3 3 [(.call 0 0 [(.lit (.i 10))]), (.call 2 0 [(.lit (.s ⟨#[102]⟩)), (.row [(.call 2 0 [(.lit (.s ⟨#[103]⟩)), (.row [(.call 1 0 [(.lit (.i 0))])])]), (.call 1 0 [(.lit (.i 0))])])]), (.lit (.r []))]), (.call 1 0 [(.lit (.i 1))]), (.call 3 1 [(.call 0 0 [(.lit (.i 10))]), (.call 2 0 [(.lit (.s ⟨#[102]⟩)), (.row [(.call 2 0 [(.lit (.s ⟨#[103]⟩)), (.row [(.call 1 0 [(.lit (.i 0))])])]), (.call 1 0 [(.lit (.i 0))])])]), (.lit (.r []))])]) (.lit (.i 0))) (.eq (.call 3 0 [(.call 3 3 [(.call 0 0 [(.lit (.i 10))]), (.call 2 0 [(.lit (.s ⟨#[102]⟩)), (.row [(.call 2 0 [(.lit (.s ⟨#[103]⟩)), (.row [(.call 1 0 [(.lit (.i 0))])])]), (.call 1 0 [(.lit (.i 0))])])]), (.lit (.r []))]), (.call 1 0 [(.lit (.i 1))]), (.call 3 1 [(.call 0 0 [(.lit (.i 10))]), (.call 2 0 [(.lit (.s ⟨#[102]⟩)), (.row [(.call 2 0 [(.lit (.s ⟨#[103]⟩)), (.row [(.call 1 0 [(.lit (.i 0))])])]), (.call 1 0 [(.lit (.i 0))])])]), (.lit (.r []))])]) (.call 5 0 [(.lit (.i 5))]))) (.ok 6 [(.call 3 1 [(.call 3 3 [(.call 0 0 [(.lit (.i 10))]), (.call 2 0 [(.lit (.s ⟨#[102]⟩)), (.row [(.call 2 0 [(.lit (.s ⟨#[103]⟩)), (.row [(.call 1 0 [(.lit (.i 0))])])]), (.call 1 0 [(.lit (.i 0))])])]), (.lit (.r []))]), (.call 1 0 [(.lit (.i 1))]), (.call 3 1 [(.call 0 0 [(.lit (.i 10))]), (.call 2 0 [(.lit (.s ⟨#[102]⟩)), (.row [(.call 2 0 [(.lit (.s ⟨#[103]⟩)), (.row [(.call 1 0 [(.lit (.i 0))])])]), (.call 1 0 [(.lit (.i 0))])])]), (.lit (.r []))])]), (.row [(.mk [(.lit (.i 0)), (.call 5 0 [(.lit (.i 4))])]), (.mk [(.lit (.i 1)), (.call 5 0 [(.lit (.i 5))])])])])), (.imp (.and (.eq (.call 3 2 [(.call 3 3 [(.call 0 0 [(.lit (.i 10))]), (.call 2 0 [(.lit (.s ⟨#[102]⟩)), (.row [(.call 2 0 [(.lit (.s ⟨#[103]⟩)), (.row [(.call 1 0 [(.lit (.i 0))])])]), (.call 1 0 [(.lit (.i 0))])])]), (.lit (.r []))]), (.call 1 0 [(.lit (.i 1))]), (.call 3 1 [(.call 0 0 [(.lit (.i 10))]), (.call 2 0 [(.lit (.s ⟨#[102]⟩)), (.row [(.call 2 0 [(.lit (.s ⟨#[103]⟩)), (.row [(.call 1 0 [(.lit (.i 0))])])]), (.call 1 0 [(.lit (.i 0))])])]), (.lit (.r []))])]) (.lit (.i 0))) (.eq (.call 3 0 [(.call 3 3 [(.call 0 0 [(.lit (.i 10))]), (.call 2 0 [(.lit (.s ⟨#[102]⟩)), (.row [(.call 2 0 [(.lit (.s ⟨#[103]⟩)), (.row [(.call 1 0 [(.lit (.i 0))])])]), (.call 1 0 [(.lit (.i 0))])])]), (.lit (.r []))]), (.call 1 0 [(.lit (.i 1))]), (.call 3 1 [(.call 0 0 [(.lit (.i 10))]), (.call 2 0 [(.lit (.s ⟨#[102]⟩)), (.row [(.call 2 0 [(.lit (.s ⟨#[103]⟩)), (.row [(.call 1 0 [(.lit (.i 0))])])]), (.call 1 0 [(.lit (.i 0))])])]), (.lit (.r []))])]) (.call 5 0 [(.lit (.i 5))]))) (.ok 5 [(.lit (.i 5))])), (.imp (.and (.eq (.call 3 2 [(.call 3 3 [(.call 0 0 [(.lit (.i 10))]), (.call 2 0 [(.lit (.s ⟨#[102]⟩)), (.row [(.call 2 0 [(.lit (.s ⟨#[103]⟩)), (.row [(.call 1 0 [(.lit (.i 0))])])]), (.call 1 0 [(.lit (.i 0))])])]), (.lit (.r []))]), (.call 1 0 [(.lit (.i 1))]), (.call 3 1 [(.call 0 0 [(.lit (.i 10))]), (.call 2 0 [(.lit (.s ⟨#[102]⟩)), (.row [(.call 2 0 [(.lit (.s ⟨#[103]⟩)), (.row [(.call 1 0 [(.lit (.i 0))])])]), (.call 1 0 [(.lit (.i 0))])])]), (.lit (.r []))])]) (.lit (.i 0))) (.eq (.call 3 0 [(.call 3 3 [(.call 0 0 [(.lit (.i 10))]), (.call 2 0 [(.lit (.s ⟨#[102]⟩)), (.row [(.call 2 0 [(.lit (.s ⟨#[103]⟩)), (.row [(.call 1 0 [(.lit (.i 0))])])]), (.call 1 0 [(.lit (.i 0))])])]), (.lit (.r []))]), (.call 1 0 [(.lit (.i 1))]), (.call 3 1 [(.call 0 0 [(.lit (.i 10))]), (.call 2 0 [(.lit (.s ⟨#[102]⟩)), (.row [(.call 2 0 [(.lit (.s ⟨#[103]⟩)), (.row [(.call 1 0 [(.lit (.i 0))])])]), (.call 1 0 [(.lit (.i 0))])])]), (.lit (.r []))])]) (.call 5 0 [(.lit (.i 5))]))) (.ok 5 [(.lit (.i 5))])), (.imp (.and (.eq (.call 3 2 [(.call 3 3 [(.call 0 0 [(.lit (.i 10))]), (.call 2 0 [(.lit (.s ⟨#[102]⟩)), (.row [(.call 2 0 [(.lit (.s ⟨#[103]⟩)), (.row [(.call 1 0 [(.lit (.i 0))])])]), (.call 1 0 [(.lit (.i 0))])])]), (.lit (.r []))]), (.call 1 0 [(.lit (.i 1))]), (.call 3 1 [(.call 0 0 [(.lit (.i 10))]), (.call 2 0 [(.lit (.s ⟨#[102]⟩)), (.row [(.call 2 0 [(.lit (.s ⟨#[103]⟩)), (.row [(.call 1 0 [(.lit (.i 0))])])]), (.call 1 0 [(.lit (.i 0))])])]), (.lit (.r []))])]) (.lit (.i 0))) (.eq (.call 3 0 [(.call 3 3 [(.call 0 0 [(.lit (.i 10))]), (.call 2 0 [(.lit (.s ⟨#[102]⟩)), (.row [(.call 2 0 [(.lit (.s ⟨#[103]⟩)), (.row [(.call 1 0 [(.lit (.i 0))])])]), (.call 1 0 [(.lit (.i 0))])])]), (.lit (.r []))]), (.call 1 0 [(.lit (.i 1))]), (.call 3 1 [(.call 0 0 [(.lit (.i 10))]), (.call 2 0 [(.lit (.s ⟨#[102]⟩)), (.row [(.call 2 0 [(.lit (.s ⟨#[103]⟩)), (.row [(.call 1 0 [(.lit (.i 0))])])]), (.call 1 0 [(.lit (.i 0))])])]), (.lit (.r []))])]) (.call 5 0 [(.lit (.i 5))]))) (.ok 5 [(.lit (.i 4))])), (.imp (.eq (.call 3 2 [(.call 3 3 [(.call 0 0 [(.lit (.i 10))]), (.call 2 0 [(.lit (.s ⟨#[102]⟩)), (.row [(.call 2 0 [(.lit (.s ⟨#[103]⟩)), (.row [(.call 1 0 [(.lit (.i 0))])])]), (.call 1 0 [(.lit (.i 0))])])]), (.lit (.r []))]), (.call 1 0 [(.lit (.i 1))]), (.call 3 1 [(.call 0 0 [(.lit (.i 10))]), (.call 2 0 [(.lit (.s ⟨#[102]⟩)), (.row [(.call 2 0 [(.lit (.s ⟨#[103]⟩)), (.row [(.call 1 0 [(.lit (.i 0))])])]), (.call 1 0 [(.lit (.i 0))])])]), (.lit (.r []))])]) (.lit (.i 0))) (.ok 5 [(.lit (.i 5))]))] (.leaf [(.and (.and (.and (.and (.and (.and (.and (.eq (.call 3 2 [(.call 3 3 [(.call 0 0 [(.lit (.i 10))]), (.call 2 0 [(.lit (.s ⟨#[102]⟩)), (.row [(.call 2 0 [(.lit (.s ⟨#[103]⟩)), (.row [(.call 1 0 [(.lit (.i 0))])])]), (.call 1 0 [(.lit (.i 0))])])]), (.lit (.r []))]), (.call 1 0 [(.lit (.i 1))]), (.call 3 1 [(.call 0 0 [(.lit (.i 10))]), (.call 2 0 [(.lit (.s ⟨#[102]⟩)), (.row [(.call 2 0 [(.lit (.s ⟨#[103]⟩)), (.row [(.call 1 0 [(.lit (.i 0))])])]), (.call 1 0 [(.lit (.i 0))])])]), (.lit (.r []))])]) (.lit (.i 0))) (.eq (.call 3 0 [(.call 3 3 [(.call 0 0 [(.lit (.i 10))]), (.call 2 0 [(.lit (.s ⟨#[102]⟩)), (.row [(.call 2 0 [(.lit (.s ⟨#[103]⟩)), (.row [(.call 1 0 [(.lit (.i 0))])])]), (.call 1 0 [(.lit (.i 0))])])]), (.lit (.r []))]), (.call 1 0 [(.lit (.i 1))]), (.call 3 1 [(.call 0 0 [(.lit (.i 10))]), (.call 2 0 [(.lit (.s ⟨#[102]⟩)), (.row [(.call 2 0 [(.lit (.s ⟨#[103]⟩)), (.row [(.call 1 0 [(.lit (.i 0))])])]), (.call 1 0 [(.lit (.i 0))])])]), (.lit (.r []))])]) (.call 5 0 [(.lit (.i 5))]))) (.call 6 0 [(.call 3 1 [(.call 3 3 [(.call 0 0 [(.lit (.i 10))]), (.call 2 0 [(.lit (.s ⟨#[102]⟩)), (.row [(.call 2 0 [(.lit (.s ⟨#[103]⟩)), (.row [(.call 1 0 [(.lit (.i 0))])])]), (.call 1 0 [(.lit (.i 0))])])]), (.lit (.r []))]), (.call 1 0 [(.lit (.i 1))]), (.call 3 1 [(.call 0 0 [(.lit (.i 10))]), (.call 2 0 [(.lit (.s ⟨#[102]⟩)), (.row [(.call 2 0 [(.lit (.s ⟨#[103]⟩)), (.row [(.call 1 0 [(.lit (.i 0))])])]), (.call 1 0 [(.lit (.i 0))])])]), (.lit (.r []))])]), (.row [(.mk [(.lit (.i 0)), (.call 5 0 [(.lit (.i 4))])]), (.mk [(.lit (.i 1)), (.call 5 0 [(.lit (.i 5))])])])])) (.eq (.call 7 1 [(.call 3 3 [(.call 3 3 [(.call 0 0 [(.lit (.i 10))]), (.call 2 0 [(.lit (.s ⟨#[102]⟩)), (.row [(.call 2 0 [(.lit (.s ⟨#[103]⟩)), (.row [(.call 1 0 [(.lit (.i 0))])])]), (.call 1 0 [(.lit (.i 0))])])]), (.lit (.r []))]), (.call 1 0 [(.lit (.i 1))]), (.call 3 1 [(.call 0 0 [(.lit (.i 10))]), (.call 2 0 [(.lit (.s ⟨#[102]⟩)), (.row [(.call 2 0 [(.lit (.s ⟨#[103]⟩)), (.row [(.call 1 0 [(.lit (.i 0))])])]), (.call 1 0 [(.lit (.i 0))])])]), (.lit (.r []))])]), (.call 4 0 [(.lit (.i 0))])]) (.lit (.i 0)))) (.call 8 0 [(.call 7 0 [(.call 3 3 [(.call 3 3 [(.call 0 0 [(.lit (.i 10))]), (.call 2 0 [(.lit (.s ⟨#[102]⟩)), (.row [(.call 2 0 [(.lit (.s ⟨#[103]⟩)), (.row [(.call 1 0 [(.lit (.i 0))])])]), (.call 1 0 [(.lit (.i 0))])])]), (.lit (.r []))]), (.call 1 0 [(.lit (.i 1))]), (.call 3 1 [(.call 0 0 [(.lit (.i 10))]), (.call 2 0 [(.lit (.s ⟨#[102]⟩)), (.row [(.call 2 0 [(.lit (.s ⟨#[103]⟩)), (.row [(.call 1 0 [(.lit (.i 0))])])]), (.call 1 0 [(.lit (.i 0))])])]), (.lit (.r []))])]), (.call 4 0 [(.lit (.i 0))])]), (.call 2 0 [(.lit (.s ⟨#[102]⟩)), (.row [(.call 2 0 [(.lit (.s ⟨#[103]⟩)), (.row [(.call 1 0 [(.lit (.i 4))])])]), (.call 1 0 [(.lit (.i 4))])])])])) (.eq (.call 9 0 [(.call 3 3 [(.call 3 3 [(.call 0 0 [(.lit (.i 10))]), (.call 2 0 [(.lit (.s ⟨#[102]⟩)), (.row [(.call 2 0 [(.lit (.s ⟨#[103]⟩)), (.row [(.call 1 0 [(.lit (.i 0))])])]), (.call 1 0 [(.lit (.i 0))])])]), (.lit (.r []))]), (.call 1 0 [(.lit (.i 1))]), (.call 3 1 [(.call 0 0 [(.lit (.i 10))]), (.call 2 0 [(.lit (.s ⟨#[102]⟩)), (.row [(.call 2 0 [(.lit (.s ⟨#[103]⟩)), (.row [(.call 1 0 [(.lit (.i 0))])])]), (.call 1 0 [(.lit (.i 0))])])]), (.lit (.r []))])]), (.call 5 0 [(.lit (.i 2))])]) (.call 5 0 [(.lit (.i 4))]))) (.eq (.call 9 0 [(.call 3 3 [(.call 3 3 [(.call 0 0 [(.lit (.i 10))]), (.call 2 0 [(.lit (.s ⟨#[102]⟩)), (.row [(.call 2 0 [(.lit (.s ⟨#[103]⟩)), (.row [(.call 1 0 [(.lit (.i 0))])])]), (.call 1 0 [(.lit (.i 0))])])]), (.lit (.r []))]), (.call 1 0 [(.lit (.i 1))]), (.call 3 1 [(.call 0 0 [(.lit (.i 10))]), (.call 2 0 [(.lit (.s ⟨#[102]⟩)), (.row [(.call 2 0 [(.lit (.s ⟨#[103]⟩)), (.row [(.call 1 0 [(.lit (.i 0))])])]), (.call 1 0 [(.lit (.i 0))])])]), (.lit (.r []))])]), (.call 5 0 [(.lit (.i 1))])]) (.call 4 0 [(.lit (.i 3))]))) (.eq (.get (.fld (.call 3 3 [(.call 3 3 [(.call 0 0 [(.lit (.i 10))]), (.call 2 0 [(.lit (.s ⟨#[102]⟩)), (.row [(.call 2 0 [(.lit (.s ⟨#[103]⟩)), (.row [(.call 1 0 [(.lit (.i 0))])])]), (.call 1 0 [(.lit (.i 0))])])]), (.lit (.r []))]), (.call 1 0 [(.lit (.i 1))]), (.call 3 1 [(.call 0 0 [(.lit (.i 10))]), (.call 2 0 [(.lit (.s ⟨#[102]⟩)), (.row [(.call 2 0 [(.lit (.s ⟨#[103]⟩)), (.row [(.call 1 0 [(.lit (.i 0))])])]), (.call 1 0 [(.lit (.i 0))])])]), (.lit (.r []))])]) 1) (.lit (.i 1))) (.mk [(.lit (.s ⟨#[103]⟩)), (.lit (.i 1))])))]))))))))))
set_option maxRecDepth 100000 in
theorem code_law30_awake (g0 g1 g2 g3 g4 g5 g6 g7 g8 g9 : List D → Option (List D)) : ∀ cd, Try.f14.body = some cd → treeOf Try.prog [(q2e, g0), (q2r, g1), (q2p, g2), (q1m, g3), (q2c, g4), (q2d, g5), (q1a, g6), (q1l, g7), (q1d, g8), (q14, g9)] ann_law30_awake q20 Try.f14 cd = tree_law30_awake := by
  intro cd h
  injection h with h
  subst h
  kernel_rfl
theorem fok_law30_awake {g0 g1 g2 g3 g4 g5 g6 g7 g8 g9 : List D → Option (List D)} {g : List D → Option (List D)} (h0 : FOk q2e g0) (h1 : FOk q2r g1) (h2 : FOk q2p g2) (h3 : FOk q1m g3) (h4 : FOk q2c g4) (h5 : FOk q2d g5) (h6 : FOk q1a g6) (h7 : FOk q1l g7) (h8 : FOk q1d g8) (h9 : FOk q14 g9) (h : ∀ ds outs, WfA q20.ars ds → g ds = some outs → tree_law30_awake.go (tblS [(q2e, g0), (q2r, g1), (q2p, g2), (q1m, g3), (q2c, g4), (q2d, g5), (q1a, g6), (q1l, g7), (q1d, g8), (q14, g9)]) (fun o => o = outs) ds fun _ _ => False) : FOk q20 g :=
  q08 ann_law30_awake Try.f14 _ (.cons h0 (.cons h1 (.cons h2 (.cons h3 (.cons h4 (.cons h5 (.cons h6 (.cons h7 (.cons h8 (.cons h9 .nil)))))))))) rfl rfl enter_law30_awake (by decide) fun ds outs hw hg => by rw [code_law30_awake g0 g1 g2 g3 g4 g5 g6 g7 g8 g9 _ rfl]; exact h ds outs hw hg

def q1h : Ct := ⟨49, [.val (.row 72)], [(.bool, false)], [], none⟩
theorem enter_ref30_symbols (args : Array Value) (w : World) : (callFunc q1h.f args).run Try.prog w = .ok (.enter q1h.f args) w := by kernel_rfl
def ann_ref30_symbols : Ann := ⟨[0, 2, 3, 4, 7, 12, 46], [(5, ⟨[(2, .bool, false), (4, .int .i64, false), (3, .map 72 3, false)], [], [9, 10, 11, 12, 15, 16, 17, 18, 19, 20, 21, 22, 23, 24, 25, 26, 27, 28, 29, 30, 31, 32, 33, 34, 35, 36, 37, 38, 39, 40, 41, 42, 43, 44, 45, 46, 47, 48, 49, 50, 51, 13, 14, 8], []⟩)]⟩
def q3z : Tree := (.br (.lt (.lit (.i 1048576)) (.len (.tok 0))) (.leaf [(.lit (.b .false))]) (.loop 5 1 [(.lit (.b .false)), (.lit (.i 0)), (.lit (.mp []))] (.br (.lt (.tok 2) (.len (.tok 0))) (.need [(.le (.lit (.i 0)) (.tok 2)), (.lt (.tok 2) (.len (.tok 0))), (.imp (.not (.lt (.lit (.i 100)) (.slen (.fld (.get (.tok 0) (.tok 2)) 0)))) (.le (.lit (.i 0)) (.tok 2))), (.imp (.not (.lt (.lit (.i 100)) (.slen (.fld (.get (.tok 0) (.tok 2)) 0)))) (.lt (.tok 2) (.len (.tok 0)))), (.imp (.not (.or (.lt (.lit (.i 100)) (.slen (.fld (.get (.tok 0) (.tok 2)) 0))) (.lt (.fld (.get (.tok 0) (.tok 2)) 1) (.lit (.i 0))))) (.le (.lit (.i 0)) (.tok 2))), (.imp (.not (.or (.lt (.lit (.i 100)) (.slen (.fld (.get (.tok 0) (.tok 2)) 0))) (.lt (.fld (.get (.tok 0) (.tok 2)) 1) (.lit (.i 0))))) (.lt (.tok 2) (.len (.tok 0)))), (.imp (.not (.or (.or (.lt (.lit (.i 100)) (.slen (.fld (.get (.tok 0) (.tok 2)) 0))) (.lt (.fld (.get (.tok 0) (.tok 2)) 1) (.lit (.i 0)))) (.lt (.lit (.i 8)) (.fld (.get (.tok 0) (.tok 2)) 1)))) (.le (.lit (.i 0)) (.tok 2))), (.imp (.not (.or (.or (.lt (.lit (.i 100)) (.slen (.fld (.get (.tok 0) (.tok 2)) 0))) (.lt (.fld (.get (.tok 0) (.tok 2)) 1) (.lit (.i 0)))) (.lt (.lit (.i 8)) (.fld (.get (.tok 0) (.tok 2)) 1)))) (.lt (.tok 2) (.len (.tok 0))))] (.br (.or (.or (.or (.lt (.lit (.i 100)) (.slen (.fld (.get (.tok 0) (.tok 2)) 0))) (.lt (.fld (.get (.tok 0) (.tok 2)) 1) (.lit (.i 0)))) (.lt (.lit (.i 8)) (.fld (.get (.tok 0) (.tok 2)) 1))) (.eq (.fn 0 [(.tok 3), (.get (.tok 0) (.tok 2)), (.lit (.i 0))]) (.lit (.i 1)))) (.leaf [(.lit (.b .false))]) (.need [(.le (.lit (.i 0)) (.tok 2)), (.lt (.tok 2) (.len (.tok 0)))] (.need [(.rng .i64 (.add (.tok 2) (.lit (.i 1))))] (.back 5 [(.tok 1), (.add (.tok 2) (.lit (.i 1))), (.fn 2 [(.tok 3), (.get (.tok 0) (.tok 2)), (.lit (.i 1))])]))))) (.leaf [(.lit (.b .true))]))))
set_option maxRecDepth 100000 in
theorem code_ref30_symbols : ∀ cd, Try.f49.body = some cd → treeOf Try.prog [] ann_ref30_symbols q1h Try.f49 cd = q3z := by
  intro cd h
  injection h with h
  subst h
  kernel_rfl
theorem fok_ref30_symbols {g : List D → Option (List D)}  (h : ∀ ds outs, WfA q1h.ars ds → g ds = some outs → q3z.go (tblS []) (fun o => o = outs) ds fun _ _ => False) : FOk q1h g :=
  q08 ann_ref30_symbols Try.f49 _ .nil rfl rfl enter_ref30_symbols (by decide) fun ds outs hw hg => by rw [code_ref30_symbols  _ rfl]; exact h ds outs hw hg

def q19 : Ct := ⟨85, [.val (.st 26), .val (.int .i64)], [(.int .i64, false)], [], none⟩
theorem enter_ref30_arity (args : Array Value) (w : World) : (callFunc q19.f args).run Try.prog w = .ok (.enter q19.f args) w := by kernel_rfl
def ann_ref30_arity : Ann := ⟨[0, 1, 2, 4, 13], []⟩
def q4l : Tree := (.br (.or (.lt (.tok 1) (.lit (.i 0))) (.le (.len (.fld (.tok 0) 1)) (.tok 1))) (.leaf [(.lit (.i (-1)))]) (.need [(.le (.lit (.i 0)) (.tok 1)), (.lt (.tok 1) (.len (.fld (.tok 0) 1)))] (.leaf [(.fld (.get (.fld (.tok 0) 1) (.tok 1)) 1)])))
set_option maxRecDepth 100000 in
theorem code_ref30_arity : ∀ cd, Try.f85.body = some cd → treeOf Try.prog [] ann_ref30_arity q19 Try.f85 cd = q4l := by
  intro cd h
  injection h with h
  subst h
  kernel_rfl
theorem fok_ref30_arity {g : List D → Option (List D)}  (h : ∀ ds outs, WfA q19.ars ds → g ds = some outs → q4l.go (tblS []) (fun o => o = outs) ds fun _ _ => False) : FOk q19 g :=
  q08 ann_ref30_arity Try.f85 _ .nil rfl rfl enter_ref30_arity (by decide) fun ds outs hw hg => by rw [code_ref30_arity  _ rfl]; exact h ds outs hw hg

def q0k : Ct := ⟨71, [.val (.st 26), .val (.int .i64)], [(.bool, false)], [], none⟩
theorem enter_ref30_ranged (args : Array Value) (w : World) : (callFunc q0k.f args).run Try.prog w = .ok (.enter q0k.f args) w := by kernel_rfl
def ann_ref30_ranged : Ann := ⟨[0, 1, 2, 4], []⟩
def q4g : Tree := (.leaf [(.and (.le (.lit (.i 0)) (.tok 1)) (.lt (.tok 1) (.len (.fld (.tok 0) 0))))])
set_option maxRecDepth 100000 in
theorem code_ref30_ranged : ∀ cd, Try.f71.body = some cd → treeOf Try.prog [] ann_ref30_ranged q0k Try.f71 cd = q4g := by
  intro cd h
  injection h with h
  subst h
  kernel_rfl
theorem fok_ref30_ranged {g : List D → Option (List D)}  (h : ∀ ds outs, WfA q0k.ars ds → g ds = some outs → q4g.go (tblS []) (fun o => o = outs) ds fun _ _ => False) : FOk q0k g :=
  q08 ann_ref30_ranged Try.f71 _ .nil rfl rfl enter_ref30_ranged (by decide) fun ds outs hw hg => by rw [code_ref30_ranged  _ rfl]; exact h ds outs hw hg

def q0q : Ct := ⟨84, [.val (.st 26), .val (.int .i64)], [(.int .i64, false)], [], none⟩
theorem enter_ref30_tag (args : Array Value) (w : World) : (callFunc q0q.f args).run Try.prog w = .ok (.enter q0q.f args) w := by kernel_rfl
def ann_ref30_tag : Ann := ⟨[0, 1, 2, 4, 8], []⟩
def q5j : Tree := (.need [(.ok 0 [(.tok 0), (.tok 1)])] (.br (.not (.call 0 0 [(.tok 0), (.tok 1)])) (.leaf [(.lit (.i (-1)))]) (.need [(.le (.lit (.i 0)) (.tok 1)), (.lt (.tok 1) (.len (.fld (.tok 0) 0)))] (.leaf [(.fld (.get (.fld (.tok 0) 0) (.tok 1)) 0)]))))
set_option maxRecDepth 100000 in
theorem code_ref30_tag (g0 : List D → Option (List D)) : ∀ cd, Try.f84.body = some cd → treeOf Try.prog [(q0k, g0)] ann_ref30_tag q0q Try.f84 cd = q5j := by
  intro cd h
  injection h with h
  subst h
  kernel_rfl
theorem fok_ref30_tag {g0 : List D → Option (List D)} {g : List D → Option (List D)} (h0 : FOk q0k g0) (h : ∀ ds outs, WfA q0q.ars ds → g ds = some outs → q5j.go (tblS [(q0k, g0)]) (fun o => o = outs) ds fun _ _ => False) : FOk q0q g :=
  q08 ann_ref30_tag Try.f84 _ (.cons h0 .nil) rfl rfl enter_ref30_tag (by decide) fun ds outs hw hg => by rw [code_ref30_tag g0 _ rfl]; exact h ds outs hw hg

def q0c : Ct := ⟨40, [.val (.st 26), .val (.st 36)], [(.bool, false)], [], none⟩
theorem enter_ref30_ValidCell (args : Array Value) (w : World) : (callFunc q0c.f args).run Try.prog w = .ok (.enter q0c.f args) w := by kernel_rfl
def q56 : Ann := ⟨[0, 1, 2, 3, 4, 6, 7, 20, 22, 29, 36], []⟩
def q3e : Tree := (.br (.eq (.fld (.tok 1) 0) (.lit (.i 0))) (.need [(.ok 0 [(.tok 0), (.fld (.tok 1) 1)]), (.imp (.call 0 0 [(.tok 0), (.fld (.tok 1) 1)]) (.ok 1 [(.tok 0), (.fld (.tok 1) 1)]))] (.leaf [(.and (.call 0 0 [(.tok 0), (.fld (.tok 1) 1)]) (.not (.eq (.call 1 0 [(.tok 0), (.fld (.tok 1) 1)]) (.lit (.i 4)))))])) (.br (.eq (.fld (.tok 1) 0) (.lit (.i 1))) (.leaf [(.lit (.b .true))]) (.br (.eq (.fld (.tok 1) 0) (.lit (.i 2))) (.need [(.ok 2 [(.tok 0), (.fld (.tok 1) 1)])] (.leaf [(.eq (.call 2 0 [(.tok 0), (.fld (.tok 1) 1)]) (.lit (.i 0)))])) (.br (.eq (.fld (.tok 1) 0) (.lit (.i 3))) (.need [(.ok 1 [(.tok 0), (.fld (.tok 1) 1)])] (.leaf [(.eq (.call 1 0 [(.tok 0), (.fld (.tok 1) 1)]) (.lit (.i 4)))])) (.br (.eq (.fld (.tok 1) 0) (.lit (.i 5))) (.need [(.ok 1 [(.tok 0), (.fld (.tok 1) 1)])] (.leaf [(.eq (.call 1 0 [(.tok 0), (.fld (.tok 1) 1)]) (.lit (.i 5)))])) (.leaf [(.lit (.b .false))]))))))
set_option maxRecDepth 100000 in
theorem code_ref30_ValidCell (g0 g1 g2 : List D → Option (List D)) : ∀ cd, Try.f40.body = some cd → treeOf Try.prog [(q0k, g0), (q0q, g1), (q19, g2)] q56 q0c Try.f40 cd = q3e := by
  intro cd h
  injection h with h
  subst h
  kernel_rfl
theorem fok_ref30_ValidCell {g0 g1 g2 : List D → Option (List D)} {g : List D → Option (List D)} (h0 : FOk q0k g0) (h1 : FOk q0q g1) (h2 : FOk q19 g2) (h : ∀ ds outs, WfA q0c.ars ds → g ds = some outs → q3e.go (tblS [(q0k, g0), (q0q, g1), (q19, g2)]) (fun o => o = outs) ds fun _ _ => False) : FOk q0c g :=
  q08 q56 Try.f40 _ (.cons h0 (.cons h1 (.cons h2 .nil))) rfl rfl enter_ref30_ValidCell (by decide) fun ds outs hw hg => by rw [code_ref30_ValidCell g0 g1 g2 _ rfl]; exact h ds outs hw hg

def q27 : Ct := ⟨93, [.val (.st 26), .val (.int .i64)], [(.bool, false)], [], none⟩
theorem enter_ref30_ends (args : Array Value) (w : World) : (callFunc q27.f args).run Try.prog w = .ok (.enter q27.f args) w := by kernel_rfl
def ann_ref30_ends : Ann := ⟨[0, 1, 2, 4, 5, 10, 26], [(2, ⟨[(4, .bool, false), (1, .int .i64, false), (5, .int .i64, false)], [], [6, 7, 8, 9, 10, 13, 14, 15, 16, 17, 18, 19, 20, 21, 22, 23, 24, 25, 26, 27, 28, 29, 30, 31, 32, 11, 12], []⟩)]⟩
def q51 : Tree := (.loop 2 2 [(.lit (.b .false)), (.tok 1), (.lit (.i 0))] (.br (.le (.tok 4) (.len (.fld (.tok 0) 0))) (.need [(.ok 0 [(.tok 0), (.tok 3)]), (.imp (.not (.not (.eq (.call 0 0 [(.tok 0), (.tok 3)]) (.lit (.i 0))))) (.le (.lit (.i 0)) (.tok 3))), (.imp (.not (.not (.eq (.call 0 0 [(.tok 0), (.tok 3)]) (.lit (.i 0))))) (.lt (.tok 3) (.len (.fld (.tok 0) 0))))] (.br (.or (.not (.eq (.call 0 0 [(.tok 0), (.tok 3)]) (.lit (.i 0)))) (.eq (.fld (.get (.fld (.tok 0) 0) (.tok 3)) 1) (.tok 3))) (.leaf [(.lit (.b .true))]) (.need [(.le (.lit (.i 0)) (.tok 3)), (.lt (.tok 3) (.len (.fld (.tok 0) 0)))] (.need [(.rng .i64 (.add (.tok 4) (.lit (.i 1))))] (.back 2 [(.tok 2), (.fld (.get (.fld (.tok 0) 0) (.tok 3)) 1), (.add (.tok 4) (.lit (.i 1)))]))))) (.leaf [(.lit (.b .false))])))
set_option maxRecDepth 100000 in
theorem code_ref30_ends (g0 : List D → Option (List D)) : ∀ cd, Try.f93.body = some cd → treeOf Try.prog [(q0q, g0)] ann_ref30_ends q27 Try.f93 cd = q51 := by
  intro cd h
  injection h with h
  subst h
  kernel_rfl
theorem fok_ref30_ends {g0 : List D → Option (List D)} {g : List D → Option (List D)} (h0 : FOk q0q g0) (h : ∀ ds outs, WfA q27.ars ds → g ds = some outs → q51.go (tblS [(q0q, g0)]) (fun o => o = outs) ds fun _ _ => False) : FOk q27 g :=
  q08 ann_ref30_ends Try.f93 _ (.cons h0 .nil) rfl rfl enter_ref30_ends (by decide) fun ds outs hw hg => by rw [code_ref30_ends g0 _ rfl]; exact h ds outs hw hg

def q1b : Ct := ⟨94, [.val (.st 26), .val (.int .i64)], [(.bool, false)], [], none⟩
theorem enter_ref30_group (args : Array Value) (w : World) : (callFunc q1b.f args).run Try.prog w = .ok (.enter q1b.f args) w := by kernel_rfl
def ann_ref30_group : Ann := ⟨[0, 1, 2, 4, 5], []⟩
def q4r : Tree := (.need [(.rng .i64 (.add (.tok 1) (.lit (.i 2)))), (.ok 0 [(.tok 0), (.add (.tok 1) (.lit (.i 2)))])] (.need [(.imp (.and (.eq (.call 0 0 [(.tok 0), (.add (.tok 1) (.lit (.i 1)))]) (.lit (.i 1))) (.le (.lit (.i 1)) (.fld (.get (.fld (.tok 0) 0) (.add (.tok 1) (.lit (.i 1)))) 1))) (.le (.lit (.i 0)) (.add (.tok 1) (.lit (.i 1))))), (.imp (.and (.eq (.call 0 0 [(.tok 0), (.add (.tok 1) (.lit (.i 1)))]) (.lit (.i 1))) (.le (.lit (.i 1)) (.fld (.get (.fld (.tok 0) 0) (.add (.tok 1) (.lit (.i 1)))) 1))) (.lt (.add (.tok 1) (.lit (.i 1))) (.len (.fld (.tok 0) 0)))), (.imp (.and (.eq (.call 0 0 [(.tok 0), (.add (.tok 1) (.lit (.i 1)))]) (.lit (.i 1))) (.le (.lit (.i 1)) (.fld (.get (.fld (.tok 0) 0) (.add (.tok 1) (.lit (.i 1)))) 1))) (.rng .i64 (.add (.tok 1) (.lit (.i 1))))), (.imp (.and (.eq (.call 0 0 [(.tok 0), (.add (.tok 1) (.lit (.i 1)))]) (.lit (.i 1))) (.le (.lit (.i 1)) (.fld (.get (.fld (.tok 0) 0) (.add (.tok 1) (.lit (.i 1)))) 1))) (.le (.lit (.i 0)) (.add (.tok 1) (.lit (.i 1))))), (.imp (.and (.eq (.call 0 0 [(.tok 0), (.add (.tok 1) (.lit (.i 1)))]) (.lit (.i 1))) (.le (.lit (.i 1)) (.fld (.get (.fld (.tok 0) 0) (.add (.tok 1) (.lit (.i 1)))) 1))) (.lt (.add (.tok 1) (.lit (.i 1))) (.len (.fld (.tok 0) 0)))), (.imp (.and (.eq (.call 0 0 [(.tok 0), (.add (.tok 1) (.lit (.i 1)))]) (.lit (.i 1))) (.le (.lit (.i 1)) (.fld (.get (.fld (.tok 0) 0) (.add (.tok 1) (.lit (.i 1)))) 1))) (.rng .i64 (.add (.tok 1) (.lit (.i 1))))), (.imp (.and (.eq (.call 0 0 [(.tok 0), (.add (.tok 1) (.lit (.i 1)))]) (.lit (.i 1))) (.le (.lit (.i 1)) (.fld (.get (.fld (.tok 0) 0) (.add (.tok 1) (.lit (.i 1)))) 1))) (.rng .i64 (.add (.tok 1) (.lit (.i 1))))), (.imp (.and (.eq (.call 0 0 [(.tok 0), (.add (.tok 1) (.lit (.i 1)))]) (.lit (.i 1))) (.le (.lit (.i 1)) (.fld (.get (.fld (.tok 0) 0) (.add (.tok 1) (.lit (.i 1)))) 1))) (.rng .i64 (.add (.tok 1) (.lit (.i 1))))), (.imp (.eq (.call 0 0 [(.tok 0), (.add (.tok 1) (.lit (.i 1)))]) (.lit (.i 1))) (.le (.lit (.i 0)) (.add (.tok 1) (.lit (.i 1))))), (.imp (.eq (.call 0 0 [(.tok 0), (.add (.tok 1) (.lit (.i 1)))]) (.lit (.i 1))) (.lt (.add (.tok 1) (.lit (.i 1))) (.len (.fld (.tok 0) 0)))), (.imp (.eq (.call 0 0 [(.tok 0), (.add (.tok 1) (.lit (.i 1)))]) (.lit (.i 1))) (.rng .i64 (.add (.tok 1) (.lit (.i 1))))), (.ok 0 [(.tok 0), (.add (.tok 1) (.lit (.i 1)))]), (.rng .i64 (.add (.tok 1) (.lit (.i 1))))] (.leaf [(.and (.and (.and (.and (.and (.eq (.call 0 0 [(.tok 0), (.add (.tok 1) (.lit (.i 1)))]) (.lit (.i 1))) (.le (.lit (.i 1)) (.fld (.get (.fld (.tok 0) 0) (.add (.tok 1) (.lit (.i 1)))) 1))) (.le (.fld (.get (.fld (.tok 0) 0) (.add (.tok 1) (.lit (.i 1)))) 1) (.fld (.tok 0) 4))) (.le (.lit (.i 0)) (.call 0 0 [(.tok 0), (.add (.tok 1) (.lit (.i 2)))]))) (.not (.eq (.call 0 0 [(.tok 0), (.add (.tok 1) (.lit (.i 2)))]) (.lit (.i 4))))) (.not (.eq (.call 0 0 [(.tok 0), (.add (.tok 1) (.lit (.i 2)))]) (.lit (.i 5)))))])))
set_option maxRecDepth 100000 in
theorem code_ref30_group (g0 : List D → Option (List D)) : ∀ cd, Try.f94.body = some cd → treeOf Try.prog [(q0q, g0)] ann_ref30_group q1b Try.f94 cd = q4r := by
  intro cd h
  injection h with h
  subst h
  kernel_rfl
theorem fok_ref30_group {g0 : List D → Option (List D)} {g : List D → Option (List D)} (h0 : FOk q0q g0) (h : ∀ ds outs, WfA q1b.ars ds → g ds = some outs → q4r.go (tblS [(q0q, g0)]) (fun o => o = outs) ds fun _ _ => False) : FOk q1b g :=
  q08 ann_ref30_group Try.f94 _ (.cons h0 .nil) rfl rfl enter_ref30_group (by decide) fun ds outs hw hg => by rw [code_ref30_group g0 _ rfl]; exact h ds outs hw hg

def q1w : Ct := ⟨50, [.val (.st 26), .val (.int .i64)], [(.bool, false)], [], none⟩
theorem enter_ref30_cell (args : Array Value) (w : World) : (callFunc q1w.f args).run Try.prog w = .ok (.enter q1w.f args) w := by kernel_rfl
def ann_ref30_cell : Ann := ⟨[0, 1, 2, 4, 5, 6, 7, 15, 29, 32, 40, 50], [(7, ⟨[(4, .bool, false), (7, .int .i64, false)], [], [30, 31, 32, 35, 36, 37, 38, 39, 40, 33, 34], []⟩)]⟩
def q50 : Tree := (.need [(.le (.lit (.i 0)) (.tok 1)), (.lt (.tok 1) (.len (.fld (.tok 0) 0)))] (.br (.eq (.fld (.get (.fld (.tok 0) 0) (.tok 1)) 0) (.lit (.i 4))) (.need [(.ok 0 [(.tok 0), (.fld (.get (.fld (.tok 0) 0) (.tok 1)) 1)])] (.need [(.imp (.not (.lt (.call 0 0 [(.tok 0), (.fld (.get (.fld (.tok 0) 0) (.tok 1)) 1)]) (.lit (.i 1)))) (.rng .i64 (.add (.tok 1) (.call 0 0 [(.tok 0), (.fld (.get (.fld (.tok 0) 0) (.tok 1)) 1)])))), (.imp (.not (.lt (.call 0 0 [(.tok 0), (.fld (.get (.fld (.tok 0) 0) (.tok 1)) 1)]) (.lit (.i 1)))) (.ok 1 [(.tok 0), (.add (.tok 1) (.call 0 0 [(.tok 0), (.fld (.get (.fld (.tok 0) 0) (.tok 1)) 1)]))]))] (.br (.or (.lt (.call 0 0 [(.tok 0), (.fld (.get (.fld (.tok 0) 0) (.tok 1)) 1)]) (.lit (.i 1))) (.not (.call 1 0 [(.tok 0), (.add (.tok 1) (.call 0 0 [(.tok 0), (.fld (.get (.fld (.tok 0) 0) (.tok 1)) 1)]))]))) (.leaf [(.lit (.b .false))]) (.loop 7 2 [(.lit (.b .false)), (.lit (.i 1))] (.br (.le (.tok 3) (.call 0 0 [(.tok 0), (.fld (.get (.fld (.tok 0) 0) (.tok 1)) 1)])) (.need [(.rng .i64 (.add (.tok 1) (.tok 3))), (.ok 2 [(.tok 0), (.add (.tok 1) (.tok 3))])] (.br (.eq (.call 2 0 [(.tok 0), (.add (.tok 1) (.tok 3))]) (.lit (.i 4))) (.leaf [(.lit (.b .false))]) (.need [(.rng .i64 (.add (.tok 3) (.lit (.i 1))))] (.back 7 [(.tok 2), (.add (.tok 3) (.lit (.i 1)))])))) (.leaf [(.lit (.b .true))])))))) (.need [(.ok 3 [(.tok 0), (.get (.fld (.tok 0) 0) (.tok 1))]), (.imp (.not (.not (.call 3 0 [(.tok 0), (.get (.fld (.tok 0) 0) (.tok 1))]))) (.ok 4 [(.tok 0), (.tok 1)]))] (.br (.or (.not (.call 3 0 [(.tok 0), (.get (.fld (.tok 0) 0) (.tok 1))])) (.not (.call 4 0 [(.tok 0), (.tok 1)]))) (.leaf [(.lit (.b .false))]) (.need [(.imp (.and (.not (.not (.eq (.fld (.get (.fld (.tok 0) 0) (.tok 1)) 0) (.lit (.i 5))))) (.eq (.fld (.get (.fld (.tok 0) 0) (.tok 1)) 1) (.tok 1))) (.ok 5 [(.tok 0), (.tok 1)]))] (.leaf [(.or (.not (.eq (.fld (.get (.fld (.tok 0) 0) (.tok 1)) 0) (.lit (.i 5)))) (.and (.eq (.fld (.get (.fld (.tok 0) 0) (.tok 1)) 1) (.tok 1)) (.call 5 0 [(.tok 0), (.tok 1)])))]))))))
set_option maxRecDepth 100000 in
theorem code_ref30_cell (g0 g1 g2 g3 g4 g5 : List D → Option (List D)) : ∀ cd, Try.f50.body = some cd → treeOf Try.prog [(q19, g0), (q0k, g1), (q0q, g2), (q0c, g3), (q27, g4), (q1b, g5)] ann_ref30_cell q1w Try.f50 cd = q50 := by
  intro cd h
  injection h with h
  subst h
  kernel_rfl
theorem fok_ref30_cell {g0 g1 g2 g3 g4 g5 : List D → Option (List D)} {g : List D → Option (List D)} (h0 : FOk q19 g0) (h1 : FOk q0k g1) (h2 : FOk q0q g2) (h3 : FOk q0c g3) (h4 : FOk q27 g4) (h5 : FOk q1b g5) (h : ∀ ds outs, WfA q1w.ars ds → g ds = some outs → q50.go (tblS [(q19, g0), (q0k, g1), (q0q, g2), (q0c, g3), (q27, g4), (q1b, g5)]) (fun o => o = outs) ds fun _ _ => False) : FOk q1w g :=
  q08 ann_ref30_cell Try.f50 _ (.cons h0 (.cons h1 (.cons h2 (.cons h3 (.cons h4 (.cons h5 .nil)))))) rfl rfl enter_ref30_cell (by decide) fun ds outs hw hg => by rw [code_ref30_cell g0 g1 g2 g3 g4 g5 _ rfl]; exact h ds outs hw hg

def q25 : Ct := ⟨51, [.val (.st 26), .val (.st 79)], [(.bool, false)], [], none⟩
theorem enter_ref30_old (args : Array Value) (w : World) : (callFunc q25.f args).run Try.prog w = .ok (.enter q25.f args) w := by kernel_rfl
def ann_ref30_old : Ann := ⟨[0, 1, 2, 3, 4, 5, 11, 14, 15, 22, 41], []⟩
def q5c : Tree := (.need [(.ok 0 [(.tok 0), (.fld (.tok 1) 0)])] (.br (.not (.call 0 0 [(.tok 0), (.fld (.tok 1) 0)])) (.leaf [(.lit (.b .false))]) (.br (.eq (.fld (.fld (.tok 1) 1) 0) (.lit (.i 0))) (.leaf [(.eq (.fld (.fld (.tok 1) 1) 1) (.fld (.tok 1) 0))]) (.br (.eq (.fld (.fld (.tok 1) 1) 0) (.lit (.i 5))) (.need [(.imp (.eq (.fld (.fld (.tok 1) 1) 1) (.fld (.tok 1) 0)) (.ok 1 [(.tok 0), (.fld (.tok 1) 0)])), (.imp (.and (.eq (.fld (.fld (.tok 1) 1) 1) (.fld (.tok 1) 0)) (.call 1 0 [(.tok 0), (.fld (.tok 1) 0)])) (.rng .i64 (.sub (.fld (.tok 1) 0) (.lit (.i 1))))), (.imp (.and (.eq (.fld (.fld (.tok 1) 1) 1) (.fld (.tok 1) 0)) (.call 1 0 [(.tok 0), (.fld (.tok 1) 0)])) (.ok 2 [(.tok 0), (.sub (.fld (.tok 1) 0) (.lit (.i 1)))]))] (.leaf [(.and (.and (.eq (.fld (.fld (.tok 1) 1) 1) (.fld (.tok 1) 0)) (.call 1 0 [(.tok 0), (.fld (.tok 1) 0)])) (.not (.eq (.call 2 0 [(.tok 0), (.sub (.fld (.tok 1) 0) (.lit (.i 1)))]) (.lit (.i 5)))))])) (.br (.eq (.fld (.fld (.tok 1) 1) 0) (.lit (.i 1))) (.br (.eq (.fld (.fld (.tok 1) 1) 0) (.lit (.i 1))) (.need [(.ok 3 [(.tok 0), (.fld (.tok 1) 1)])] (.leaf [(.call 3 0 [(.tok 0), (.fld (.tok 1) 1)])])) (.leaf [(.lit (.b .false))])) (.br (.eq (.fld (.fld (.tok 1) 1) 0) (.lit (.i 2))) (.br (.eq (.fld (.fld (.tok 1) 1) 0) (.lit (.i 2))) (.need [(.ok 3 [(.tok 0), (.fld (.tok 1) 1)])] (.leaf [(.call 3 0 [(.tok 0), (.fld (.tok 1) 1)])])) (.leaf [(.lit (.b .false))])) (.br (.eq (.fld (.fld (.tok 1) 1) 0) (.lit (.i 3))) (.need [(.ok 3 [(.tok 0), (.fld (.tok 1) 1)])] (.leaf [(.call 3 0 [(.tok 0), (.fld (.tok 1) 1)])])) (.leaf [(.lit (.b .false))]))))))))
set_option maxRecDepth 100000 in
theorem code_ref30_old (g0 g1 g2 g3 : List D → Option (List D)) : ∀ cd, Try.f51.body = some cd → treeOf Try.prog [(q0k, g0), (q1b, g1), (q0q, g2), (q0c, g3)] ann_ref30_old q25 Try.f51 cd = q5c := by
  intro cd h
  injection h with h
  subst h
  kernel_rfl
theorem fok_ref30_old {g0 g1 g2 g3 : List D → Option (List D)} {g : List D → Option (List D)} (h0 : FOk q0k g0) (h1 : FOk q1b g1) (h2 : FOk q0q g2) (h3 : FOk q0c g3) (h : ∀ ds outs, WfA q25.ars ds → g ds = some outs → q5c.go (tblS [(q0k, g0), (q1b, g1), (q0q, g2), (q0c, g3)]) (fun o => o = outs) ds fun _ _ => False) : FOk q25 g :=
  q08 ann_ref30_old Try.f51 _ (.cons h0 (.cons h1 (.cons h2 (.cons h3 .nil)))) rfl rfl enter_ref30_old (by decide) fun ds outs hw hg => by rw [code_ref30_old g0 g1 g2 g3 _ rfl]; exact h ds outs hw hg

def q22 : Ct := ⟨13, [.val (.st 26)], [(.bool, false)], [], none⟩
theorem enter_ref30_Valid (args : Array Value) (w : World) : (callFunc q22.f args).run Try.prog w = .ok (.enter q22.f args) w := by kernel_rfl
def ann_ref30_Valid : Ann := ⟨[0, 1, 2, 3, 4, 5, 6, 33, 38, 44, 49, 59, 64, 95], [(4, ⟨[(2, .bool, false), (3, .int .i64, false)], [], [34, 35, 36, 37, 38, 41, 42, 43, 44, 39, 40], []⟩),
  (9, ⟨[(2, .bool, false), (4, .int .i64, false)], [], [45, 46, 47, 48, 49, 52, 53, 54, 55, 56, 57, 58, 59, 50, 51], []⟩),
  (14, ⟨[(2, .bool, false), (5, .int .i64, false)], [], [60, 61, 62, 63, 64, 67, 68, 69, 70, 71, 6, 72, 73, 74, 75, 76, 77, 78, 79, 80, 81, 82, 83, 84, 85, 86, 87, 88, 89, 90, 91, 92, 93, 94, 95, 65, 66], []⟩)]⟩
def q4s : Tree := (.need [(.imp (.not (.or (.or (.or (.lt (.fld (.tok 0) 5) (.lit (.i 1))) (.lt (.lit (.i 1048576)) (.fld (.tok 0) 5))) (.lt (.fld (.tok 0) 5) (.len (.fld (.tok 0) 0)))) (.lt (.fld (.tok 0) 4) (.lit (.i 0))))) (.ok 0 [(.fld (.tok 0) 1)]))] (.br (.or (.or (.or (.or (.lt (.fld (.tok 0) 5) (.lit (.i 1))) (.lt (.lit (.i 1048576)) (.fld (.tok 0) 5))) (.lt (.fld (.tok 0) 5) (.len (.fld (.tok 0) 0)))) (.lt (.fld (.tok 0) 4) (.lit (.i 0)))) (.not (.call 0 0 [(.fld (.tok 0) 1)]))) (.leaf [(.lit (.b .false))]) (.loop 4 1 [(.lit (.b .false)), (.lit (.i 0))] (.br (.lt (.tok 2) (.len (.fld (.tok 0) 0))) (.need [(.ok 1 [(.tok 0), (.tok 2)])] (.br (.not (.call 1 0 [(.tok 0), (.tok 2)])) (.leaf [(.lit (.b .false))]) (.need [(.rng .i64 (.add (.tok 2) (.lit (.i 1))))] (.back 4 [(.tok 1), (.add (.tok 2) (.lit (.i 1)))])))) (.loop 9 3 [(.tok 1), (.lit (.i 0))] (.br (.lt (.tok 4) (.len (.fld (.tok 0) 2))) (.need [(.ok 2 [(.tok 0), (.get (.fld (.tok 0) 2) (.tok 4))]), (.le (.lit (.i 0)) (.tok 4)), (.lt (.tok 4) (.len (.fld (.tok 0) 2)))] (.br (.not (.call 2 0 [(.tok 0), (.get (.fld (.tok 0) 2) (.tok 4))])) (.leaf [(.lit (.b .false))]) (.need [(.rng .i64 (.add (.tok 4) (.lit (.i 1))))] (.back 9 [(.tok 3), (.add (.tok 4) (.lit (.i 1)))])))) (.loop 14 5 [(.tok 3), (.lit (.i 0))] (.br (.lt (.tok 6) (.len (.fld (.tok 0) 3))) (.need [(.le (.lit (.i 0)) (.tok 6)), (.lt (.tok 6) (.len (.fld (.tok 0) 3)))] (.need [(.imp (.not (.or (.lt (.fld (.get (.fld (.tok 0) 3) (.tok 6)) 0) (.lit (.i 1))) (.lt (.fld (.tok 0) 4) (.fld (.get (.fld (.tok 0) 3) (.tok 6)) 0)))) (.ok 3 [(.tok 0), (.fld (.get (.fld (.tok 0) 3) (.tok 6)) 1)])), (.imp (.not (.or (.or (.lt (.fld (.get (.fld (.tok 0) 3) (.tok 6)) 0) (.lit (.i 1))) (.lt (.fld (.tok 0) 4) (.fld (.get (.fld (.tok 0) 3) (.tok 6)) 0))) (.not (.call 3 0 [(.tok 0), (.fld (.get (.fld (.tok 0) 3) (.tok 6)) 1)])))) (.ok 3 [(.tok 0), (.fld (.get (.fld (.tok 0) 3) (.tok 6)) 2)]))] (.br (.or (.or (.or (.lt (.fld (.get (.fld (.tok 0) 3) (.tok 6)) 0) (.lit (.i 1))) (.lt (.fld (.tok 0) 4) (.fld (.get (.fld (.tok 0) 3) (.tok 6)) 0))) (.not (.call 3 0 [(.tok 0), (.fld (.get (.fld (.tok 0) 3) (.tok 6)) 1)]))) (.not (.call 3 0 [(.tok 0), (.fld (.get (.fld (.tok 0) 3) (.tok 6)) 2)]))) (.leaf [(.lit (.b .false))]) (.need [(.rng .i64 (.add (.tok 6) (.lit (.i 1))))] (.back 14 [(.tok 5), (.add (.tok 6) (.lit (.i 1)))]))))) (.leaf [(.lit (.b .true))])))))))))
set_option maxRecDepth 100000 in
theorem code_ref30_Valid (g0 g1 g2 g3 : List D → Option (List D)) : ∀ cd, Try.f13.body = some cd → treeOf Try.prog [(q1h, g0), (q1w, g1), (q25, g2), (q0c, g3)] ann_ref30_Valid q22 Try.f13 cd = q4s := by
  intro cd h
  injection h with h
  subst h
  kernel_rfl
theorem fok_ref30_Valid {g0 g1 g2 g3 : List D → Option (List D)} {g : List D → Option (List D)} (h0 : FOk q1h g0) (h1 : FOk q1w g1) (h2 : FOk q25 g2) (h3 : FOk q0c g3) (h : ∀ ds outs, WfA q22.ars ds → g ds = some outs → q4s.go (tblS [(q1h, g0), (q1w, g1), (q25, g2), (q0c, g3)]) (fun o => o = outs) ds fun _ _ => False) : FOk q22 g :=
  q08 ann_ref30_Valid Try.f13 _ (.cons h0 (.cons h1 (.cons h2 (.cons h3 .nil)))) rfl rfl enter_ref30_Valid (by decide) fun ds outs hw hg => by rw [code_ref30_Valid g0 g1 g2 g3 _ rfl]; exact h ds outs hw hg

def q1y : Ct := ⟨15, [.val (.st 26)], [(.st 26, true)], [], none⟩
theorem enter_ref30_Clone (args : Array Value) (w : World) : (callFunc q1y.f args).run Try.prog w = .ok (.enter q1y.f args) w := by kernel_rfl
def ann_ref30_Clone : Ann := ⟨[0, 1, 2, 3], []⟩
def q4q : Tree := (.need [(.le (.len (.fld (.tok 0) 0)) (.lit (.i 8796093021952)))] (.need [(.le (.len (.fld (.tok 0) 1)) (.lit (.i 5864062014634)))] (.need [(.le (.len (.fld (.tok 0) 2)) (.lit (.i 5864062014634)))] (.need [(.le (.len (.fld (.tok 0) 3)) (.lit (.i 3518437208780)))] (.leaf [(.set (.set (.set (.set (.tok 0) 0 (.app (.lit (.r [])) (.fld (.tok 0) 0))) 1 (.app (.lit (.r [])) (.fld (.tok 0) 1))) 2 (.app (.lit (.r [])) (.fld (.tok 0) 2))) 3 (.app (.lit (.r [])) (.fld (.tok 0) 3)))])))))
set_option maxRecDepth 100000 in
theorem code_ref30_Clone : ∀ cd, Try.f15.body = some cd → treeOf Try.prog [] ann_ref30_Clone q1y Try.f15 cd = q4q := by
  intro cd h
  injection h with h
  subst h
  kernel_rfl
theorem fok_ref30_Clone {g : List D → Option (List D)}  (h : ∀ ds outs, WfA q1y.ars ds → g ds = some outs → q4q.go (tblS []) (fun o => o = outs) ds fun _ _ => False) : FOk q1y g :=
  q08 ann_ref30_Clone Try.f15 _ .nil rfl rfl enter_ref30_Clone (by decide) fun ds outs hw hg => by rw [code_ref30_Clone  _ rfl]; exact h ds outs hw hg

end Go.Proofs.Ytinclokohcommaa


namespace Go.Proofs.Ytinclokohcommaa
open Go.RowKit
set_option linter.unusedVariables false
set_option linter.unusedSimpArgs false

structure Ce where
  t : Int
  n : Int
structure Un where
  at' : Int
  old : Ce
structure Wk where
  ser : Int
  att : Ce
  val : Ce
structure Sy where
  name : ByteArray
  ar : Int
structure So where
  cs : List Ce
  ys : List Sy
  tr : List Un
  wk : List Wk
  ser : Int
  mx : Int

instance : Inhabited Ce := ⟨⟨0, 0⟩⟩
instance : Inhabited Un := ⟨⟨0, default⟩⟩
instance : Inhabited Wk := ⟨⟨0, default, default⟩⟩
instance : Inhabited Sy := ⟨⟨⟨#[]⟩, 0⟩⟩

def eC (c : Ce) : D := .a [.i c.t, .i c.n]
def eU (u : Un) : D := .a [.i u.at', eC u.old]
def eW (w : Wk) : D := .a [.i w.ser, eC w.att, eC w.val]
def eY (y : Sy) : D := .a [.s y.name, .i y.ar]
def eS (s : So) : D := .a [.r (s.cs.map eC), .r (s.ys.map eY), .r (s.tr.map eU), .r (s.wk.map eW), .i s.ser, .i s.mx]
def dC (d : D) : Ce := ⟨(d.fld 0).int, (d.fld 1).int⟩
def dU (d : D) : Un := ⟨(d.fld 0).int, dC (d.fld 1)⟩
def dW (d : D) : Wk := ⟨(d.fld 0).int, dC (d.fld 1), dC (d.fld 2)⟩
def dY (d : D) : Sy := ⟨(d.fld 0).str, (d.fld 1).int⟩
def dS (d : D) : So := ⟨(d.fld 0).rs.map dC, (d.fld 1).rs.map dY, (d.fld 2).rs.map dU, (d.fld 3).rs.map dW, (d.fld 4).int, (d.fld 5).int⟩

theorem dC_eC (c : Ce) : dC (eC c) = c := rfl
theorem dU_eU (c : Un) : dU (eU c) = c := rfl
theorem dW_eW (c : Wk) : dW (eW c) = c := rfl
theorem dY_eY (c : Sy) : dY (eY c) = c := rfl
theorem map_id' {α : Type} {e : α → D} {d : D → α} (h : ∀ a, d (e a) = a) (l : List α) : (l.map e).map d = l := by
  rw [List.map_map]
  have : d ∘ e = id := funext h
  rw [this, List.map_id]
theorem dS_eS (s : So) : dS (eS s) = s := by
  show So.mk ((s.cs.map eC).map dC) ((s.ys.map eY).map dY) ((s.tr.map eU).map dU) ((s.wk.map eW).map dW) s.ser s.mx = s
  rw [map_id' dC_eC, map_id' dY_eY, map_id' dU_eU, map_id' dW_eW]
theorem eC_inj {a b : Ce} (h : eC a = eC b) : a = b := by rw [← dC_eC a, h, dC_eC b]
theorem eU_inj {a b : Un} (h : eU a = eU b) : a = b := by rw [← dU_eU a, h, dU_eU b]
theorem eW_inj {a b : Wk} (h : eW a = eW b) : a = b := by rw [← dW_eW a, h, dW_eW b]
theorem eY_inj {a b : Sy} (h : eY a = eY b) : a = b := by rw [← dY_eY a, h, dY_eY b]
theorem eS_inj {a b : So} (h : eS a = eS b) : a = b := by rw [← dS_eS a, h, dS_eS b]
theorem eC_eq (a b : Ce) : (eC a = eC b) = (a = b) := propext ⟨eC_inj, fun h => h ▸ rfl⟩
theorem eU_eq (a b : Un) : (eU a = eU b) = (a = b) := propext ⟨eU_inj, fun h => h ▸ rfl⟩
theorem eW_eq (a b : Wk) : (eW a = eW b) = (a = b) := propext ⟨eW_inj, fun h => h ▸ rfl⟩
theorem eY_eq (a b : Sy) : (eY a = eY b) = (a = b) := propext ⟨eY_inj, fun h => h ▸ rfl⟩
theorem eS_eq (a b : So) : (eS a = eS b) = (a = b) := propext ⟨eS_inj, fun h => h ▸ rfl⟩
instance : DecidableEq Ce := fun a b => if h : eC a = eC b then .isTrue (eC_inj h) else .isFalse fun e => h (e ▸ rfl)
instance : DecidableEq Un := fun a b => if h : eU a = eU b then .isTrue (eU_inj h) else .isFalse fun e => h (e ▸ rfl)
instance : DecidableEq Wk := fun a b => if h : eW a = eW b then .isTrue (eW_inj h) else .isFalse fun e => h (e ▸ rfl)
instance : DecidableEq Sy := fun a b => if h : eY a = eY b then .isTrue (eY_inj h) else .isFalse fun e => h (e ▸ rfl)
instance : DecidableEq So := fun a b => if h : eS a = eS b then .isTrue (eS_inj h) else .isFalse fun e => h (e ▸ rfl)
theorem Ce.ext' {a b : Ce} (h1 : a.t = b.t) (h2 : a.n = b.n) : a = b := by
  cases a; cases b; cases h1; cases h2; rfl

theorem eC_0 (c : Ce) : (eC c).fld 0 = .i c.t := rfl
theorem eC_1 (c : Ce) : (eC c).fld 1 = .i c.n := rfl
theorem eU_0 (c : Un) : (eU c).fld 0 = .i c.at' := rfl
theorem eU_1 (c : Un) : (eU c).fld 1 = eC c.old := rfl
theorem eW_0 (c : Wk) : (eW c).fld 0 = .i c.ser := rfl
theorem eW_1 (c : Wk) : (eW c).fld 1 = eC c.att := rfl
theorem eW_2 (c : Wk) : (eW c).fld 2 = eC c.val := rfl
theorem eY_0 (c : Sy) : (eY c).fld 0 = .s c.name := rfl
theorem eY_1 (c : Sy) : (eY c).fld 1 = .i c.ar := rfl
theorem eS_0 (s : So) : (eS s).fld 0 = .r (s.cs.map eC) := rfl
theorem eS_1 (s : So) : (eS s).fld 1 = .r (s.ys.map eY) := rfl
theorem eS_2 (s : So) : (eS s).fld 2 = .r (s.tr.map eU) := rfl
theorem eS_3 (s : So) : (eS s).fld 3 = .r (s.wk.map eW) := rfl
theorem eS_4 (s : So) : (eS s).fld 4 = .i s.ser := rfl
theorem eS_5 (s : So) : (eS s).fld 5 = .i s.mx := rfl
theorem eC_mk (t n : Int) : D.a [.i t, .i n] = eC ⟨t, n⟩ := rfl
abbrev i64 (n : Int) : Prop := -9223372036854775808 ≤ n ∧ n ≤ 9223372036854775807
def Ce.ok (c : Ce) : Prop := i64 c.t ∧ i64 c.n
def Un.ok (c : Un) : Prop := i64 c.at' ∧ c.old.ok
def Wk.ok (c : Wk) : Prop := i64 c.ser ∧ c.att.ok ∧ c.val.ok
def Sy.ok (c : Sy) : Prop := c.name.size ≤ LIM ∧ i64 c.ar
structure So.ok (s : So) : Prop where
  cs : s.cs.length ≤ 8796093021952 ∧ ∀ c ∈ s.cs, c.ok
  ys : s.ys.length ≤ 5864062014634 ∧ ∀ c ∈ s.ys, c.ok
  tr : s.tr.length ≤ 5864062014634 ∧ ∀ c ∈ s.tr, c.ok
  wk : s.wk.length ≤ 3518437208780 ∧ ∀ c ∈ s.wk, c.ok
  ser : i64 s.ser
  mx : i64 s.mx

theorem wfI {d : D} (h : Wf d (.int .i64)) : ∃ n, d = .i n ∧ i64 n := by
  obtain ⟨n, rfl, hn⟩ := h.int
  exact ⟨n, rfl, rng64.1 hn⟩
theorem wfC {d : D} (h : Wf d T_Cell) : ∃ c, d = eC c ∧ c.ok := by
  obtain ⟨ds, rfl, hl⟩ := h.st_of (fs := [.int .i64, .int .i64]) rfl
  obtain ⟨a, b, rfl, ha, hb⟩ := wfL2 hl
  obtain ⟨x, rfl, hx⟩ := wfI ha
  obtain ⟨y, rfl, hy⟩ := wfI hb
  exact ⟨⟨x, y⟩, rfl, hx, hy⟩
theorem wfU {d : D} (h : Wf d T_Undo) : ∃ c, d = eU c ∧ c.ok := by
  obtain ⟨ds, rfl, hl⟩ := h.st_of (fs := [.int .i64, T_Cell]) rfl
  obtain ⟨a, b, rfl, ha, hb⟩ := wfL2 hl
  obtain ⟨x, rfl, hx⟩ := wfI ha
  obtain ⟨y, rfl, hy⟩ := wfC hb
  exact ⟨⟨x, y⟩, rfl, hx, hy⟩
theorem wfW {d : D} (h : Wf d T_Wake) : ∃ c, d = eW c ∧ c.ok := by
  obtain ⟨ds, rfl, hl⟩ := h.st_of (fs := [.int .i64, T_Cell, T_Cell]) rfl
  obtain ⟨a, r, rfl, ha, hr⟩ := wfL_cons hl
  obtain ⟨b, c, rfl, hb, hc⟩ := wfL2 hr
  obtain ⟨x, rfl, hx⟩ := wfI ha
  obtain ⟨y, rfl, hy⟩ := wfC hb
  obtain ⟨z, rfl, hz⟩ := wfC hc
  exact ⟨⟨x, y, z⟩, rfl, hx, hy, hz⟩
theorem wfY {d : D} (h : Wf d T_Symbol) : ∃ c, d = eY c ∧ c.ok := by
  obtain ⟨ds, rfl, hl⟩ := h.st_of (fs := [.str, .int .i64]) rfl
  obtain ⟨a, b, rfl, ha, hb⟩ := wfL2 hl
  obtain ⟨x, rfl, hx⟩ := ha.str
  obtain ⟨y, rfl, hy⟩ := wfI hb
  exact ⟨⟨x, y⟩, rfl, hx, hy⟩
theorem wfCs {d : D} (h : Wf d T_Cells) : ∃ l : List Ce, d = .r (l.map eC) ∧ l.length ≤ 8796093021952 ∧ ∀ c ∈ l, c.ok := by
  obtain ⟨l, rfl, h1, h2⟩ := h.row_of (te := T_Cell) rfl
  obtain ⟨m, rfl, h3⟩ := of_all (e := eC) (P := Ce.ok) fun x hx => wfC (h2 x hx)
  have e : LM T_Cell = 8796093021952 := by kernel_rfl
  rw [e, List.length_map] at h1
  exact ⟨m, rfl, h1, h3⟩
theorem wfUs {d : D} (h : Wf d T_Undos) : ∃ l : List Un, d = .r (l.map eU) ∧ l.length ≤ 5864062014634 ∧ ∀ c ∈ l, c.ok := by
  obtain ⟨l, rfl, h1, h2⟩ := h.row_of (te := T_Undo) rfl
  obtain ⟨m, rfl, h3⟩ := of_all (e := eU) (P := Un.ok) fun x hx => wfU (h2 x hx)
  have e : LM T_Undo = 5864062014634 := by kernel_rfl
  rw [e, List.length_map] at h1
  exact ⟨m, rfl, h1, h3⟩
theorem wfWs {d : D} (h : Wf d T_Wakes) : ∃ l : List Wk, d = .r (l.map eW) ∧ l.length ≤ 3518437208780 ∧ ∀ c ∈ l, c.ok := by
  obtain ⟨l, rfl, h1, h2⟩ := h.row_of (te := T_Wake) rfl
  obtain ⟨m, rfl, h3⟩ := of_all (e := eW) (P := Wk.ok) fun x hx => wfW (h2 x hx)
  have e : LM T_Wake = 3518437208780 := by kernel_rfl
  rw [e, List.length_map] at h1
  exact ⟨m, rfl, h1, h3⟩
theorem wfYs {d : D} (h : Wf d T_Symbols) : ∃ l : List Sy, d = .r (l.map eY) ∧ l.length ≤ 5864062014634 ∧ ∀ c ∈ l, c.ok := by
  obtain ⟨l, rfl, h1, h2⟩ := h.row_of (te := T_Symbol) rfl
  obtain ⟨m, rfl, h3⟩ := of_all (e := eY) (P := Sy.ok) fun x hx => wfY (h2 x hx)
  have e : LM T_Symbol = 5864062014634 := by kernel_rfl
  rw [e, List.length_map] at h1
  exact ⟨m, rfl, h1, h3⟩
theorem wfS {d : D} (h : Wf d T_Store) : ∃ s, d = eS s ∧ s.ok := by
  obtain ⟨ds, rfl, hl⟩ := h.st_of (fs := [T_Cells, T_Symbols, T_Undos, T_Wakes, .int .i64, .int .i64]) rfl
  obtain ⟨d0, r, rfl, h0, hl⟩ := wfL_cons hl
  obtain ⟨d1, r, rfl, h1, hl⟩ := wfL_cons hl
  obtain ⟨d2, r, rfl, h2, hl⟩ := wfL_cons hl
  obtain ⟨d3, r, rfl, h3, hl⟩ := wfL_cons hl
  obtain ⟨d4, d5, rfl, h4, h5⟩ := wfL2 hl
  obtain ⟨cs, rfl, q0⟩ := wfCs h0
  obtain ⟨ys, rfl, q1⟩ := wfYs h1
  obtain ⟨tr, rfl, q2⟩ := wfUs h2
  obtain ⟨wk, rfl, q3⟩ := wfWs h3
  obtain ⟨x, rfl, q4⟩ := wfI h4
  obtain ⟨y, rfl, q5⟩ := wfI h5
  exact ⟨⟨cs, ys, tr, wk, x, y⟩, rfl, q0, q1, q2, q3, q4, q5⟩
end Go.Proofs.Ytinclokohcommaa


namespace Go.Proofs.Ytinclokohcommaa
open Go.RowKit
set_option linter.unusedVariables false
set_option linter.unusedSimpArgs false

inductive Te where
  | mk (k n : Int) (s : ByteArray) (l : List Te)
instance : Inhabited Te := ⟨.mk 0 0 ⟨#[]⟩ []⟩
def Te.k : Te → Int | .mk k _ _ _ => k
def Te.n : Te → Int | .mk _ n _ _ => n
def Te.s : Te → ByteArray | .mk _ _ s _ => s
def Te.l : Te → List Te | .mk _ _ _ l => l

mutual
theorem Te.ind0 {P : Te → Prop} (h : ∀ k n s l, (∀ t ∈ l, P t) → P (.mk k n s l)) : ∀ t, P t
  | .mk k n s l => h k n s l (Te.inds h l)
theorem Te.inds {P : Te → Prop} (h : ∀ k n s l, (∀ t ∈ l, P t) → P (.mk k n s l)) : ∀ (l : List Te), ∀ t ∈ l, P t
  | [], _, ht => by cases ht
  | u :: l, t, ht => by
    exact (List.mem_cons.1 ht).elim (fun e => e ▸ Te.ind0 h u) fun h' => Te.inds h l t h'
end
theorem Te.ind {P : Te → Prop} (h : ∀ k n s l, (∀ t ∈ l, P t) → P (.mk k n s l)) (t : Te) : P t := Te.ind0 h t

mutual
def eT : Te → D
  | .mk k n s l => .a [.i k, .i n, .s s, .r (eTs l)]
def eTs : List Te → List D
  | [] => []
  | t :: l => eT t :: eTs l
end
theorem eTs_map : ∀ l, eTs l = l.map eT
  | [] => rfl
  | t :: l => by rw [eTs, eTs_map l, List.map_cons]
theorem eT_mk (k n : Int) (s : ByteArray) (l : List Te) : eT (.mk k n s l) = .a [.i k, .i n, .s s, .r (l.map eT)] := by rw [eT, eTs_map]
mutual
def dT : D → Te
  | .a [.i k, .i n, .s s, .r l] => .mk k n s (dTs l)
  | _ => .mk 0 0 ⟨#[]⟩ []
def dTs : List D → List Te
  | [] => []
  | d :: l => dT d :: dTs l
end
mutual
theorem dT_eT : ∀ t, dT (eT t) = t
  | .mk k n s l => by simp only [eT, dT, dTs_eTs l]
theorem dTs_eTs : ∀ l, dTs (eTs l) = l
  | [] => rfl
  | t :: l => by simp only [eTs, dTs, dT_eT t, dTs_eTs l]
end
theorem eT_inj {t u : Te} (h : eT t = eT u) : t = u := by rw [← dT_eT t, h, dT_eT u]
theorem eT_eq (t u : Te) : (eT t = eT u) = (t = u) := propext ⟨eT_inj, fun h => h ▸ rfl⟩
theorem eT_0 (t : Te) : (eT t).fld 0 = .i t.k := by cases t; rfl
theorem eT_1 (t : Te) : (eT t).fld 1 = .i t.n := by cases t; rfl
theorem eT_2 (t : Te) : (eT t).fld 2 = .s t.s := by cases t; rfl
theorem eT_3 (t : Te) : (eT t).fld 3 = .r (t.l.map eT) := by cases t; rw [eT_mk]; rfl
theorem eT_snoc (k n : Int) (s : ByteArray) (l : List Te) (x : Te) : D.a ((eT (.mk k n s l)).fs.set 3 (.r (l.map eT ++ [eT x]))) = eT (.mk k n s (l ++ [x])) := by
  rw [eT_mk, eT_mk]
  simp [D.fs]
def zT : Te := .mk 0 0 ⟨#[]⟩ []
theorem eT_z : D.a [.i 0, .i 0, .s ⟨#[]⟩, .r []] = eT zT := rfl

mutual
def szT : Te → Nat
  | .mk _ _ _ l => szTs l + 1
def szTs : List Te → Nat
  | [] => 0
  | t :: l => szT t + szTs l
end
theorem szT_pos (t : Te) : 1 ≤ szT t := by cases t; rw [szT]; omega
theorem szTs_mem {t : Te} : ∀ {l : List Te}, t ∈ l → szT t ≤ szTs l
  | u :: l, h => by
    rcases List.mem_cons.1 h with rfl | h
    · rw [szTs]; omega
    · have := szTs_mem h; rw [szTs]; omega
theorem szT_arg {t u : Te} (h : u ∈ t.l) : szT u < szT t := by
  cases t
  have := szTs_mem h
  rw [szT]
  exact Nat.lt_succ_of_le this
theorem szTs_app : ∀ (l m : List Te), szTs (l ++ m) = szTs l + szTs m
  | [], m => by simp [szTs]
  | t :: l, m => by rw [List.cons_append, szTs, szTs, szTs_app l m]; omega
theorem szTs_snoc {l : List Te} {k : Nat} (h : k < l.length) : szTs (l.take (k + 1)) = szTs (l.take k) + szT (l.getD k default) := by
  rw [take_snoc h, szTs_app]
  simp [szTs]
theorem szTs_len : ∀ (l : List Te), l.length ≤ szTs l
  | [] => Nat.le_refl _
  | t :: l => by have := szTs_len l; have := szT_pos t; rw [szTs, List.length_cons]; omega
theorem szT_l (t : Te) : szT t = szTs t.l + 1 := by cases t; rw [szT]; rfl

mutual
def okT : Te → Prop
  | .mk k n s l => i64 k ∧ i64 n ∧ s.size ≤ LIM ∧ l.length ≤ 2513169434843 ∧ okTs l
def okTs : List Te → Prop
  | [] => True
  | t :: l => okT t ∧ okTs l
end
theorem okTs_iff : ∀ {l : List Te}, okTs l ↔ ∀ t ∈ l, okT t
  | [] => ⟨fun _ t h => (by cases h), fun _ => trivial⟩
  | t :: l => by rw [okTs, okTs_iff]; simp
theorem okT_mk {k n : Int} {s : ByteArray} {l : List Te} : okT (.mk k n s l) ↔ i64 k ∧ i64 n ∧ s.size ≤ LIM ∧ l.length ≤ 2513169434843 ∧ ∀ t ∈ l, okT t := by rw [okT, okTs_iff]
theorem okT.k {t : Te} (h : okT t) : i64 t.k := by cases t; exact (okT_mk.1 h).1
theorem okT.n {t : Te} (h : okT t) : i64 t.n := by cases t; exact (okT_mk.1 h).2.1
theorem okT.s {t : Te} (h : okT t) : t.s.size ≤ LIM := by cases t; exact (okT_mk.1 h).2.2.1
theorem okT.l {t : Te} (h : okT t) : t.l.length ≤ 2513169434843 := by cases t; exact (okT_mk.1 h).2.2.2.1
theorem wfT_all (d : D) : (Wf d T_Term → ∃ t, d = eT t ∧ okT t) ∧ (Wf d T_Terms → ∃ l : List Te, d = .r (l.map eT) ∧ l.length ≤ 2513169434843 ∧ ∀ t ∈ l, okT t) := by
  have noS : ∀ {d : D}, Wf d T_Term → ∃ l, d = .a l := fun h => let ⟨l, e, _⟩ := h.st_of (fs := [.int .i64, .int .i64, .str, T_Terms]) rfl; ⟨l, e⟩
  have noR : ∀ {d : D}, Wf d T_Terms → ∃ l, d = .r l := fun h => let ⟨l, e, _⟩ := h.row_of (te := T_Term) rfl; ⟨l, e⟩
  induction d using D.ind with
  | hu => exact ⟨fun h => (by obtain ⟨_, e⟩ := noS h; cases e), fun h => (by obtain ⟨_, e⟩ := noR h; cases e)⟩
  | hi n => exact ⟨fun h => (by obtain ⟨_, e⟩ := noS h; cases e), fun h => (by obtain ⟨_, e⟩ := noR h; cases e)⟩
  | hb n => exact ⟨fun h => (by obtain ⟨_, e⟩ := noS h; cases e), fun h => (by obtain ⟨_, e⟩ := noR h; cases e)⟩
  | hs n => exact ⟨fun h => (by obtain ⟨_, e⟩ := noS h; cases e), fun h => (by obtain ⟨_, e⟩ := noR h; cases e)⟩
  | hm n => exact ⟨fun h => (by obtain ⟨_, e⟩ := noS h; cases e), fun h => (by obtain ⟨_, e⟩ := noR h; cases e)⟩
  | ha l ih =>
    refine ⟨fun h => ?_, fun h => (by obtain ⟨_, e⟩ := noR h; cases e)⟩
    obtain ⟨ds, e, hl⟩ := h.st_of (fs := [.int .i64, .int .i64, .str, T_Terms]) rfl
    injection e with e
    subst e
    obtain ⟨d0, r, rfl, h0, hl⟩ := wfL_cons hl
    obtain ⟨d1, r, rfl, h1, hl⟩ := wfL_cons hl
    obtain ⟨d2, d3, rfl, h2, h3⟩ := wfL2 hl
    obtain ⟨k, rfl, hk⟩ := wfI h0
    obtain ⟨n, rfl, hn⟩ := wfI h1
    obtain ⟨s, rfl, hs⟩ := h2.str
    obtain ⟨ts, rfl, h4, h5⟩ := (ih d3 (by simp)).2 h3
    exact ⟨.mk k n s ts, (eT_mk _ _ _ _).symm, okT_mk.2 ⟨hk, hn, hs, h4, h5⟩⟩
  | hr l ih =>
    refine ⟨fun h => (by obtain ⟨_, e⟩ := noS h; cases e), fun h => ?_⟩
    obtain ⟨l', e, h1, h2⟩ := h.row_of (te := T_Term) rfl
    injection e with e
    subst e
    obtain ⟨m, rfl, h3⟩ := of_all (e := eT) (P := okT) fun x hx => (ih x hx).1 (h2 x hx)
    have e : LM T_Term = 2513169434843 := by kernel_rfl
    rw [e, List.length_map] at h1
    exact ⟨m, rfl, h1, h3⟩
theorem wfT {d : D} (h : Wf d T_Term) : ∃ t, d = eT t ∧ okT t := (wfT_all d).1 h
def nodeT (t : Te) : Bool :=
  if t.k = 0 then decide (0 ≤ t.n) && (decide (t.n ≤ 1099511627776) && (decide (t.s = ⟨#[]⟩) && decide ((t.l.length : Int) = 0)))
  else if t.k = 1 then decide (t.s = ⟨#[]⟩) && decide ((t.l.length : Int) = 0)
  else if t.k = 2 then decide (t.n = 0) && (decide ((t.s.size : Int) ≤ 100) && decide ((t.l.length : Int) = 0))
  else if t.k = 3 then decide (t.n = 0) && (decide ((t.s.size : Int) ≤ 100) && (decide (1 ≤ (t.l.length : Int)) && decide ((t.l.length : Int) ≤ 8)))
  else false
mutual
def nodesT : Te → Bool
  | .mk k n s l => nodeT (.mk k n s l) && nodesTs l
def nodesTs : List Te → Bool
  | [] => true
  | t :: l => nodesT t && nodesTs l
end
theorem nodesTs_iff : ∀ {l : List Te}, nodesTs l = true ↔ ∀ t ∈ l, nodesT t = true
  | [] => ⟨fun _ t h => (by cases h), fun _ => rfl⟩
  | t :: l => by rw [nodesTs, Bool.and_eq_true, nodesTs_iff]; simp
theorem nodesT_all (t : Te) : nodesT t = (nodeT t && (List.range t.l.length).all fun i => nodesT (t.l.getD i default)) := by
  cases t with
  | mk k n s l =>
    rw [nodesT]
    congr 1
    rw [Bool.eq_iff_iff, nodesTs_iff, List.all_eq_true]
    refine ⟨fun h i hi => h _ (getD_mem (List.mem_range.1 hi)), fun h t ht => ?_⟩
    obtain ⟨i, hi, rfl⟩ := List.getElem_of_mem ht
    have := h i (List.mem_range.2 hi)
    rwa [show (Te.mk k n s l).l.getD i default = l[i] by simp [Te.l, List.getD_eq_getElem?_getD, List.getElem?_eq_getElem hi]] at this
def validT (t : Te) : Bool := decide (szT t ≤ 2000) && nodesT t

mutual
def idT : Te → Te → Bool
  | .mk k n s l, .mk k' n' s' l' => decide (k = k') && (decide (n = n') && (decide (s = s') && idTs l l'))
def idTs : List Te → List Te → Bool
  | [], [] => true
  | t :: l, u :: m => idT t u && idTs l m
  | _, _ => false
end
mutual
theorem idT_iff : ∀ (t u : Te), idT t u = true ↔ t = u
  | .mk k n s l, .mk k' n' s' l' => by simp [idT, idTs_iff l l']
theorem idTs_iff : ∀ (l m : List Te), idTs l m = true ↔ l = m
  | [], [] => by simp [idTs]
  | t :: l, u :: m => by simp [idTs, idT_iff t u, idTs_iff l m]
  | [], _ :: _ => by simp [idTs]
  | _ :: _, [] => by simp [idTs]
end
instance : DecidableEq Te := fun t u => if h : idT t u = true then .isTrue ((idT_iff t u).1 h) else .isFalse fun e => h ((idT_iff t u).2 e)
end Go.Proofs.Ytinclokohcommaa


namespace Go.Proofs.Ytinclokohcommaa
open Go.RowKit
set_option linter.unusedVariables false
set_option linter.unusedSimpArgs false

def mT (ds : List D) : Nat := szT (dT (ds.getD 0 .u))
def gCnt : List D → Option (List D)
  | [t, m] => if 1 ≤ m.int then some [.i (min (szT (dT t) : Int) m.int)] else none
  | _ => none
def gTi (f : Te → Int) : List D → Option (List D)
  | [t] => some [.i (f (dT t))]
  | _ => none
def gTb (f : Te → Bool) : List D → Option (List D)
  | [t] => some [.b (f (dT t))]
  | _ => none
def gTT (f : Te → Te) : List D → Option (List D)
  | [t] => some [eT (f (dT t))]
  | _ => none
def gTTb (f : Te → Te → Bool) : List D → Option (List D)
  | [t, v] => some [.b (f (dT t) (dT v))]
  | _ => none

theorem Te_l (k n : Int) (s : ByteArray) (l : List Te) : (Te.mk k n s l).l = l := rfl
theorem get_t {l : List Te} {k : Nat} (h : k < l.length) : (D.r (l.map eT)).get (k : Int) = eT (l.getD k default) := get_n eT h
theorem arg_sz {t : Te} {k : Nat} (h : k < t.l.length) : szT (t.l.getD k default) < szT t := szT_arg (getD_mem h)

theorem ok_ref03_Count : FOk q10 gCnt := q2u (m := mT) q4f fun N ih => fok_ref03_Count ih fun ds outs hw hg => by
  obtain ⟨d, r, rfl, hd, e, r', rfl, he, rfl⟩ := hw
  obtain ⟨t, rfl, ht⟩ := wfT hd
  obtain ⟨m, rfl, hm⟩ := wfI he
  simp only [cutM, mT, gCnt, List.getD_cons_zero, dT_eT, int_i, Option.ite_none_right_eq_some, Option.some.injEq] at hg
  obtain ⟨hsz, h1, rfl⟩ := hg
  have hl := ht.l
  rw [q37, q1j]
  refine ⟨fun st => ∃ k : Nat, k ≤ t.l.length ∧ st = [.i (min ((szTs (t.l.take k) : Int) + 1) m), .i k], fun st => t.l.length - (st.getD 1 .u).int.toNat, ⟨0, Nat.zero_le _, by simp [X.evs, X.ev, szTs]; omega⟩, ?_⟩
  rintro st - ⟨k, hk, rfl⟩
  rw [go_br]
  refine ⟨fun hlt => ?_, fun hlt => ?_⟩
  · simp only [q00, go_br, q01, q02, allSay, X.says, X.ev, X.evs, evl, tblS, List.getD_cons_zero, List.getD_cons_succ, List.getElem?_cons_zero, List.getElem?_cons_succ, tt_b, int_i, str_s, rs_r, Option.isSome_some, Option.getD_some, decide_eq_true_eq, decide_eq_false_iff_not, dS_eS, dC_eC, dU_eU, dW_eW, dY_eY, eC_0, eC_1, eU_0, eU_1, eW_0, eW_1, eW_2, eY_0, eY_1, eS_0, eS_1, eS_2, eS_3, eS_4, eS_5, List.length_map, i_inj, b_inj, s_inj, eC_eq, eU_eq, eW_eq, eY_eq, eS_eq, rng64, List.take_succ_cons, List.take_zero, List.nil_append, List.cons_append, decide_true, decide_false, Bool.or_true, true_and, and_true, dT_eT, eT_0, eT_1, eT_2, eT_3, eT_eq, eT_z, Bool.and_eq_true] at hlt
    obtain ⟨hkl, hlm⟩ := hlt
    have hkl' : k < t.l.length := by omega
    have ha := arg_sz hkl'
    have hs := szTs_snoc hkl'
    have hmn : 1 ≤ m - min ((szTs (t.l.take k) : Int) + 1) m := by omega
    simp only [q00, go_br, q01, q02, allSay, X.says, X.ev, X.evs, evl, tblS, List.getD_cons_zero, List.getD_cons_succ, List.getElem?_cons_zero, List.getElem?_cons_succ, tt_b, int_i, str_s, rs_r, Option.isSome_some, Option.getD_some, decide_eq_true_eq, decide_eq_false_iff_not, dS_eS, dC_eC, dU_eU, dW_eW, dY_eY, eC_0, eC_1, eU_0, eU_1, eW_0, eW_1, eW_2, eY_0, eY_1, eS_0, eS_1, eS_2, eS_3, eS_4, eS_5, List.length_map, i_inj, b_inj, s_inj, eC_eq, eU_eq, eW_eq, eY_eq, eS_eq, rng64, List.take_succ_cons, List.take_zero, List.nil_append, List.cons_append, decide_true, decide_false, Bool.or_true, true_and, and_true, dT_eT, eT_0, eT_1, eT_2, eT_3, eT_eq, eT_z, get_t hkl', cutM, mT, gCnt, if_pos hmn, if_pos (show szT (t.l.getD k default) < N by omega)]
    refine ⟨⟨by omega, by omega, by omega, by omega⟩, ⟨by omega, by omega⟩, ?_⟩
    rw [updB, if_pos rfl]
    refine ⟨⟨k + 1, by omega, ?_⟩, ?_⟩
    · rw [hs]
      simp
      omega
    · simp [D.int]
      omega
  · simp only [q00, go_br, q01, q02, allSay, X.says, X.ev, X.evs, evl, tblS, List.getD_cons_zero, List.getD_cons_succ, List.getElem?_cons_zero, List.getElem?_cons_succ, tt_b, int_i, str_s, rs_r, Option.isSome_some, Option.getD_some, decide_eq_true_eq, decide_eq_false_iff_not, dS_eS, dC_eC, dU_eU, dW_eW, dY_eY, eC_0, eC_1, eU_0, eU_1, eW_0, eW_1, eW_2, eY_0, eY_1, eS_0, eS_1, eS_2, eS_3, eS_4, eS_5, List.length_map, i_inj, b_inj, s_inj, eC_eq, eU_eq, eW_eq, eY_eq, eS_eq, rng64, List.take_succ_cons, List.take_zero, List.nil_append, List.cons_append, decide_true, decide_false, Bool.or_true, true_and, and_true, dT_eT, eT_0, eT_1, eT_2, eT_3, eT_eq, eT_z, Bool.and_eq_false_iff] at hlt
    simp only [q00, go_br, q01, q02, allSay, X.says, X.ev, X.evs, evl, tblS, List.getD_cons_zero, List.getD_cons_succ, List.getElem?_cons_zero, List.getElem?_cons_succ, tt_b, int_i, str_s, rs_r, Option.isSome_some, Option.getD_some, decide_eq_true_eq, decide_eq_false_iff_not, dS_eS, dC_eC, dU_eU, dW_eW, dY_eY, eC_0, eC_1, eU_0, eU_1, eW_0, eW_1, eW_2, eY_0, eY_1, eS_0, eS_1, eS_2, eS_3, eS_4, eS_5, List.length_map, i_inj, b_inj, s_inj, eC_eq, eU_eq, eW_eq, eY_eq, eS_eq, rng64, List.take_succ_cons, List.take_zero, List.nil_append, List.cons_append, decide_true, decide_false, Bool.or_true, true_and, and_true, dT_eT, eT_0, eT_1, eT_2, eT_3, eT_eq, eT_z]
    have hz := szT_l t
    have : min ((szTs (t.l.take k) : Int) + 1) m = min (szT t : Int) m := by
      rcases hlt with h | h
      · have : k = t.l.length := by omega
        subst this
        rw [List.take_length]
        omega
      · have h2 := szTs_app (t.l.take k) (t.l.drop k)
        rw [List.take_append_drop] at h2
        omega
    rw [this]
theorem ok_ref03_Size : FOk q0s (gTi fun t => min (szT t : Int) 2001) := fok_ref03_Size ok_ref03_Count fun ds outs hw hg => by
  obtain ⟨d, r, rfl, hd, rfl⟩ := hw
  obtain ⟨t, rfl, ht⟩ := wfT hd
  simp only [gTi, dT_eT, Option.some.injEq] at hg
  subst hg
  simp [q3u, q00, go_br, q01, q02, allSay, X.says, X.ev, X.evs, evl, tblS, List.getD_cons_zero, List.getD_cons_succ, List.getElem?_cons_zero, List.getElem?_cons_succ, tt_b, int_i, str_s, rs_r, Option.isSome_some, Option.getD_some, decide_eq_true_eq, decide_eq_false_iff_not, dS_eS, dC_eC, dU_eU, dW_eW, dY_eY, eC_0, eC_1, eU_0, eU_1, eW_0, eW_1, eW_2, eY_0, eY_1, eS_0, eS_1, eS_2, eS_3, eS_4, eS_5, List.length_map, i_inj, b_inj, s_inj, eC_eq, eU_eq, eW_eq, eY_eq, eS_eq, rng64, List.take_succ_cons, List.take_zero, List.nil_append, List.cons_append, decide_true, decide_false, Bool.or_true, true_and, and_true, dT_eT, eT_0, eT_1, eT_2, eT_3, eT_eq, eT_z, gCnt]
theorem ok_ref03_node : FOk q1q (gTb nodeT) := fok_ref03_node fun ds outs hw hg => by
  obtain ⟨d, r, rfl, hd, rfl⟩ := hw
  obtain ⟨t, rfl, ht⟩ := wfT hd
  simp only [gTb, dT_eT, Option.some.injEq] at hg
  subst hg
  simp only [q3v, q00, go_br, q01, q02, allSay, X.says, X.ev, X.evs, evl, tblS, List.getD_cons_zero, List.getD_cons_succ, List.getElem?_cons_zero, List.getElem?_cons_succ, tt_b, int_i, str_s, rs_r, Option.isSome_some, Option.getD_some, decide_eq_true_eq, decide_eq_false_iff_not, dS_eS, dC_eC, dU_eU, dW_eW, dY_eY, eC_0, eC_1, eU_0, eU_1, eW_0, eW_1, eW_2, eY_0, eY_1, eS_0, eS_1, eS_2, eS_3, eS_4, eS_5, List.length_map, i_inj, b_inj, s_inj, eC_eq, eU_eq, eW_eq, eY_eq, eS_eq, rng64, List.take_succ_cons, List.take_zero, List.nil_append, List.cons_append, decide_true, decide_false, Bool.or_true, true_and, and_true, dT_eT, eT_0, eT_1, eT_2, eT_3, eT_eq, eT_z, nodeT]
  by_cases h0 : t.k = 0
  · simp [h0, Bool.and_assoc]
  · by_cases h1 : t.k = 1
    · simp [h1]
    · by_cases h2 : t.k = 2
      · simp [h2, Bool.and_assoc]
      · by_cases h3 : t.k = 3
        · simp [h3, Bool.and_assoc]
        · simp [h0, h1, h2, h3]
theorem nodes_iff (t : Te) : nodesT t = true ↔ nodeT t = true ∧ ∀ j, j < t.l.length → nodesT (t.l.getD j default) = true := by
  rw [nodesT_all, Bool.and_eq_true, List.all_eq_true]
  simp
theorem ok_ref03_nodes : FOk q0z (gTb nodesT) := q2u (m := mT) q4d fun N ih => fok_ref03_nodes ok_ref03_node ih fun ds outs hw hg => by
  obtain ⟨d, r, rfl, hd, rfl⟩ := hw
  obtain ⟨t, rfl, ht⟩ := wfT hd
  simp only [cutM, mT, gTb, List.getD_cons_zero, dT_eT, int_i, Option.ite_none_right_eq_some, Option.some.injEq] at hg
  obtain ⟨hsz, rfl⟩ := hg
  have hl := ht.l
  simp only [q3g, q00, go_br, q01, q02, allSay, X.says, X.ev, X.evs, evl, tblS, List.getD_cons_zero, List.getD_cons_succ, List.getElem?_cons_zero, List.getElem?_cons_succ, tt_b, int_i, str_s, rs_r, Option.isSome_some, Option.getD_some, decide_eq_true_eq, decide_eq_false_iff_not, dS_eS, dC_eC, dU_eU, dW_eW, dY_eY, eC_0, eC_1, eU_0, eU_1, eW_0, eW_1, eW_2, eY_0, eY_1, eS_0, eS_1, eS_2, eS_3, eS_4, eS_5, List.length_map, i_inj, b_inj, s_inj, eC_eq, eU_eq, eW_eq, eY_eq, eS_eq, rng64, List.take_succ_cons, List.take_zero, List.nil_append, List.cons_append, decide_true, decide_false, Bool.or_true, true_and, and_true, dT_eT, eT_0, eT_1, eT_2, eT_3, eT_eq, eT_z, gTb]
  refine ⟨fun hn => ?_, fun hn => ?_⟩
  · rw [nodesT_all, show nodeT t = false by simpa using hn]
    rfl
  have hn : nodeT t = true := by simpa using hn
  rw [q1j]
  refine ⟨fun st => ∃ k : Nat, k ≤ t.l.length ∧ st = [.b false, .i k] ∧ ∀ j, j < k → nodesT (t.l.getD j default) = true, fun st => t.l.length - (st.getD 1 .u).int.toNat, ⟨0, Nat.zero_le _, rfl, fun j hj => absurd hj (Nat.not_lt_zero _)⟩, ?_⟩
  rintro st - ⟨k, hk, rfl, hP⟩
  rw [go_br]
  refine ⟨fun hlt => ?_, fun hlt => ?_⟩
  · simp only [q00, go_br, q01, q02, allSay, X.says, X.ev, X.evs, evl, tblS, List.getD_cons_zero, List.getD_cons_succ, List.getElem?_cons_zero, List.getElem?_cons_succ, tt_b, int_i, str_s, rs_r, Option.isSome_some, Option.getD_some, decide_eq_true_eq, decide_eq_false_iff_not, dS_eS, dC_eC, dU_eU, dW_eW, dY_eY, eC_0, eC_1, eU_0, eU_1, eW_0, eW_1, eW_2, eY_0, eY_1, eS_0, eS_1, eS_2, eS_3, eS_4, eS_5, List.length_map, i_inj, b_inj, s_inj, eC_eq, eU_eq, eW_eq, eY_eq, eS_eq, rng64, List.take_succ_cons, List.take_zero, List.nil_append, List.cons_append, decide_true, decide_false, Bool.or_true, true_and, and_true, dT_eT, eT_0, eT_1, eT_2, eT_3, eT_eq, eT_z] at hlt
    have hkl' : k < t.l.length := by omega
    have ha := arg_sz hkl'
    simp only [q00, go_br, q01, q02, allSay, X.says, X.ev, X.evs, evl, tblS, List.getD_cons_zero, List.getD_cons_succ, List.getElem?_cons_zero, List.getElem?_cons_succ, tt_b, int_i, str_s, rs_r, Option.isSome_some, Option.getD_some, decide_eq_true_eq, decide_eq_false_iff_not, dS_eS, dC_eC, dU_eU, dW_eW, dY_eY, eC_0, eC_1, eU_0, eU_1, eW_0, eW_1, eW_2, eY_0, eY_1, eS_0, eS_1, eS_2, eS_3, eS_4, eS_5, List.length_map, i_inj, b_inj, s_inj, eC_eq, eU_eq, eW_eq, eY_eq, eS_eq, rng64, List.take_succ_cons, List.take_zero, List.nil_append, List.cons_append, decide_true, decide_false, Bool.or_true, true_and, and_true, dT_eT, eT_0, eT_1, eT_2, eT_3, eT_eq, eT_z, get_t hkl', cutM, mT, gTb, if_pos (show szT (t.l.getD k default) < N by omega)]
    refine ⟨⟨by omega, by omega⟩, fun hx => ?_, fun hx => ⟨⟨by omega, by omega⟩, ?_⟩⟩
    · have : nodesT t = false := by
        cases hh : nodesT t with
        | false => rfl
        | true => rw [((nodes_iff t).1 hh).2 k hkl'] at hx; cases hx
      rw [this]
    · rw [updB, if_pos rfl]
      refine ⟨⟨k + 1, by omega, by simp, upto_succ hP (by simpa using hx)⟩, ?_⟩
      simp [D.int]
      omega
  · simp only [q00, go_br, q01, q02, allSay, X.says, X.ev, X.evs, evl, tblS, List.getD_cons_zero, List.getD_cons_succ, List.getElem?_cons_zero, List.getElem?_cons_succ, tt_b, int_i, str_s, rs_r, Option.isSome_some, Option.getD_some, decide_eq_true_eq, decide_eq_false_iff_not, dS_eS, dC_eC, dU_eU, dW_eW, dY_eY, eC_0, eC_1, eU_0, eU_1, eW_0, eW_1, eW_2, eY_0, eY_1, eS_0, eS_1, eS_2, eS_3, eS_4, eS_5, List.length_map, i_inj, b_inj, s_inj, eC_eq, eU_eq, eW_eq, eY_eq, eS_eq, rng64, List.take_succ_cons, List.take_zero, List.nil_append, List.cons_append, decide_true, decide_false, Bool.or_true, true_and, and_true, dT_eT, eT_0, eT_1, eT_2, eT_3, eT_eq, eT_z] at hlt ⊢
    have : k = t.l.length := by omega
    subst this
    rw [(nodes_iff t).2 ⟨hn, hP⟩]
theorem q35 : FOk q0e (gTb validT) := fok_ref03_Valid ok_ref03_Size ok_ref03_nodes fun ds outs hw hg => by
  obtain ⟨d, r, rfl, hd, rfl⟩ := hw
  obtain ⟨t, rfl, ht⟩ := wfT hd
  simp only [gTb, dT_eT, Option.some.injEq] at hg
  subst hg
  have e : decide (min (szT t : Int) 2001 ≤ 2000) = decide (szT t ≤ 2000) := by rw [decide_eq_decide]; omega
  simp [q3i, q00, go_br, q01, q02, allSay, X.says, X.ev, X.evs, evl, tblS, List.getD_cons_zero, List.getD_cons_succ, List.getElem?_cons_zero, List.getElem?_cons_succ, tt_b, int_i, str_s, rs_r, Option.isSome_some, Option.getD_some, decide_eq_true_eq, decide_eq_false_iff_not, dS_eS, dC_eC, dU_eU, dW_eW, dY_eY, eC_0, eC_1, eU_0, eU_1, eW_0, eW_1, eW_2, eY_0, eY_1, eS_0, eS_1, eS_2, eS_3, eS_4, eS_5, List.length_map, i_inj, b_inj, s_inj, eC_eq, eU_eq, eW_eq, eY_eq, eS_eq, rng64, List.take_succ_cons, List.take_zero, List.nil_append, List.cons_append, decide_true, decide_false, Bool.or_true, true_and, and_true, dT_eT, eT_0, eT_1, eT_2, eT_3, eT_eq, eT_z, gTi, gTb, validT, e]
theorem same_iff {t u : Te} : idT t u = true ↔ t.k = u.k ∧ t.n = u.n ∧ t.s = u.s ∧ t.l.length = u.l.length ∧ ∀ j, j < t.l.length → idT (t.l.getD j default) (u.l.getD j default) = true := by
  rw [idT_iff]
  cases t with
  | mk k n s l =>
    cases u with
    | mk k' n' s' l' =>
      simp only [Te.k, Te.n, Te.s, Te.l, Te.mk.injEq, idT_iff]
      refine ⟨?_, ?_⟩
      · rintro ⟨rfl, rfl, rfl, rfl⟩
        exact ⟨rfl, rfl, rfl, rfl, fun _ _ => rfl⟩
      · rintro ⟨rfl, rfl, rfl, h1, h2⟩
        refine ⟨rfl, rfl, rfl, List.ext_getElem h1 fun i hi hi' => ?_⟩
        have := h2 i hi
        simpa [List.getD_eq_getElem?_getD, List.getElem?_eq_getElem hi, List.getElem?_eq_getElem hi'] using this
theorem ok_ref03_identical : FOk q0j (gTTb idT) := q2u (m := mT) q34 fun N ih => q5a ih fun ds outs hw hg => by
  obtain ⟨d, r, rfl, hd, e, r', rfl, he, rfl⟩ := hw
  obtain ⟨t, rfl, ht⟩ := wfT hd
  obtain ⟨u, rfl, hu⟩ := wfT he
  simp only [cutM, mT, gTTb, List.getD_cons_zero, dT_eT, int_i, Option.ite_none_right_eq_some, Option.some.injEq] at hg
  obtain ⟨hsz, rfl⟩ := hg
  have hl := ht.l
  have no : (¬ idT t u = true) → [D.b false] = [D.b (idT t u)] := fun h => by rw [Bool.eq_false_iff.2 h]
  simp only [q2q, q00, go_br, q01, q02, allSay, X.says, X.ev, X.evs, evl, tblS, List.getD_cons_zero, List.getD_cons_succ, List.getElem?_cons_zero, List.getElem?_cons_succ, tt_b, int_i, str_s, rs_r, Option.isSome_some, Option.getD_some, decide_eq_true_eq, decide_eq_false_iff_not, dS_eS, dC_eC, dU_eU, dW_eW, dY_eY, eC_0, eC_1, eU_0, eU_1, eW_0, eW_1, eW_2, eY_0, eY_1, eS_0, eS_1, eS_2, eS_3, eS_4, eS_5, List.length_map, i_inj, b_inj, s_inj, eC_eq, eU_eq, eW_eq, eY_eq, eS_eq, rng64, List.take_succ_cons, List.take_zero, List.nil_append, List.cons_append, decide_true, decide_false, Bool.or_true, true_and, and_true, dT_eT, eT_0, eT_1, eT_2, eT_3, eT_eq, eT_z, gTTb]
  refine ⟨fun hn => no fun h => ?_, fun hn => ?_⟩
  · obtain ⟨e1, e2, e3, e4, -⟩ := same_iff.1 h
    simp [e1, e2, e3, e4] at hn
  simp only [Bool.or_eq_false_iff, Bool.not_eq_false', decide_eq_true_eq] at hn
  obtain ⟨⟨⟨e1, e2⟩, e3⟩, e4⟩ := hn
  have e4 : t.l.length = u.l.length := by omega
  rw [q1j]
  refine ⟨fun st => ∃ k : Nat, k ≤ t.l.length ∧ st = [.b false, .i k] ∧ ∀ j, j < k → idT (t.l.getD j default) (u.l.getD j default) = true, fun st => t.l.length - (st.getD 1 .u).int.toNat, ⟨0, Nat.zero_le _, rfl, fun j hj => absurd hj (Nat.not_lt_zero _)⟩, ?_⟩
  rintro st - ⟨k, hk, rfl, hP⟩
  rw [go_br]
  refine ⟨fun hlt => ?_, fun hlt => ?_⟩
  · simp only [q00, go_br, q01, q02, allSay, X.says, X.ev, X.evs, evl, tblS, List.getD_cons_zero, List.getD_cons_succ, List.getElem?_cons_zero, List.getElem?_cons_succ, tt_b, int_i, str_s, rs_r, Option.isSome_some, Option.getD_some, decide_eq_true_eq, decide_eq_false_iff_not, dS_eS, dC_eC, dU_eU, dW_eW, dY_eY, eC_0, eC_1, eU_0, eU_1, eW_0, eW_1, eW_2, eY_0, eY_1, eS_0, eS_1, eS_2, eS_3, eS_4, eS_5, List.length_map, i_inj, b_inj, s_inj, eC_eq, eU_eq, eW_eq, eY_eq, eS_eq, rng64, List.take_succ_cons, List.take_zero, List.nil_append, List.cons_append, decide_true, decide_false, Bool.or_true, true_and, and_true, dT_eT, eT_0, eT_1, eT_2, eT_3, eT_eq, eT_z] at hlt
    have hkl' : k < t.l.length := by omega
    have hku' : k < u.l.length := by omega
    have ha := arg_sz hkl'
    simp only [q00, go_br, q01, q02, allSay, X.says, X.ev, X.evs, evl, tblS, List.getD_cons_zero, List.getD_cons_succ, List.getElem?_cons_zero, List.getElem?_cons_succ, tt_b, int_i, str_s, rs_r, Option.isSome_some, Option.getD_some, decide_eq_true_eq, decide_eq_false_iff_not, dS_eS, dC_eC, dU_eU, dW_eW, dY_eY, eC_0, eC_1, eU_0, eU_1, eW_0, eW_1, eW_2, eY_0, eY_1, eS_0, eS_1, eS_2, eS_3, eS_4, eS_5, List.length_map, i_inj, b_inj, s_inj, eC_eq, eU_eq, eW_eq, eY_eq, eS_eq, rng64, List.take_succ_cons, List.take_zero, List.nil_append, List.cons_append, decide_true, decide_false, Bool.or_true, true_and, and_true, dT_eT, eT_0, eT_1, eT_2, eT_3, eT_eq, eT_z, get_t hkl', get_t hku', cutM, mT, gTTb, if_pos (show szT (t.l.getD k default) < N by omega)]
    refine ⟨⟨by omega, by omega, by omega, by omega⟩, fun hx => no fun h => ?_, fun hx => ⟨⟨by omega, by omega⟩, ?_⟩⟩
    · rw [(same_iff.1 h).2.2.2.2 k hkl'] at hx
      cases hx
    · rw [updB, if_pos rfl]
      refine ⟨⟨k + 1, by omega, by simp, upto_succ hP (by simpa using hx)⟩, ?_⟩
      simp [D.int]
      omega
  · simp only [q00, go_br, q01, q02, allSay, X.says, X.ev, X.evs, evl, tblS, List.getD_cons_zero, List.getD_cons_succ, List.getElem?_cons_zero, List.getElem?_cons_succ, tt_b, int_i, str_s, rs_r, Option.isSome_some, Option.getD_some, decide_eq_true_eq, decide_eq_false_iff_not, dS_eS, dC_eC, dU_eU, dW_eW, dY_eY, eC_0, eC_1, eU_0, eU_1, eW_0, eW_1, eW_2, eY_0, eY_1, eS_0, eS_1, eS_2, eS_3, eS_4, eS_5, List.length_map, i_inj, b_inj, s_inj, eC_eq, eU_eq, eW_eq, eY_eq, eS_eq, rng64, List.take_succ_cons, List.take_zero, List.nil_append, List.cons_append, decide_true, decide_false, Bool.or_true, true_and, and_true, dT_eT, eT_0, eT_1, eT_2, eT_3, eT_eq, eT_z] at hlt ⊢
    have : k = t.l.length := by omega
    subst this
    rw [same_iff.2 ⟨e1, e2, e3, e4, hP⟩]
def sameT (t u : Te) : Bool := validT t && (validT u && idT t u)
theorem ok_ref03_Same : FOk q1d (gTTb sameT) := fok_ref03_Same q35 ok_ref03_identical fun ds outs hw hg => by
  obtain ⟨d, r, rfl, hd, e, r', rfl, he, rfl⟩ := hw
  obtain ⟨t, rfl, ht⟩ := wfT hd
  obtain ⟨u, rfl, hu⟩ := wfT he
  simp only [gTTb, dT_eT, Option.some.injEq] at hg
  subst hg
  simp [q3r, q00, go_br, q01, q02, allSay, X.says, X.ev, X.evs, evl, tblS, List.getD_cons_zero, List.getD_cons_succ, List.getElem?_cons_zero, List.getElem?_cons_succ, tt_b, int_i, str_s, rs_r, Option.isSome_some, Option.getD_some, decide_eq_true_eq, decide_eq_false_iff_not, dS_eS, dC_eC, dU_eU, dW_eW, dY_eY, eC_0, eC_1, eU_0, eU_1, eW_0, eW_1, eW_2, eY_0, eY_1, eS_0, eS_1, eS_2, eS_3, eS_4, eS_5, List.length_map, i_inj, b_inj, s_inj, eC_eq, eU_eq, eW_eq, eY_eq, eS_eq, rng64, List.take_succ_cons, List.take_zero, List.nil_append, List.cons_append, decide_true, decide_false, Bool.or_true, true_and, and_true, dT_eT, eT_0, eT_1, eT_2, eT_3, eT_eq, eT_z, gTb, gTTb, sameT, Bool.and_assoc]

def gSz1 : List D → Option (List D)
  | [t, m] => if 1 ≤ m.int then some [.i (m.int - min (szT (dT t) : Int) m.int)] else none
  | _ => none
theorem ok_term_Size_1 : FOk q11 gSz1 := q2u (m := mT) q4i fun N ih => fok_term_Size_1 ih fun ds outs hw hg => by
  obtain ⟨d, r, rfl, hd, e, r', rfl, he, rfl⟩ := hw
  obtain ⟨t, rfl, ht⟩ := wfT hd
  obtain ⟨m, rfl, hm⟩ := wfI he
  simp only [cutM, mT, gSz1, List.getD_cons_zero, dT_eT, int_i, Option.ite_none_right_eq_some, Option.some.injEq] at hg
  obtain ⟨hsz, h1, rfl⟩ := hg
  have hl := ht.l
  rw [q3f, q00]
  refine ⟨by simp only [q00, go_br, q01, q02, allSay, X.says, X.ev, X.evs, evl, tblS, List.getD_cons_zero, List.getD_cons_succ, List.getElem?_cons_zero, List.getElem?_cons_succ, tt_b, int_i, str_s, rs_r, Option.isSome_some, Option.getD_some, decide_eq_true_eq, decide_eq_false_iff_not, dS_eS, dC_eC, dU_eU, dW_eW, dY_eY, eC_0, eC_1, eU_0, eU_1, eW_0, eW_1, eW_2, eY_0, eY_1, eS_0, eS_1, eS_2, eS_3, eS_4, eS_5, List.length_map, i_inj, b_inj, s_inj, eC_eq, eU_eq, eW_eq, eY_eq, eS_eq, rng64, List.take_succ_cons, List.take_zero, List.nil_append, List.cons_append, decide_true, decide_false, Bool.or_true, true_and, and_true, dT_eT, eT_0, eT_1, eT_2, eT_3, eT_eq, eT_z]; omega, ?_⟩
  rw [q1j]
  refine ⟨fun st => ∃ k : Nat, k ≤ t.l.length ∧ st = [.i k, .i (m - min ((szTs (t.l.take k) : Int) + 1) m)], fun st => t.l.length - (st.getD 0 .u).int.toNat, ⟨0, Nat.zero_le _, by simp [X.evs, X.ev, szTs, evl, D.int]; omega⟩, ?_⟩
  rintro st - ⟨k, hk, rfl⟩
  rw [go_br]
  refine ⟨fun hlt => ?_, fun hlt => ?_⟩
  · simp only [q00, go_br, q01, q02, allSay, X.says, X.ev, X.evs, evl, tblS, List.getD_cons_zero, List.getD_cons_succ, List.getElem?_cons_zero, List.getElem?_cons_succ, tt_b, int_i, str_s, rs_r, Option.isSome_some, Option.getD_some, decide_eq_true_eq, decide_eq_false_iff_not, dS_eS, dC_eC, dU_eU, dW_eW, dY_eY, eC_0, eC_1, eU_0, eU_1, eW_0, eW_1, eW_2, eY_0, eY_1, eS_0, eS_1, eS_2, eS_3, eS_4, eS_5, List.length_map, i_inj, b_inj, s_inj, eC_eq, eU_eq, eW_eq, eY_eq, eS_eq, rng64, List.take_succ_cons, List.take_zero, List.nil_append, List.cons_append, decide_true, decide_false, Bool.or_true, true_and, and_true, dT_eT, eT_0, eT_1, eT_2, eT_3, eT_eq, eT_z, Bool.and_eq_true] at hlt
    obtain ⟨hkl, hlm⟩ := hlt
    have hkl' : k < t.l.length := by omega
    have ha := arg_sz hkl'
    have hs := szTs_snoc hkl'
    have hmn : 1 ≤ m - min ((szTs (t.l.take k) : Int) + 1) m := by omega
    simp only [q00, go_br, q01, q02, allSay, X.says, X.ev, X.evs, evl, tblS, List.getD_cons_zero, List.getD_cons_succ, List.getElem?_cons_zero, List.getElem?_cons_succ, tt_b, int_i, str_s, rs_r, Option.isSome_some, Option.getD_some, decide_eq_true_eq, decide_eq_false_iff_not, dS_eS, dC_eC, dU_eU, dW_eW, dY_eY, eC_0, eC_1, eU_0, eU_1, eW_0, eW_1, eW_2, eY_0, eY_1, eS_0, eS_1, eS_2, eS_3, eS_4, eS_5, List.length_map, i_inj, b_inj, s_inj, eC_eq, eU_eq, eW_eq, eY_eq, eS_eq, rng64, List.take_succ_cons, List.take_zero, List.nil_append, List.cons_append, decide_true, decide_false, Bool.or_true, true_and, and_true, dT_eT, eT_0, eT_1, eT_2, eT_3, eT_eq, eT_z, get_t hkl', cutM, mT, gSz1, if_pos hmn, if_pos (show szT (t.l.getD k default) < N by omega)]
    refine ⟨⟨by omega, by omega⟩, ⟨by omega, by omega⟩, ?_⟩
    rw [updB, if_pos rfl]
    refine ⟨⟨k + 1, by omega, ?_⟩, ?_⟩
    · rw [hs]
      simp
      omega
    · simp [D.int]
      omega
  · simp only [q00, go_br, q01, q02, allSay, X.says, X.ev, X.evs, evl, tblS, List.getD_cons_zero, List.getD_cons_succ, List.getElem?_cons_zero, List.getElem?_cons_succ, tt_b, int_i, str_s, rs_r, Option.isSome_some, Option.getD_some, decide_eq_true_eq, decide_eq_false_iff_not, dS_eS, dC_eC, dU_eU, dW_eW, dY_eY, eC_0, eC_1, eU_0, eU_1, eW_0, eW_1, eW_2, eY_0, eY_1, eS_0, eS_1, eS_2, eS_3, eS_4, eS_5, List.length_map, i_inj, b_inj, s_inj, eC_eq, eU_eq, eW_eq, eY_eq, eS_eq, rng64, List.take_succ_cons, List.take_zero, List.nil_append, List.cons_append, decide_true, decide_false, Bool.or_true, true_and, and_true, dT_eT, eT_0, eT_1, eT_2, eT_3, eT_eq, eT_z, Bool.and_eq_false_iff] at hlt
    simp only [q00, go_br, q01, q02, allSay, X.says, X.ev, X.evs, evl, tblS, List.getD_cons_zero, List.getD_cons_succ, List.getElem?_cons_zero, List.getElem?_cons_succ, tt_b, int_i, str_s, rs_r, Option.isSome_some, Option.getD_some, decide_eq_true_eq, decide_eq_false_iff_not, dS_eS, dC_eC, dU_eU, dW_eW, dY_eY, eC_0, eC_1, eU_0, eU_1, eW_0, eW_1, eW_2, eY_0, eY_1, eS_0, eS_1, eS_2, eS_3, eS_4, eS_5, List.length_map, i_inj, b_inj, s_inj, eC_eq, eU_eq, eW_eq, eY_eq, eS_eq, rng64, List.take_succ_cons, List.take_zero, List.nil_append, List.cons_append, decide_true, decide_false, Bool.or_true, true_and, and_true, dT_eT, eT_0, eT_1, eT_2, eT_3, eT_eq, eT_z]
    have hz := szT_l t
    have : m - min ((szTs (t.l.take k) : Int) + 1) m = m - min (szT t : Int) m := by
      rcases hlt with h | h
      · have : k = t.l.length := by omega
        subst this
        rw [List.take_length]
        omega
      · have h2 := szTs_app (t.l.take k) (t.l.drop k)
        rw [List.take_append_drop] at h2
        omega
    rw [this]
theorem ok_term_Size : FOk q1u (gTi fun t => min (szT t : Int) 2001) := fok_term_Size ok_term_Size_1 fun ds outs hw hg => by
  obtain ⟨d, r, rfl, hd, rfl⟩ := hw
  obtain ⟨t, rfl, ht⟩ := wfT hd
  simp only [gTi, dT_eT, Option.some.injEq] at hg
  subst hg
  simp [q45, q00, go_br, q01, q02, allSay, X.says, X.ev, X.evs, evl, tblS, List.getD_cons_zero, List.getD_cons_succ, List.getElem?_cons_zero, List.getElem?_cons_succ, tt_b, int_i, str_s, rs_r, Option.isSome_some, Option.getD_some, decide_eq_true_eq, decide_eq_false_iff_not, dS_eS, dC_eC, dU_eU, dW_eW, dY_eY, eC_0, eC_1, eU_0, eU_1, eW_0, eW_1, eW_2, eY_0, eY_1, eS_0, eS_1, eS_2, eS_3, eS_4, eS_5, List.length_map, i_inj, b_inj, s_inj, eC_eq, eU_eq, eW_eq, eY_eq, eS_eq, rng64, List.take_succ_cons, List.take_zero, List.nil_append, List.cons_append, decide_true, decide_false, Bool.or_true, true_and, and_true, dT_eT, eT_0, eT_1, eT_2, eT_3, eT_eq, eT_z, gSz1]
  omega
theorem ok_term_fits : FOk q0v (gTb nodesT) := q2u (m := mT) q4z fun N ih => fok_term_fits ih fun ds outs hw hg => by
  obtain ⟨d, r, rfl, hd, rfl⟩ := hw
  obtain ⟨t, rfl, ht⟩ := wfT hd
  simp only [cutM, mT, gTb, List.getD_cons_zero, dT_eT, int_i, Option.ite_none_right_eq_some, Option.some.injEq] at hg
  obtain ⟨hsz, rfl⟩ := hg
  have hl := ht.l
  have key : ∀ (x : X), x.ev (evl (tblS [(q0v, cutM mT N (gTb nodesT))]) [eT t]) = .b (nodeT t) → Tree.go (tblS [(q0v, cutM mT N (gTb nodesT))]) (fun o => o = [D.b (nodesT t)]) (.loop 12 1 [x, (.lit (.i 0))] (.br (.and (.lt (.tok 2) (.len (.fld (.tok 0) 3))) (.tok 1)) (.need [(.le (.lit (.i 0)) (.tok 2)), (.lt (.tok 2) (.len (.fld (.tok 0) 3))), (.ok 0 [(.get (.fld (.tok 0) 3) (.tok 2))])] (.need [(.rng .i64 (.add (.tok 2) (.lit (.i 1))))] (.back 12 [(.call 0 0 [(.get (.fld (.tok 0) 3) (.tok 2))]), (.add (.tok 2) (.lit (.i 1)))]))) (.leaf [(.tok 1)]))) [eT t] fun _ _ => False := by
    intro x hx
    rw [q1j]
    refine ⟨fun st => ∃ (k : Nat) (v : Bool), k ≤ t.l.length ∧ st = [.b v, .i k] ∧ (v = true ↔ nodeT t = true ∧ ∀ j, j < k → nodesT (t.l.getD j default) = true), fun st => t.l.length - (st.getD 1 .u).int.toNat, ⟨0, nodeT t, Nat.zero_le _, by simp only [X.evs, hx, X.ev]; rfl, by simp⟩, ?_⟩
    rintro st - ⟨k, v, hk, rfl, hv⟩
    rw [go_br]
    refine ⟨fun hlt => ?_, fun hlt => ?_⟩
    · simp only [q00, go_br, q01, q02, allSay, X.says, X.ev, X.evs, evl, tblS, List.getD_cons_zero, List.getD_cons_succ, List.getElem?_cons_zero, List.getElem?_cons_succ, tt_b, int_i, str_s, rs_r, Option.isSome_some, Option.getD_some, decide_eq_true_eq, decide_eq_false_iff_not, dS_eS, dC_eC, dU_eU, dW_eW, dY_eY, eC_0, eC_1, eU_0, eU_1, eW_0, eW_1, eW_2, eY_0, eY_1, eS_0, eS_1, eS_2, eS_3, eS_4, eS_5, List.length_map, i_inj, b_inj, s_inj, eC_eq, eU_eq, eW_eq, eY_eq, eS_eq, rng64, List.take_succ_cons, List.take_zero, List.nil_append, List.cons_append, decide_true, decide_false, Bool.or_true, true_and, and_true, dT_eT, eT_0, eT_1, eT_2, eT_3, eT_eq, eT_z, Bool.and_eq_true] at hlt
      obtain ⟨hlt, rfl⟩ := hlt
      have hkl' : k < t.l.length := by omega
      have ha := arg_sz hkl'
      simp only [q00, go_br, q01, q02, allSay, X.says, X.ev, X.evs, evl, tblS, List.getD_cons_zero, List.getD_cons_succ, List.getElem?_cons_zero, List.getElem?_cons_succ, tt_b, int_i, str_s, rs_r, Option.isSome_some, Option.getD_some, decide_eq_true_eq, decide_eq_false_iff_not, dS_eS, dC_eC, dU_eU, dW_eW, dY_eY, eC_0, eC_1, eU_0, eU_1, eW_0, eW_1, eW_2, eY_0, eY_1, eS_0, eS_1, eS_2, eS_3, eS_4, eS_5, List.length_map, i_inj, b_inj, s_inj, eC_eq, eU_eq, eW_eq, eY_eq, eS_eq, rng64, List.take_succ_cons, List.take_zero, List.nil_append, List.cons_append, decide_true, decide_false, Bool.or_true, true_and, and_true, dT_eT, eT_0, eT_1, eT_2, eT_3, eT_eq, eT_z, get_t hkl', cutM, mT, gTb, if_pos (show szT (t.l.getD k default) < N by omega)]
      refine ⟨⟨by omega, by omega⟩, ⟨by omega, by omega⟩, ?_⟩
      rw [updB, if_pos rfl]
      have hv' := hv.1 rfl
      refine ⟨⟨k + 1, _, by omega, rfl, ⟨fun h => ⟨hv'.1, upto_succ hv'.2 h⟩, fun h => h.2 k (Nat.lt_succ_self _)⟩⟩, ?_⟩
      simp [D.int]
      omega
    · simp only [q00, go_br, q01, q02, allSay, X.says, X.ev, X.evs, evl, tblS, List.getD_cons_zero, List.getD_cons_succ, List.getElem?_cons_zero, List.getElem?_cons_succ, tt_b, int_i, str_s, rs_r, Option.isSome_some, Option.getD_some, decide_eq_true_eq, decide_eq_false_iff_not, dS_eS, dC_eC, dU_eU, dW_eW, dY_eY, eC_0, eC_1, eU_0, eU_1, eW_0, eW_1, eW_2, eY_0, eY_1, eS_0, eS_1, eS_2, eS_3, eS_4, eS_5, List.length_map, i_inj, b_inj, s_inj, eC_eq, eU_eq, eW_eq, eY_eq, eS_eq, rng64, List.take_succ_cons, List.take_zero, List.nil_append, List.cons_append, decide_true, decide_false, Bool.or_true, true_and, and_true, dT_eT, eT_0, eT_1, eT_2, eT_3, eT_eq, eT_z, Bool.and_eq_false_iff] at hlt
      simp only [q00, go_br, q01, q02, allSay, X.says, X.ev, X.evs, evl, tblS, List.getD_cons_zero, List.getD_cons_succ, List.getElem?_cons_zero, List.getElem?_cons_succ, tt_b, int_i, str_s, rs_r, Option.isSome_some, Option.getD_some, decide_eq_true_eq, decide_eq_false_iff_not, dS_eS, dC_eC, dU_eU, dW_eW, dY_eY, eC_0, eC_1, eU_0, eU_1, eW_0, eW_1, eW_2, eY_0, eY_1, eS_0, eS_1, eS_2, eS_3, eS_4, eS_5, List.length_map, i_inj, b_inj, s_inj, eC_eq, eU_eq, eW_eq, eY_eq, eS_eq, rng64, List.take_succ_cons, List.take_zero, List.nil_append, List.cons_append, decide_true, decide_false, Bool.or_true, true_and, and_true, dT_eT, eT_0, eT_1, eT_2, eT_3, eT_eq, eT_z]
      rw [show v = nodesT t from ?_]
      cases hvv : v with
      | false =>
        cases hh : nodesT t with
        | false => rfl
        | true =>
          have h2 := (nodes_iff t).1 hh
          rw [hv.2 ⟨h2.1, fun j hj => h2.2 j (by omega)⟩] at hvv
          cases hvv
      | true =>
        have : k = t.l.length := by
          rcases hlt with h | h
          · omega
          · rw [hvv] at h; cases h
        subst this
        exact ((nodes_iff t).2 (hv.1 hvv)).symm
  rw [q49]
  simp only [go_br]
  have e0 : ∀ z : Int, (X.eq (.fld (.tok 0) 0) (.lit (.i z))).ev (evl (tblS [(q0v, cutM mT N (gTb nodesT))]) [eT t]) = .b (decide (t.k = z)) := fun z => by
    simp only [q00, go_br, q01, q02, allSay, X.says, X.ev, X.evs, evl, tblS, List.getD_cons_zero, List.getD_cons_succ, List.getElem?_cons_zero, List.getElem?_cons_succ, tt_b, int_i, str_s, rs_r, Option.isSome_some, Option.getD_some, decide_eq_true_eq, decide_eq_false_iff_not, dS_eS, dC_eC, dU_eU, dW_eW, dY_eY, eC_0, eC_1, eU_0, eU_1, eW_0, eW_1, eW_2, eY_0, eY_1, eS_0, eS_1, eS_2, eS_3, eS_4, eS_5, List.length_map, i_inj, b_inj, s_inj, eC_eq, eU_eq, eW_eq, eY_eq, eS_eq, rng64, List.take_succ_cons, List.take_zero, List.nil_append, List.cons_append, decide_true, decide_false, Bool.or_true, true_and, and_true, dT_eT, eT_0, eT_1, eT_2, eT_3, eT_eq, eT_z]
  simp only [e0, tt_b, decide_eq_true_eq, decide_eq_false_iff_not]
  refine ⟨fun h => key _ ?_, fun h0 => ⟨fun h => key _ ?_, fun h1 => ⟨fun h => key _ ?_, fun h2 => ⟨fun h => key _ ?_, fun h3 => key _ ?_⟩⟩⟩⟩
  all_goals simp only [q00, go_br, q01, q02, allSay, X.says, X.ev, X.evs, evl, tblS, List.getD_cons_zero, List.getD_cons_succ, List.getElem?_cons_zero, List.getElem?_cons_succ, tt_b, int_i, str_s, rs_r, Option.isSome_some, Option.getD_some, decide_eq_true_eq, decide_eq_false_iff_not, dS_eS, dC_eC, dU_eU, dW_eW, dY_eY, eC_0, eC_1, eU_0, eU_1, eW_0, eW_1, eW_2, eY_0, eY_1, eS_0, eS_1, eS_2, eS_3, eS_4, eS_5, List.length_map, i_inj, b_inj, s_inj, eC_eq, eU_eq, eW_eq, eY_eq, eS_eq, rng64, List.take_succ_cons, List.take_zero, List.nil_append, List.cons_append, decide_true, decide_false, Bool.or_true, true_and, and_true, dT_eT, eT_0, eT_1, eT_2, eT_3, eT_eq, eT_z, nodeT]
  · simp [h, Bool.and_assoc]
  · simp [h, Bool.and_assoc]
  · simp [h, Bool.and_assoc]
  · have e8 : decide (0 < (t.l.length : Int)) = decide (1 ≤ (t.l.length : Int)) := rfl
    rw [e8]
    simp [h, Bool.and_assoc]
  · simp [h0, h1, h2, h3]
theorem ok_term_Valid : FOk q16 (gTb validT) := fok_term_Valid ok_term_Size ok_term_fits fun ds outs hw hg => by
  obtain ⟨d, r, rfl, hd, rfl⟩ := hw
  obtain ⟨t, rfl, ht⟩ := wfT hd
  simp only [gTb, dT_eT, Option.some.injEq] at hg
  subst hg
  have e : decide (min (szT t : Int) 2001 ≤ 2000) = decide (szT t ≤ 2000) := by rw [decide_eq_decide]; omega
  simp [q3p, q00, go_br, q01, q02, allSay, X.says, X.ev, X.evs, evl, tblS, List.getD_cons_zero, List.getD_cons_succ, List.getElem?_cons_zero, List.getElem?_cons_succ, tt_b, int_i, str_s, rs_r, Option.isSome_some, Option.getD_some, decide_eq_true_eq, decide_eq_false_iff_not, dS_eS, dC_eC, dU_eU, dW_eW, dY_eY, eC_0, eC_1, eU_0, eU_1, eW_0, eW_1, eW_2, eY_0, eY_1, eS_0, eS_1, eS_2, eS_3, eS_4, eS_5, List.length_map, i_inj, b_inj, s_inj, eC_eq, eU_eq, eW_eq, eY_eq, eS_eq, rng64, List.take_succ_cons, List.take_zero, List.nil_append, List.cons_append, decide_true, decide_false, Bool.or_true, true_and, and_true, dT_eT, eT_0, eT_1, eT_2, eT_3, eT_eq, eT_z, gTi, gTb, validT, e]
theorem ok_term_Clone_1 : FOk q1f (gTT id) := fok_term_Clone_1 fun ds outs hw hg => by
  obtain ⟨d, r, rfl, hd, rfl⟩ := hw
  obtain ⟨t, rfl, ht⟩ := wfT hd
  simp only [gTT, dT_eT, Option.some.injEq] at hg
  subst hg
  simp only [q30, q00, go_br, q01, q02, allSay, X.says, X.ev, X.evs, evl, tblS, List.getD_cons_zero, List.getD_cons_succ, List.getElem?_cons_zero, List.getElem?_cons_succ, tt_b, int_i, str_s, rs_r, Option.isSome_some, Option.getD_some, decide_eq_true_eq, decide_eq_false_iff_not, dS_eS, dC_eC, dU_eU, dW_eW, dY_eY, eC_0, eC_1, eU_0, eU_1, eW_0, eW_1, eW_2, eY_0, eY_1, eS_0, eS_1, eS_2, eS_3, eS_4, eS_5, List.length_map, i_inj, b_inj, s_inj, eC_eq, eU_eq, eW_eq, eY_eq, eS_eq, rng64, List.take_succ_cons, List.take_zero, List.nil_append, List.cons_append, decide_true, decide_false, Bool.or_true, true_and, and_true, dT_eT, eT_0, eT_1, eT_2, eT_3, eT_eq, eT_z, id]
theorem ok_term_apply : FOk q15 (gTT id) := q2u (m := mT) q4n fun N ih => fok_term_apply ok_term_Clone_1 ih fun ds outs hw hg => by
  obtain ⟨d, r, rfl, hd, rfl⟩ := hw
  obtain ⟨t, rfl, ht⟩ := wfT hd
  simp only [cutM, mT, gTT, List.getD_cons_zero, dT_eT, int_i, Option.ite_none_right_eq_some, Option.some.injEq] at hg
  obtain ⟨hsz, rfl⟩ := hg
  have hl := ht.l
  rw [q3o, go_br]
  refine ⟨fun h => ?_, fun h => ?_⟩
  · simp only [q00, go_br, q01, q02, allSay, X.says, X.ev, X.evs, evl, tblS, List.getD_cons_zero, List.getD_cons_succ, List.getElem?_cons_zero, List.getElem?_cons_succ, tt_b, int_i, str_s, rs_r, Option.isSome_some, Option.getD_some, decide_eq_true_eq, decide_eq_false_iff_not, dS_eS, dC_eC, dU_eU, dW_eW, dY_eY, eC_0, eC_1, eU_0, eU_1, eW_0, eW_1, eW_2, eY_0, eY_1, eS_0, eS_1, eS_2, eS_3, eS_4, eS_5, List.length_map, i_inj, b_inj, s_inj, eC_eq, eU_eq, eW_eq, eY_eq, eS_eq, rng64, List.take_succ_cons, List.take_zero, List.nil_append, List.cons_append, decide_true, decide_false, Bool.or_true, true_and, and_true, dT_eT, eT_0, eT_1, eT_2, eT_3, eT_eq, eT_z, gTT, id]
  rw [q1j]
  refine ⟨fun st => ∃ k : Nat, k ≤ t.l.length ∧ st = [.i k, eT (.mk t.k t.n t.s (t.l.take k))], fun st => t.l.length - (st.getD 0 .u).int.toNat, ⟨0, Nat.zero_le _, by simp only [X.evs, X.ev, evl, List.getD_cons_zero, eT_0, eT_1, eT_2, eT_mk]; rfl⟩, ?_⟩
  rintro st - ⟨k, hk, rfl⟩
  rw [go_br]
  refine ⟨fun hlt => ?_, fun hlt => ?_⟩
  · simp only [q00, go_br, q01, q02, allSay, X.says, X.ev, X.evs, evl, tblS, List.getD_cons_zero, List.getD_cons_succ, List.getElem?_cons_zero, List.getElem?_cons_succ, tt_b, int_i, str_s, rs_r, Option.isSome_some, Option.getD_some, decide_eq_true_eq, decide_eq_false_iff_not, dS_eS, dC_eC, dU_eU, dW_eW, dY_eY, eC_0, eC_1, eU_0, eU_1, eW_0, eW_1, eW_2, eY_0, eY_1, eS_0, eS_1, eS_2, eS_3, eS_4, eS_5, List.length_map, i_inj, b_inj, s_inj, eC_eq, eU_eq, eW_eq, eY_eq, eS_eq, rng64, List.take_succ_cons, List.take_zero, List.nil_append, List.cons_append, decide_true, decide_false, Bool.or_true, true_and, and_true, dT_eT, eT_0, eT_1, eT_2, eT_3, eT_eq, eT_z] at hlt
    have hkl' : k < t.l.length := by omega
    have ha := arg_sz hkl'
    simp only [q00, go_br, q01, q02, allSay, X.says, X.ev, X.evs, evl, tblS, List.getD_cons_zero, List.getD_cons_succ, List.getElem?_cons_zero, List.getElem?_cons_succ, tt_b, int_i, str_s, rs_r, Option.isSome_some, Option.getD_some, decide_eq_true_eq, decide_eq_false_iff_not, dS_eS, dC_eC, dU_eU, dW_eW, dY_eY, eC_0, eC_1, eU_0, eU_1, eW_0, eW_1, eW_2, eY_0, eY_1, eS_0, eS_1, eS_2, eS_3, eS_4, eS_5, List.length_map, i_inj, b_inj, s_inj, eC_eq, eU_eq, eW_eq, eY_eq, eS_eq, rng64, List.take_succ_cons, List.take_zero, List.nil_append, List.cons_append, decide_true, decide_false, Bool.or_true, true_and, and_true, dT_eT, eT_0, eT_1, eT_2, eT_3, eT_eq, eT_z, get_t hkl', cutM, mT, gTT, if_pos (show szT (t.l.getD k default) < N by omega), id, Te_l, List.length_take]
    refine ⟨⟨by omega, by omega⟩, by omega, ⟨by omega, by omega⟩, ?_⟩
    rw [updB, if_pos rfl]
    refine ⟨⟨k + 1, by omega, ?_⟩, ?_⟩
    · rw [take_snoc hkl', eT_snoc]
      rfl
    · simp [D.int]
      omega
  · simp only [q00, go_br, q01, q02, allSay, X.says, X.ev, X.evs, evl, tblS, List.getD_cons_zero, List.getD_cons_succ, List.getElem?_cons_zero, List.getElem?_cons_succ, tt_b, int_i, str_s, rs_r, Option.isSome_some, Option.getD_some, decide_eq_true_eq, decide_eq_false_iff_not, dS_eS, dC_eC, dU_eU, dW_eW, dY_eY, eC_0, eC_1, eU_0, eU_1, eW_0, eW_1, eW_2, eY_0, eY_1, eS_0, eS_1, eS_2, eS_3, eS_4, eS_5, List.length_map, i_inj, b_inj, s_inj, eC_eq, eU_eq, eW_eq, eY_eq, eS_eq, rng64, List.take_succ_cons, List.take_zero, List.nil_append, List.cons_append, decide_true, decide_false, Bool.or_true, true_and, and_true, dT_eT, eT_0, eT_1, eT_2, eT_3, eT_eq, eT_z] at hlt ⊢
    have : k = t.l.length := by omega
    subst this
    rw [List.take_length]
    cases t
    rfl
theorem ok_term_Clone : FOk q1p (gTT fun t => if validT t then t else zT) := fok_term_Clone ok_term_Valid ok_term_apply fun ds outs hw hg => by
  obtain ⟨d, r, rfl, hd, rfl⟩ := hw
  obtain ⟨t, rfl, ht⟩ := wfT hd
  simp only [gTT, dT_eT, Option.some.injEq] at hg
  subst hg
  simp only [q3t, q00, go_br, q01, q02, allSay, X.says, X.ev, X.evs, evl, tblS, List.getD_cons_zero, List.getD_cons_succ, List.getElem?_cons_zero, List.getElem?_cons_succ, tt_b, int_i, str_s, rs_r, Option.isSome_some, Option.getD_some, decide_eq_true_eq, decide_eq_false_iff_not, dS_eS, dC_eC, dU_eU, dW_eW, dY_eY, eC_0, eC_1, eU_0, eU_1, eW_0, eW_1, eW_2, eY_0, eY_1, eS_0, eS_1, eS_2, eS_3, eS_4, eS_5, List.length_map, i_inj, b_inj, s_inj, eC_eq, eU_eq, eW_eq, eY_eq, eS_eq, rng64, List.take_succ_cons, List.take_zero, List.nil_append, List.cons_append, decide_true, decide_false, Bool.or_true, true_and, and_true, dT_eT, eT_0, eT_1, eT_2, eT_3, eT_eq, eT_z, gTb, gTT, id]
  cases validT t <;> simp
def gSt (f : ByteArray → Te) : List D → Option (List D)
  | [s] => some [eT (f s.str)]
  | _ => none
def atomT (s : ByteArray) : Te := if s.size ≤ 100 then .mk 2 0 s [] else zT
theorem atomT_ok {s : ByteArray} (h : s.size ≤ 100) : atomT s = .mk 2 0 s [] := if_pos h
theorem ok_term_Atom : FOk q1v (gSt atomT) := fok_term_Atom ok_term_Clone fun ds outs hw hg => by
  obtain ⟨d, r, rfl, hd, rfl⟩ := hw
  obtain ⟨s, rfl, hs⟩ := hd.str
  simp only [gSt, str_s, Option.some.injEq] at hg
  subst hg
  have e : D.a ((D.a ([D.i 0, .i 0, .s ⟨#[]⟩, .r []].set 0 (.i 2))).fs.set 2 (.s s)) = eT (.mk 2 0 s []) := rfl
  simp only [q46, q00, go_br, q01, q02, allSay, X.says, X.ev, X.evs, evl, tblS, List.getD_cons_zero, List.getD_cons_succ, List.getElem?_cons_zero, List.getElem?_cons_succ, tt_b, int_i, str_s, rs_r, Option.isSome_some, Option.getD_some, decide_eq_true_eq, decide_eq_false_iff_not, dS_eS, dC_eC, dU_eU, dW_eW, dY_eY, eC_0, eC_1, eU_0, eU_1, eW_0, eW_1, eW_2, eY_0, eY_1, eS_0, eS_1, eS_2, eS_3, eS_4, eS_5, List.length_map, i_inj, b_inj, s_inj, eC_eq, eU_eq, eW_eq, eY_eq, eS_eq, rng64, List.take_succ_cons, List.take_zero, List.nil_append, List.cons_append, decide_true, decide_false, Bool.or_true, true_and, and_true, dT_eT, eT_0, eT_1, eT_2, eT_3, eT_eq, eT_z, gTT, fs_a]
  have e2 : D.a (((eT zT).fs.set 0 (.i 2)).set 2 (.s s)) = eT (.mk 2 0 s []) := rfl
  simp only [e2]
  have : validT (.mk 2 0 s []) = decide (s.size ≤ 100) := by
    rw [Bool.eq_iff_iff]
    simp [validT, szT, szTs, nodesT, nodesTs, nodeT, Te.k, Te.n, Te.s, Te.l]
    exact Iff.trans decide_eq_true_iff (Int.ofNat_le (n := 100))
  simp only [dT_eT, this, atomT, decide_eq_true_eq]
def gIt (f : Int → Te) : List D → Option (List D)
  | [n] => some [eT (f n.int)]
  | _ => none
theorem ok_term_Int : FOk q26 (gIt fun n => .mk 1 n ⟨#[]⟩ []) := fok_term_Int fun ds outs hw hg => by
  obtain ⟨d, r, rfl, hd, rfl⟩ := hw
  obtain ⟨n, rfl, hn⟩ := wfI hd
  simp only [gIt, int_i, Option.some.injEq] at hg
  subst hg
  simp only [q4k, q00, go_br, q01, q02, allSay, X.says, X.ev, X.evs, evl, tblS, List.getD_cons_zero, List.getD_cons_succ, List.getElem?_cons_zero, List.getElem?_cons_succ, tt_b, int_i, str_s, rs_r, Option.isSome_some, Option.getD_some, decide_eq_true_eq, decide_eq_false_iff_not, dS_eS, dC_eC, dU_eU, dW_eW, dY_eY, eC_0, eC_1, eU_0, eU_1, eW_0, eW_1, eW_2, eY_0, eY_1, eS_0, eS_1, eS_2, eS_3, eS_4, eS_5, List.length_map, i_inj, b_inj, s_inj, eC_eq, eU_eq, eW_eq, eY_eq, eS_eq, rng64, List.take_succ_cons, List.take_zero, List.nil_append, List.cons_append, decide_true, decide_false, Bool.or_true, true_and, and_true, dT_eT, eT_0, eT_1, eT_2, eT_3, eT_eq, eT_z]
  rfl
end Go.Proofs.Ytinclokohcommaa


namespace Go.Proofs.Ytinclokohcommaa
open Go.RowKit
set_option linter.unusedVariables false
set_option linter.unusedSimpArgs false

mutual
/-- Variables renumbered. -/
def mapV (f : Int → Int) : Te → Te
  | .mk k n s l => .mk k (if k = 0 then f n else n) s (mapVs f l)
def mapVs (f : Int → Int) : List Te → List Te
  | [] => []
  | t :: l => mapV f t :: mapVs f l
end
mutual
/-- The variables in the order of their first occurrence, behind those given. -/
def varsT (vs : List Int) : Te → List Int
  | .mk k n s l => varsTs (if k = 0 ∧ n ∉ vs then vs ++ [n] else vs) l
def varsTs (vs : List Int) : List Te → List Int
  | [] => vs
  | t :: l => varsTs (varsT vs t) l
end
mutual
def inV (V : List Int) : Te → Prop
  | .mk k n s l => (k = 0 → n ∈ V) ∧ inVs V l
def inVs (V : List Int) : List Te → Prop
  | [] => True
  | t :: l => inV V t ∧ inVs V l
end
def posL : List Int → Int → Int
  | [], _ => -1
  | a :: l, x => if a = x then 0 else if posL l x < 0 then -1 else posL l x + 1
abbrev numT (V : List Int) : Te → Te := mapV (posL V)
section
variable {f g : Int → Int}
theorem mapVs_map : ∀ l, mapVs f l = l.map (mapV f)
  | [] => rfl
  | t :: l => by rw [mapVs, mapVs_map l]; rfl
theorem mapV_mk (k n : Int) (s : ByteArray) (l : List Te) : mapV f (.mk k n s l) = .mk k (if k = 0 then f n else n) s (l.map (mapV f)) := by rw [mapV, mapVs_map]
theorem varsTs_app : ∀ (l m : List Te) (vs : List Int), varsTs vs (l ++ m) = varsTs (varsTs vs l) m
  | [], _, _ => rfl
  | t :: l, m, vs => by rw [List.cons_append, varsTs, varsTs, varsTs_app l]
theorem inVs_iff {V : List Int} : ∀ {l : List Te}, inVs V l ↔ ∀ t ∈ l, inV V t
  | [] => by simp [inVs]
  | t :: l => by rw [inVs, inVs_iff]; simp

mutual
theorem szT_mapV : ∀ t, szT (mapV f t) = szT t
  | .mk k n s l => by rw [mapV, szT, szT, szTs_mapV l]
theorem szTs_mapV : ∀ l, szTs (mapVs f l) = szTs l
  | [] => rfl
  | t :: l => by rw [mapVs, szTs, szTs, szT_mapV t, szTs_mapV l]
end
mutual
theorem inV_mono {V W : List Int} (h : ∀ x ∈ V, x ∈ W) : ∀ t, inV V t → inV W t
  | .mk k n s l, hi => ⟨fun hk => h n (hi.1 hk), inVs_mono h l hi.2⟩
theorem inVs_mono {V W : List Int} (h : ∀ x ∈ V, x ∈ W) : ∀ l, inVs V l → inVs W l
  | [], _ => trivial
  | t :: l, hi => ⟨inV_mono h t hi.1, inVs_mono h l hi.2⟩
end
mutual
theorem varsT_pre : ∀ (t : Te) (vs : List Int), ∃ m, varsT vs t = vs ++ m
  | .mk k n s l, vs => by
    rw [varsT]
    obtain ⟨m, hm⟩ := varsTs_pre l (if k = 0 ∧ n ∉ vs then vs ++ [n] else vs)
    rw [hm]
    split
    · exact ⟨[n] ++ m, by simp⟩
    · exact ⟨m, rfl⟩
theorem varsTs_pre : ∀ (l : List Te) (vs : List Int), ∃ m, varsTs vs l = vs ++ m
  | [], vs => ⟨[], by simp [varsTs]⟩
  | t :: l, vs => by
    rw [varsTs]
    obtain ⟨m, hm⟩ := varsT_pre t vs
    obtain ⟨m', hm'⟩ := varsTs_pre l (varsT vs t)
    exact ⟨m ++ m', by rw [hm', hm]; simp⟩
end
theorem varsTs_sub {t : List Te} {vs : List Int} {x : Int} (h : x ∈ vs) : x ∈ varsTs vs t := by
  obtain ⟨m, hm⟩ := varsTs_pre t vs
  rw [hm]
  exact List.mem_append_left _ h
mutual
theorem varsT_in : ∀ (t : Te) (vs : List Int), inV (varsT vs t) t
  | .mk k n s l, vs => by
    rw [varsT]
    refine ⟨fun hk => varsTs_sub ?_, varsTs_in l _⟩
    split
    · simp
    · rename_i h
      exact Classical.byContradiction fun hn => h ⟨hk, hn⟩
theorem varsTs_in : ∀ (l : List Te) (vs : List Int), inVs (varsTs vs l) l
  | [], vs => trivial
  | t :: l, vs => by
    rw [varsTs]
    exact ⟨inV_mono (fun x hx => varsTs_sub hx) t (varsT_in t vs), varsTs_in l _⟩
end
mutual
theorem varsT_len : ∀ (t : Te) (vs : List Int), (varsT vs t).length ≤ vs.length + szT t
  | .mk k n s l, vs => by
    rw [varsT, szT]
    refine Nat.le_trans (varsTs_len l _) ?_
    split
    · simp; omega
    · omega
theorem varsTs_len : ∀ (l : List Te) (vs : List Int), (varsTs vs l).length ≤ vs.length + szTs l
  | [], vs => by simp [varsTs, szTs]
  | t :: l, vs => by
    rw [varsTs, szTs]
    have h1 := varsTs_len l (varsT vs t)
    have h2 := varsT_len t vs
    omega
end
theorem nodeT_mk (k n : Int) (s : ByteArray) (l : List Te) : nodeT (.mk k n s l) = if k = 0 then decide (0 ≤ n) && (decide (n ≤ 1099511627776) && (decide (s = ⟨#[]⟩) && decide ((l.length : Int) = 0)))
  else if k = 1 then decide (s = ⟨#[]⟩) && decide ((l.length : Int) = 0)
  else if k = 2 then decide (n = 0) && (decide ((s.size : Int) ≤ 100) && decide ((l.length : Int) = 0))
  else if k = 3 then decide (n = 0) && (decide ((s.size : Int) ≤ 100) && (decide (1 ≤ (l.length : Int)) && decide ((l.length : Int) ≤ 8)))
  else false := rfl
theorem nodeT_map {V : List Int} (h : ∀ x ∈ V, 0 ≤ f x ∧ f x ≤ 1099511627776) {k n : Int} {s : ByteArray} {l m : List Te} (hm : m.length = l.length) (hi : k = 0 → n ∈ V) (hn : nodeT (.mk k n s l) = true) : nodeT (.mk k (if k = 0 then f n else n) s m) = true := by
  rw [nodeT_mk] at hn ⊢
  rw [hm]
  by_cases hk : k = 0
  · have := h n (hi hk)
    rw [if_pos hk] at hn
    rw [if_pos hk, if_pos hk]
    simp only [Bool.and_eq_true, decide_eq_true_eq] at hn ⊢
    exact ⟨this.1, this.2, hn.2.2⟩
  · rw [if_neg hk] at hn
    rw [if_neg hk, if_neg hk]
    exact hn
mutual
theorem nodesT_map {V : List Int} (h : ∀ x ∈ V, 0 ≤ f x ∧ f x ≤ 1099511627776) : ∀ t, inV V t → nodesT t = true → nodesT (mapV f t) = true
  | .mk k n s l, hi, hn => by
    rw [nodesT, Bool.and_eq_true] at hn
    rw [mapV, nodesT, Bool.and_eq_true]
    exact ⟨nodeT_map h (by rw [mapVs_map, List.length_map]) hi.1 hn.1, nodesTs_map h l hi.2 hn.2⟩
theorem nodesTs_map {V : List Int} (h : ∀ x ∈ V, 0 ≤ f x ∧ f x ≤ 1099511627776) : ∀ l, inVs V l → nodesTs l = true → nodesTs (mapVs f l) = true
  | [], _, _ => rfl
  | t :: l, hi, hn => by
    rw [nodesTs, Bool.and_eq_true] at hn
    rw [mapVs, nodesTs, Bool.and_eq_true]
    exact ⟨nodesT_map h t hi.1 hn.1, nodesTs_map h l hi.2 hn.2⟩
end
theorem validT_map {V : List Int} (h : ∀ x ∈ V, 0 ≤ f x ∧ f x ≤ 1099511627776) {t : Te} (hi : inV V t) (hv : validT t = true) : validT (mapV f t) = true := by
  simp only [validT, Bool.and_eq_true, decide_eq_true_eq, szT_mapV] at hv ⊢
  exact ⟨hv.1, nodesT_map h t hi hv.2⟩
end

theorem posL_mem : ∀ {l : List Int} {x : Int}, x ∈ l → 0 ≤ posL l x ∧ posL l x < l.length
  | a :: l, x, h => by
    unfold posL
    split
    · simp only [List.length_cons]; omega
    · rename_i hne
      have := posL_mem (l := l) (x := x) (by
        rcases List.mem_cons.1 h with rfl | h
        · exact absurd rfl hne
        · exact h)
      rw [if_neg (by omega)]
      simp only [List.length_cons]
      omega
theorem posL_not : ∀ {l : List Int} {x : Int}, x ∉ l → posL l x = -1
  | [], _, _ => rfl
  | a :: l, x, h => by
    unfold posL
    rw [if_neg (fun e : a = x => h (by rw [e]; exact List.mem_cons_self)), if_pos (by rw [posL_not fun q => h (List.mem_cons_of_mem _ q)]; omega)]
theorem posL_neg {l : List Int} {x : Int} : posL l x < 0 ↔ x ∉ l := ⟨fun h hm => by have := (posL_mem hm).1; omega, fun h => by rw [posL_not h]; omega⟩
theorem posL_hit : ∀ {l : List Int} {x : Int} {k : Nat}, k < l.length → l.getD k 0 = x → (∀ j, j < k → l.getD j 0 ≠ x) → posL l x = k
  | a :: l, x, 0, _, h, _ => by
    unfold posL
    rw [if_pos (by simpa using h)]
    rfl
  | a :: l, x, k + 1, hk, h, hn => by
    unfold posL
    have := posL_hit (l := l) (x := x) (k := k) (by simpa using hk) (by simpa using h) (fun j hj => by simpa using hn (j + 1) (by omega))
    rw [if_neg (by simpa using hn 0 (by omega)), this, if_neg (by omega)]
    simp
end Go.Proofs.Ytinclokohcommaa

