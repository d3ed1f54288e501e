/-
  Lemmas of the walk and plain laws, put together. No condition.
-/
import Derived.Test.YtinclokohcommaaZc
namespace Go.Proofs.Ytinclokohcommaa
open Go.RowKit
set_option linter.unusedVariables false
set_option maxRecDepth 100000

abbrev T_Cells : Ty := .row 37
abbrev T_Symbols : Ty := .row 72
abbrev T_Undos : Ty := .row 80
abbrev T_Wakes : Ty := .row 82
abbrev T_Store : Ty := .st 26
abbrev T_Cell : Ty := .st 36
abbrev T_Terms : Ty := .row 43
abbrev T_Term : Ty := .st 42
abbrev T_VarCells : Ty := .row 49
abbrev T_VarCell : Ty := .st 48
abbrev T_Symbol : Ty := .st 71
abbrev T_Undo : Ty := .st 79
abbrev T_Wake : Ty := .st 81
def q1m : Ct := ⟨35, [.val (.int .i64)], [(.st 26, true), (.int .i64, false)], [], none⟩
theorem enter_cells_New (args : Array Value) (w : World) : (callFunc q1m.f args).run Try.prog w = .ok (.enter q1m.f args) w := by kernel_rfl
def ann_cells_New : Ann := ⟨[0, 2, 3, 9], []⟩
def q42 : Tree := (.br (.or (.lt (.tok 0) (.lit (.i 1))) (.lt (.lit (.i 1048576)) (.tok 0))) (.leaf [(.lit (.a [(.r []), (.r []), (.r []), (.r []), (.i 0), (.i 0)])), (.lit (.i 1))]) (.leaf [(.set (.lit (.a [(.r []), (.r []), (.r []), (.r []), (.i 0), (.i 0)])) 5 (.tok 0)), (.lit (.i 0))]))
set_option maxRecDepth 100000 in
theorem code_cells_New : ∀ cd, Try.f35.body = some cd → treeOf Try.prog [] ann_cells_New q1m Try.f35 cd = q42 := by
  intro cd h
  injection h with h
  subst h
  kernel_rfl
theorem fok_cells_New {g : List D → Option (List D)}  (h : ∀ ds outs, WfA q1m.ars ds → g ds = some outs → q42.go (tblS []) (fun o => o = outs) ds fun _ _ => False) : FOk q1m g :=
  q0c ann_cells_New Try.f35 _ .nil rfl rfl enter_cells_New (by decide) fun ds outs hw hg => by rw [code_cells_New  _ rfl]; exact h ds outs hw hg

def q1u : Ct := ⟨45, [.val (.int .i64)], [(.st 42, false)], [], none⟩
theorem enter_law30_x (args : Array Value) (w : World) : (callFunc q1u.f args).run Try.prog w = .ok (.enter q1u.f args) w := by kernel_rfl
def ann_law30_x : Ann := ⟨[0, 2], []⟩
def tree_law30_x : Tree := (.leaf [(.set (.lit (.a [(.i 0), (.i 0), (.s ⟨#[]⟩), (.r [])])) 1 (.tok 0))])
set_option maxRecDepth 100000 in
theorem code_law30_x : ∀ cd, Try.f45.body = some cd → treeOf Try.prog [] ann_law30_x q1u Try.f45 cd = tree_law30_x := by
  intro cd h
  injection h with h
  subst h
  kernel_rfl
theorem fok_law30_x {g : List D → Option (List D)}  (h : ∀ ds outs, WfA q1u.ars ds → g ds = some outs → tree_law30_x.go (tblS []) (fun o => o = outs) ds fun _ _ => False) : FOk q1u g :=
  q0c ann_law30_x Try.f45 _ .nil rfl rfl enter_law30_x (by decide) fun ds outs hw hg => by rw [code_law30_x  _ rfl]; exact h ds outs hw hg

def q1v : Ct := ⟨34, [.val (.str), .val (.row 43)], [(.st 42, false)], [], none⟩
theorem enter_law30_f (args : Array Value) (w : World) : (callFunc q1v.f args).run Try.prog w = .ok (.enter q1v.f args) w := by kernel_rfl
def ann_law30_f : Ann := ⟨[0, 1, 4], []⟩
def tree_law30_f : Tree := (.leaf [(.set (.set (.set (.lit (.a [(.i 0), (.i 0), (.s ⟨#[]⟩), (.r [])])) 0 (.lit (.i 3))) 2 (.tok 0)) 3 (.tok 1))])
set_option maxRecDepth 100000 in
theorem code_law30_f : ∀ cd, Try.f34.body = some cd → treeOf Try.prog [] ann_law30_f q1v Try.f34 cd = tree_law30_f := by
  intro cd h
  injection h with h
  subst h
  kernel_rfl
theorem fok_law30_f {g : List D → Option (List D)}  (h : ∀ ds outs, WfA q1v.ars ds → g ds = some outs → tree_law30_f.go (tblS []) (fun o => o = outs) ds fun _ _ => False) : FOk q1v g :=
  q0c ann_law30_f Try.f34 _ .nil rfl rfl enter_law30_f (by decide) fun ds outs hw hg => by rw [code_law30_f  _ rfl]; exact h ds outs hw hg

def q0y : Ct := ⟨52, [.rref (.st 26), .val (.st 71)], [(.int .i64, false)], [], none⟩
theorem enter_cells_find (args : Array Value) (w : World) : (callFunc q0y.f args).run Try.prog w = .ok (.enter q0y.f args) w := by kernel_rfl
def ann_cells_find : Ann := ⟨[0, 1, 3, 4, 5, 10, 11, 12, 22], [(2, ⟨[(4, .int .i64, false), (11, .int .i64, false)], [], [12, 13, 5, 14, 15, 16, 17, 18, 19, 20, 21, 22, 23, 24], []⟩)]⟩
def q3k : Tree := (.loop 2 2 [(.lit (.i 0)), (.lit (.i 0))] (.br (.lt (.tok 3) (.len (.fld (.tok 0) 1))) (.need [(.le (.lit (.i 0)) (.tok 3)), (.lt (.tok 3) (.len (.fld (.tok 0) 1)))] (.br (.eq (.get (.fld (.tok 0) 1) (.tok 3)) (.tok 1)) (.leaf [(.tok 3)]) (.need [(.rng .i64 (.add (.tok 3) (.lit (.i 1))))] (.back 2 [(.tok 2), (.add (.tok 3) (.lit (.i 1)))])))) (.leaf [(.lit (.i (-1)))])))
set_option maxRecDepth 100000 in
theorem code_cells_find : ∀ cd, Try.f52.body = some cd → treeOf Try.prog [] ann_cells_find q0y Try.f52 cd = q3k := by
  intro cd h
  injection h with h
  subst h
  kernel_rfl
theorem fok_cells_find {g : List D → Option (List D)}  (h : ∀ ds outs, WfA q0y.ars ds → g ds = some outs → q3k.go (tblS []) (fun o => o = outs) ds fun _ _ => False) : FOk q0y g :=
  q0c ann_cells_find Try.f52 _ .nil rfl rfl enter_cells_find (by decide) fun ds outs hw hg => by rw [code_cells_find  _ rfl]; exact h ds outs hw hg

def q11 : Ct := ⟨16, [.ref (.st 26), .val (.str), .val (.int .i64)], [(.int .i64, false), (.int .i64, false)], [], none⟩
theorem enter_cells_Symbol (args : Array Value) (w : World) : (callFunc q11.f args).run Try.prog w = .ok (.enter q11.f args) w := by kernel_rfl
def ann_cells_Symbol : Ann := ⟨[0, 1, 2, 6, 7, 8, 9, 24, 32, 39], []⟩
def q2z : Tree := (.br (.or (.or (.lt (.lit (.i 100)) (.slen (.tok 1))) (.lt (.tok 2) (.lit (.i 0)))) (.lt (.lit (.i 8)) (.tok 2))) (.leaf [(.lit (.i 0)), (.lit (.i 1)), (.tok 0)]) (.need [(.ok 0 [(.tok 0), (.mk [(.tok 1), (.tok 2)])])] (.br (.le (.lit (.i 0)) (.call 0 0 [(.tok 0), (.mk [(.tok 1), (.tok 2)])])) (.leaf [(.call 0 0 [(.tok 0), (.mk [(.tok 1), (.tok 2)])]), (.lit (.i 0)), (.tok 0)]) (.br (.le (.lit (.i 1048576)) (.len (.fld (.tok 0) 1))) (.leaf [(.lit (.i 0)), (.lit (.i 13)), (.tok 0)]) (.need [(.le (.add (.len (.fld (.tok 0) 1)) (.lit (.i 1))) (.lit (.i 5864062014634)))] (.need [(.rng .i64 (.sub (.len (.fld (.set (.tok 0) 1 (.app (.fld (.tok 0) 1) (.row [(.mk [(.tok 1), (.tok 2)])]))) 1)) (.lit (.i 1))))] (.leaf [(.sub (.len (.fld (.set (.tok 0) 1 (.app (.fld (.tok 0) 1) (.row [(.mk [(.tok 1), (.tok 2)])]))) 1)) (.lit (.i 1))), (.lit (.i 0)), (.set (.tok 0) 1 (.app (.fld (.tok 0) 1) (.row [(.mk [(.tok 1), (.tok 2)])])))])))))))
set_option maxRecDepth 100000 in
theorem code_cells_Symbol (g0 : List D → Option (List D)) : ∀ cd, Try.f16.body = some cd → treeOf Try.prog [(q0y, g0)] ann_cells_Symbol q11 Try.f16 cd = q2z := by
  intro cd h
  injection h with h
  subst h
  kernel_rfl
theorem fok_cells_Symbol {g0 : List D → Option (List D)} {g : List D → Option (List D)} (h0 : FOk q0y g0) (h : ∀ ds outs, WfA q11.ars ds → g ds = some outs → q2z.go (tblS [(q0y, g0)]) (fun o => o = outs) ds fun _ _ => False) : FOk q11 g :=
  q0c ann_cells_Symbol Try.f16 _ (.cons h0 .nil) rfl rfl enter_cells_Symbol (by decide) fun ds outs hw hg => by rw [code_cells_Symbol g0 _ rfl]; exact h ds outs hw hg

def q0x : Ct := ⟨111, [.val (.int .i64)], [(.bool, false)], [], none⟩
theorem enter_cmp_isNaN_int64 (args : Array Value) (w : World) : (callFunc q0x.f args).run Try.prog w = .ok (.enter q0x.f args) w := by kernel_rfl
def q3p : Ann := ⟨[0, 2], []⟩
def q28 : Tree := (.leaf [(.not (.eq (.tok 0) (.tok 0)))])
set_option maxRecDepth 100000 in
theorem code_cmp_isNaN_int64 : ∀ cd, Try.f111.body = some cd → treeOf Try.prog [] q3p q0x Try.f111 cd = q28 := by
  intro cd h
  injection h with h
  subst h
  kernel_rfl
theorem fok_cmp_isNaN_int64 {g : List D → Option (List D)}  (h : ∀ ds outs, WfA q0x.ars ds → g ds = some outs → q28.go (tblS []) (fun o => o = outs) ds fun _ _ => False) : FOk q0x g :=
  q0c q3p Try.f111 _ .nil rfl rfl enter_cmp_isNaN_int64 (by decide) fun ds outs hw hg => by rw [code_cmp_isNaN_int64  _ rfl]; exact h ds outs hw hg

def q0r : Ct := ⟨98, [.val (.int .i64), .val (.int .i64)], [(.int .i64, false)], [], none⟩
theorem enter_cmp_Compare_int64 (args : Array Value) (w : World) : (callFunc q0r.f args).run Try.prog w = .ok (.enter q0r.f args) w := by kernel_rfl
def q3e : Ann := ⟨[0, 1, 4, 5, 6, 11, 12, 13, 16, 19], []⟩
def q25 : Tree := (.need [(.ok 0 [(.tok 0)])] (.need [(.ok 0 [(.tok 1)])] (.br (.call 0 0 [(.tok 0)]) (.br (.call 0 0 [(.tok 1)]) (.leaf [(.lit (.i 0))]) (.leaf [(.lit (.i (-1)))])) (.br (.call 0 0 [(.tok 1)]) (.leaf [(.lit (.i 1))]) (.br (.lt (.tok 0) (.tok 1)) (.leaf [(.lit (.i (-1)))]) (.br (.lt (.tok 1) (.tok 0)) (.leaf [(.lit (.i 1))]) (.leaf [(.lit (.i 0))])))))))
set_option maxRecDepth 100000 in
theorem code_cmp_Compare_int64 (g0 : List D → Option (List D)) : ∀ cd, Try.f98.body = some cd → treeOf Try.prog [(q0x, g0)] q3e q0r Try.f98 cd = q25 := by
  intro cd h
  injection h with h
  subst h
  kernel_rfl
theorem fok_cmp_Compare_int64 {g0 : List D → Option (List D)} {g : List D → Option (List D)} (h0 : FOk q0x g0) (h : ∀ ds outs, WfA q0r.ars ds → g ds = some outs → q25.go (tblS [(q0x, g0)]) (fun o => o = outs) ds fun _ _ => False) : FOk q0r g :=
  q0c q3e Try.f98 _ (.cons h0 .nil) rfl rfl enter_cmp_Compare_int64 (by decide) fun ds outs hw hg => by rw [code_cmp_Compare_int64 g0 _ rfl]; exact h ds outs hw hg

def q17 : Ct := ⟨60, [.val (.st 48), .val (.int .i64)], [(.int .i64, false)], [], none⟩
theorem enter_cells_byVar (args : Array Value) (w : World) : (callFunc q17.f args).run Try.prog w = .ok (.enter q17.f args) w := by kernel_rfl
def ann_cells_byVar : Ann := ⟨[0, 1, 2, 4], []⟩
def q33 : Tree := (.need [(.ok 0 [(.fld (.tok 0) 0), (.tok 1)])] (.leaf [(.call 0 0 [(.fld (.tok 0) 0), (.tok 1)])]))
set_option maxRecDepth 100000 in
theorem code_cells_byVar (g0 : List D → Option (List D)) : ∀ cd, Try.f60.body = some cd → treeOf Try.prog [(q0r, g0)] ann_cells_byVar q17 Try.f60 cd = q33 := by
  intro cd h
  injection h with h
  subst h
  kernel_rfl
theorem fok_cells_byVar {g0 : List D → Option (List D)} {g : List D → Option (List D)} (h0 : FOk q0r g0) (h : ∀ ds outs, WfA q17.ars ds → g ds = some outs → q33.go (tblS [(q0r, g0)]) (fun o => o = outs) ds fun _ _ => False) : FOk q17 g :=
  q0c ann_cells_byVar Try.f60 _ (.cons h0 .nil) rfl rfl enter_cells_byVar (by decide) fun ds outs hw hg => by rw [code_cells_byVar g0 _ rfl]; exact h ds outs hw hg

def q03 : Ct := ⟨59, [.val (.row 49), .val (.int .i64), .fn 60 []], [(.int .i64, false), (.bool, false)], [], none⟩
theorem q2m (args : Array Value) (w : World) : (callFunc q03.f args).run Try.prog w = .ok (.enter q03.f args) w := by kernel_rfl
def q1x : Ann := ⟨[0, 1, 2, 6, 7, 8, 9, 10, 11, 17, 31], [(3, ⟨[(9, .int .i64, false), (10, .int .i64, false)], [], [15, 16, 17, 18, 19, 20, 21, 22, 23, 11, 24, 25, 26, 27, 28, 29, 30, 31, 32, 33, 34], []⟩)]⟩
def q18 : Tree := (.loop 3 2 [(.lit (.i 0)), (.len (.tok 0))] (.br (.lt (.tok 2) (.tok 3)) (.need [(.rng .i64 (.add (.tok 2) (.tok 3))), (.rng .u64 (.add (.tok 2) (.tok 3))), (.rng .u64 (.fn 8 [(.add (.tok 2) (.tok 3)), (.lit (.i 1))])), (.rng .i64 (.fn 8 [(.add (.tok 2) (.tok 3)), (.lit (.i 1))]))] (.need [(.le (.lit (.i 0)) (.fn 8 [(.add (.tok 2) (.tok 3)), (.lit (.i 1))])), (.lt (.fn 8 [(.add (.tok 2) (.tok 3)), (.lit (.i 1))]) (.len (.tok 0))), (.ok 0 [(.get (.tok 0) (.fn 8 [(.add (.tok 2) (.tok 3)), (.lit (.i 1))])), (.tok 1)])] (.br (.lt (.call 0 0 [(.get (.tok 0) (.fn 8 [(.add (.tok 2) (.tok 3)), (.lit (.i 1))])), (.tok 1)]) (.lit (.i 0))) (.need [(.rng .i64 (.add (.fn 8 [(.add (.tok 2) (.tok 3)), (.lit (.i 1))]) (.lit (.i 1))))] (.back 3 [(.add (.fn 8 [(.add (.tok 2) (.tok 3)), (.lit (.i 1))]) (.lit (.i 1))), (.tok 3)])) (.back 3 [(.tok 2), (.fn 8 [(.add (.tok 2) (.tok 3)), (.lit (.i 1))])])))) (.need [(.imp (.lt (.tok 2) (.len (.tok 0))) (.le (.lit (.i 0)) (.tok 2))), (.imp (.lt (.tok 2) (.len (.tok 0))) (.lt (.tok 2) (.len (.tok 0)))), (.imp (.lt (.tok 2) (.len (.tok 0))) (.ok 0 [(.get (.tok 0) (.tok 2)), (.tok 1)]))] (.leaf [(.tok 2), (.and (.lt (.tok 2) (.len (.tok 0))) (.eq (.call 0 0 [(.get (.tok 0) (.tok 2)), (.tok 1)]) (.lit (.i 0))))]))))
set_option maxRecDepth 100000 in
theorem q2q (g0 : List D → Option (List D)) : ∀ cd, Try.f59.body = some cd → treeOf Try.prog [(q17, g0)] q1x q03 Try.f59 cd = q18 := by
  intro cd h
  injection h with h
  subst h
  kernel_rfl
theorem q2w {g0 : List D → Option (List D)} {g : List D → Option (List D)} (h0 : FOk q17 g0) (h : ∀ ds outs, WfA q03.ars ds → g ds = some outs → q18.go (tblS [(q17, g0)]) (fun o => o = outs) ds fun _ _ => False) : FOk q03 g :=
  q0c q1x Try.f59 _ (.cons h0 .nil) rfl rfl q2m (by decide) fun ds outs hw hg => by rw [q2q g0 _ rfl]; exact h ds outs hw hg

def q1g : Ct := ⟨61, [.val (.st 36)], [(.st 36, false)], [], none⟩
theorem enter_cells_kept (args : Array Value) (w : World) : (callFunc q1g.f args).run Try.prog w = .ok (.enter q1g.f args) w := by kernel_rfl
def ann_cells_kept : Ann := ⟨[0, 1, 2, 5], []⟩
def q3l : Tree := (.br (.eq (.fld (.tok 0) 0) (.lit (.i 5))) (.leaf [(.set (.tok 0) 0 (.lit (.i 0)))]) (.leaf [(.tok 0)]))
set_option maxRecDepth 100000 in
theorem code_cells_kept : ∀ cd, Try.f61.body = some cd → treeOf Try.prog [] ann_cells_kept q1g Try.f61 cd = q3l := by
  intro cd h
  injection h with h
  subst h
  kernel_rfl
theorem fok_cells_kept {g : List D → Option (List D)}  (h : ∀ ds outs, WfA q1g.ars ds → g ds = some outs → q3l.go (tblS []) (fun o => o = outs) ds fun _ _ => False) : FOk q1g g :=
  q0c ann_cells_kept Try.f61 _ .nil rfl rfl enter_cells_kept (by decide) fun ds outs hw hg => by rw [code_cells_kept  _ rfl]; exact h ds outs hw hg

def q16 : Ct := ⟨19, [.ref (.st 26)], [(.st 36, false), (.int .i64, false)], [], none⟩
theorem enter_cells_Fresh (args : Array Value) (w : World) : (callFunc q16.f args).run Try.prog w = .ok (.enter q16.f args) w := by kernel_rfl
def ann_cells_Fresh : Ann := ⟨[0, 2, 3, 5, 16], []⟩
def q36 : Tree := (.br (.le (.fld (.tok 0) 5) (.len (.fld (.tok 0) 0))) (.leaf [(.lit (.a [(.i 0), (.i 0)])), (.lit (.i 13)), (.tok 0)]) (.need [(.le (.add (.len (.fld (.tok 0) 0)) (.lit (.i 1))) (.lit (.i 8796093021952)))] (.leaf [(.mk [(.lit (.i 0)), (.len (.fld (.tok 0) 0))]), (.lit (.i 0)), (.set (.tok 0) 0 (.app (.fld (.tok 0) 0) (.row [(.mk [(.lit (.i 0)), (.len (.fld (.tok 0) 0))])])))])))
set_option maxRecDepth 100000 in
theorem code_cells_Fresh : ∀ cd, Try.f19.body = some cd → treeOf Try.prog [] ann_cells_Fresh q16 Try.f19 cd = q36 := by
  intro cd h
  injection h with h
  subst h
  kernel_rfl
theorem fok_cells_Fresh {g : List D → Option (List D)}  (h : ∀ ds outs, WfA q16.ars ds → g ds = some outs → q36.go (tblS []) (fun o => o = outs) ds fun _ _ => False) : FOk q16 g :=
  q0c ann_cells_Fresh Try.f19 _ .nil rfl rfl enter_cells_Fresh (by decide) fun ds outs hw hg => by rw [code_cells_Fresh  _ rfl]; exact h ds outs hw hg

def q0j : Ct := ⟨62, [.own (.row 49), .val (.int .i64), .own (.row 49)], [(.row 49, true)], [], none⟩
theorem q45 (args : Array Value) (w : World) : (callFunc q0j.f args).run Try.prog w = .ok (.enter q0j.f args) w := by kernel_rfl
def q2i : Ann := ⟨[0, 1, 2, 6, 7, 8, 9, 16, 22, 31, 68], []⟩
def q1y : Tree := (.need [(.le (.lit (.i 0)) (.tok 1)), (.le (.tok 1) (.len (.tok 0)))] (.br (.eq (.len (.tok 2)) (.lit (.i 0))) (.leaf [(.tok 0)]) (.br (.eq (.tok 1) (.len (.tok 0))) (.need [(.le (.add (.len (.tok 0)) (.len (.tok 2))) (.lit (.i 5864062014634)))] (.leaf [(.app (.tok 0) (.tok 2))])) (.bad 8004))))
set_option maxRecDepth 100000 in
theorem q48 : ∀ cd, Try.f62.body = some cd → treeOf Try.prog [] q2i q0j Try.f62 cd = q1y := by
  intro cd h
  injection h with h
  subst h
  kernel_rfl
theorem q49 {g : List D → Option (List D)}  (h : ∀ ds outs, WfA q0j.ars ds → g ds = some outs → q1y.go (tblS []) (fun o => o = outs) ds fun _ _ => False) : FOk q0j g :=
  q0c q2i Try.f62 _ .nil rfl rfl q45 (by decide) fun ds outs hw hg => by rw [q48  _ rfl]; exact h ds outs hw hg

def q0u : Ct := ⟨58, [.val (.st 42), .val (.int .i64), .cell 34 5, .ref (.row 49), .cell 89 6], [(.st 36, false)], [(.cell 2, .ref (.st 26)), (.cell 4, .fn 58 [2, 3, 4])], none⟩
theorem enter_cells_Put_1 (args : Array Value) (w : World) : (callFunc q0u.f args).run Try.prog w = .ok (.enter q0u.f args) w := by kernel_rfl
def ann_cells_Put_1 : Ann := ⟨[0, 1, 2, 3, 4, 5, 7, 8, 10, 11, 12, 13, 15, 16, 17, 18, 19, 21, 22, 27, 38, 47, 57, 110, 111, 112, 113], [(21, ⟨[(112, .int .i64, false)], [3, 100000], [113, 114, 115, 116, 17, 16, 117, 118, 119, 120, 18, 121, 122, 123, 124, 19, 125, 126, 127, 128, 129, 130, 131, 132], []⟩)]⟩
def q3c : Tree := (.br (.eq (.fld (.tok 0) 0) (.lit (.i 1))) (.leaf [(.mk [(.lit (.i 1)), (.fld (.tok 0) 1)]), (.tok 2), (.tok 3)]) (.br (.eq (.fld (.tok 0) 0) (.lit (.i 2))) (.need [(.ok 1 [(.tok 3), (.fld (.tok 0) 2), (.lit (.i 0))])] (.leaf [(.mk [(.lit (.i 2)), (.call 1 0 [(.tok 3), (.fld (.tok 0) 2), (.lit (.i 0))])]), (.tok 2), (.call 1 2 [(.tok 3), (.fld (.tok 0) 2), (.lit (.i 0))])])) (.br (.eq (.fld (.tok 0) 0) (.lit (.i 0))) (.need [(.ok 2 [(.tok 2), (.fld (.tok 0) 1)])] (.br (.call 2 1 [(.tok 2), (.fld (.tok 0) 1)]) (.need [(.le (.lit (.i 0)) (.call 2 0 [(.tok 2), (.fld (.tok 0) 1)])), (.lt (.call 2 0 [(.tok 2), (.fld (.tok 0) 1)]) (.len (.tok 2))), (.ok 3 [(.fld (.get (.tok 2) (.call 2 0 [(.tok 2), (.fld (.tok 0) 1)])) 1)])] (.leaf [(.call 3 0 [(.fld (.get (.tok 2) (.call 2 0 [(.tok 2), (.fld (.tok 0) 1)])) 1)]), (.tok 2), (.tok 3)])) (.br (.lt (.tok 1) (.lit (.i 0))) (.need [(.ok 4 [(.tok 3)])] (.need [(.ok 5 [(.tok 2), (.call 2 0 [(.tok 2), (.fld (.tok 0) 1)]), (.row [(.mk [(.fld (.tok 0) 1), (.call 4 0 [(.tok 3)])])])])] (.leaf [(.call 4 0 [(.tok 3)]), (.call 5 0 [(.tok 2), (.call 2 0 [(.tok 2), (.fld (.tok 0) 1)]), (.row [(.mk [(.fld (.tok 0) 1), (.call 4 0 [(.tok 3)])])])]), (.call 4 2 [(.tok 3)])]))) (.need [(.ok 5 [(.tok 2), (.call 2 0 [(.tok 2), (.fld (.tok 0) 1)]), (.row [(.mk [(.fld (.tok 0) 1), (.mk [(.lit (.i 0)), (.tok 1)])])])])] (.leaf [(.mk [(.lit (.i 0)), (.tok 1)]), (.call 5 0 [(.tok 2), (.call 2 0 [(.tok 2), (.fld (.tok 0) 1)]), (.row [(.mk [(.fld (.tok 0) 1), (.mk [(.lit (.i 0)), (.tok 1)])])])]), (.tok 3)]))))) (.need [(.ok 1 [(.tok 3), (.fld (.tok 0) 2), (.len (.fld (.tok 0) 3))])] (.need [(.le (.add (.len (.fld (.call 1 2 [(.tok 3), (.fld (.tok 0) 2), (.len (.fld (.tok 0) 3))]) 0)) (.lit (.i 1))) (.lit (.i 8796093021952)))] (.need [(.le (.lit (.i 0)) (.len (.fld (.tok 0) 3))), (.le (.len (.fld (.tok 0) 3)) (.lit (.i 16777216))), (.le (.add (.len (.fld (.set (.call 1 2 [(.tok 3), (.fld (.tok 0) 2), (.len (.fld (.tok 0) 3))]) 0 (.app (.fld (.call 1 2 [(.tok 3), (.fld (.tok 0) 2), (.len (.fld (.tok 0) 3))]) 0) (.row [(.mk [(.lit (.i 4)), (.call 1 0 [(.tok 3), (.fld (.tok 0) 2), (.len (.fld (.tok 0) 3))])])]))) 0)) (.len (.fld (.tok 0) 3))) (.lit (.i 8796093021952)))] (.loop 21 4 [(.lit (.i 0)), (.tok 2), (.set (.set (.call 1 2 [(.tok 3), (.fld (.tok 0) 2), (.len (.fld (.tok 0) 3))]) 0 (.app (.fld (.call 1 2 [(.tok 3), (.fld (.tok 0) 2), (.len (.fld (.tok 0) 3))]) 0) (.row [(.mk [(.lit (.i 4)), (.call 1 0 [(.tok 3), (.fld (.tok 0) 2), (.len (.fld (.tok 0) 3))])])]))) 0 (.app (.fld (.set (.call 1 2 [(.tok 3), (.fld (.tok 0) 2), (.len (.fld (.tok 0) 3))]) 0 (.app (.fld (.call 1 2 [(.tok 3), (.fld (.tok 0) 2), (.len (.fld (.tok 0) 3))]) 0) (.row [(.mk [(.lit (.i 4)), (.call 1 0 [(.tok 3), (.fld (.tok 0) 2), (.len (.fld (.tok 0) 3))])])]))) 0) (.rep (.len (.fld (.tok 0) 3)) (.lit (.a [(.i 0), (.i 0)])))))] (.br (.lt (.tok 4) (.len (.fld (.tok 0) 3))) (.need [(.le (.lit (.i 0)) (.tok 4)), (.lt (.tok 4) (.len (.fld (.tok 0) 3)))] (.need [(.rng .i64 (.add (.len (.fld (.call 1 2 [(.tok 3), (.fld (.tok 0) 2), (.len (.fld (.tok 0) 3))]) 0)) (.lit (.i 1)))), (.rng .i64 (.add (.add (.len (.fld (.call 1 2 [(.tok 3), (.fld (.tok 0) 2), (.len (.fld (.tok 0) 3))]) 0)) (.lit (.i 1))) (.tok 4)))] (.need [(.ok 0 [(.get (.fld (.tok 0) 3) (.tok 4)), (.add (.add (.len (.fld (.call 1 2 [(.tok 3), (.fld (.tok 0) 2), (.len (.fld (.tok 0) 3))]) 0)) (.lit (.i 1))) (.tok 4)), (.tok 5), (.tok 6)])] (.need [(.le (.lit (.i 0)) (.add (.add (.len (.fld (.call 1 2 [(.tok 3), (.fld (.tok 0) 2), (.len (.fld (.tok 0) 3))]) 0)) (.lit (.i 1))) (.tok 4))), (.lt (.add (.add (.len (.fld (.call 1 2 [(.tok 3), (.fld (.tok 0) 2), (.len (.fld (.tok 0) 3))]) 0)) (.lit (.i 1))) (.tok 4)) (.len (.fld (.call 0 2 [(.get (.fld (.tok 0) 3) (.tok 4)), (.add (.add (.len (.fld (.call 1 2 [(.tok 3), (.fld (.tok 0) 2), (.len (.fld (.tok 0) 3))]) 0)) (.lit (.i 1))) (.tok 4)), (.tok 5), (.tok 6)]) 0)))] (.need [(.rng .i64 (.add (.tok 4) (.lit (.i 1))))] (.back 21 [(.add (.tok 4) (.lit (.i 1))), (.call 0 1 [(.get (.fld (.tok 0) 3) (.tok 4)), (.add (.add (.len (.fld (.call 1 2 [(.tok 3), (.fld (.tok 0) 2), (.len (.fld (.tok 0) 3))]) 0)) (.lit (.i 1))) (.tok 4)), (.tok 5), (.tok 6)]), (.set (.call 0 2 [(.get (.fld (.tok 0) 3) (.tok 4)), (.add (.add (.len (.fld (.call 1 2 [(.tok 3), (.fld (.tok 0) 2), (.len (.fld (.tok 0) 3))]) 0)) (.lit (.i 1))) (.tok 4)), (.tok 5), (.tok 6)]) 0 (.put (.fld (.call 0 2 [(.get (.fld (.tok 0) 3) (.tok 4)), (.add (.add (.len (.fld (.call 1 2 [(.tok 3), (.fld (.tok 0) 2), (.len (.fld (.tok 0) 3))]) 0)) (.lit (.i 1))) (.tok 4)), (.tok 5), (.tok 6)]) 0) (.add (.add (.len (.fld (.call 1 2 [(.tok 3), (.fld (.tok 0) 2), (.len (.fld (.tok 0) 3))]) 0)) (.lit (.i 1))) (.tok 4)) (.call 0 0 [(.get (.fld (.tok 0) 3) (.tok 4)), (.add (.add (.len (.fld (.call 1 2 [(.tok 3), (.fld (.tok 0) 2), (.len (.fld (.tok 0) 3))]) 0)) (.lit (.i 1))) (.tok 4)), (.tok 5), (.tok 6)])))])))))) (.leaf [(.mk [(.lit (.i 3)), (.len (.fld (.call 1 2 [(.tok 3), (.fld (.tok 0) 2), (.len (.fld (.tok 0) 3))]) 0))]), (.tok 5), (.tok 6)])))))))))
set_option maxRecDepth 100000 in
theorem code_cells_Put_1 (g0 g1 g2 g3 g4 g5 : List D → Option (List D)) : ∀ cd, Try.f58.body = some cd → treeOf Try.prog [(q0u, g0), (q11, g1), (q03, g2), (q1g, g3), (q16, g4), (q0j, g5)] ann_cells_Put_1 q0u Try.f58 cd = q3c := by
  intro cd h
  injection h with h
  subst h
  kernel_rfl
theorem fok_cells_Put_1 {g0 g1 g2 g3 g4 g5 : List D → Option (List D)} {g : List D → Option (List D)} (h0 : FOk q0u g0) (h1 : FOk q11 g1) (h2 : FOk q03 g2) (h3 : FOk q1g g3) (h4 : FOk q16 g4) (h5 : FOk q0j g5) (h : ∀ ds outs, WfA q0u.ars ds → g ds = some outs → q3c.go (tblS [(q0u, g0), (q11, g1), (q03, g2), (q1g, g3), (q16, g4), (q0j, g5)]) (fun o => o = outs) ds fun _ _ => False) : FOk q0u g :=
  q0c ann_cells_Put_1 Try.f58 _ (.cons h0 (.cons h1 (.cons h2 (.cons h3 (.cons h4 (.cons h5 .nil)))))) rfl rfl enter_cells_Put_1 (by decide) fun ds outs hw hg => by rw [code_cells_Put_1 g0 g1 g2 g3 g4 g5 _ rfl]; exact h ds outs hw hg

def q0p : Ct := ⟨110, [.val (.st 42), .ref (.int .i64), .cell 116 3], [], [(.cell 2, .fn 110 [1, 2])], none⟩
theorem q30 (args : Array Value) (w : World) : (callFunc q0p.f args).run Try.prog w = .ok (.enter q0p.f args) w := by kernel_rfl
def ann_term_Size_1 : Ann := ⟨[0, 1, 2, 3, 4, 15], [(3, ⟨[(4, .int .i64, false)], [1], [7, 8, 9, 10, 11, 12, 13, 14, 15, 18, 19, 20, 21, 22, 23, 24, 16, 17], []⟩)]⟩
def q2f : Tree := (.need [(.rng .i64 (.sub (.tok 1) (.lit (.i 1))))] (.loop 3 2 [(.lit (.i 0)), (.sub (.tok 1) (.lit (.i 1)))] (.br (.and (.lt (.tok 2) (.len (.fld (.tok 0) 3))) (.lt (.lit (.i 0)) (.tok 3))) (.need [(.ok 0 [(.get (.fld (.tok 0) 3) (.tok 2)), (.tok 3)]), (.le (.lit (.i 0)) (.tok 2)), (.lt (.tok 2) (.len (.fld (.tok 0) 3)))] (.need [(.rng .i64 (.add (.tok 2) (.lit (.i 1))))] (.back 3 [(.add (.tok 2) (.lit (.i 1))), (.call 0 0 [(.get (.fld (.tok 0) 3) (.tok 2)), (.tok 3)])]))) (.leaf [(.tok 3)]))))
set_option maxRecDepth 100000 in
theorem code_term_Size_1 (g0 : List D → Option (List D)) : ∀ cd, Try.f110.body = some cd → treeOf Try.prog [(q0p, g0)] ann_term_Size_1 q0p Try.f110 cd = q2f := by
  intro cd h
  injection h with h
  subst h
  kernel_rfl
theorem fok_term_Size_1 {g0 : List D → Option (List D)} {g : List D → Option (List D)} (h0 : FOk q0p g0) (h : ∀ ds outs, WfA q0p.ars ds → g ds = some outs → q2f.go (tblS [(q0p, g0)]) (fun o => o = outs) ds fun _ _ => False) : FOk q0p g :=
  q0c ann_term_Size_1 Try.f110 _ (.cons h0 .nil) rfl rfl q30 (by decide) fun ds outs hw hg => by rw [code_term_Size_1 g0 _ rfl]; exact h ds outs hw hg

def q19 : Ct := ⟨95, [.val (.st 42)], [(.int .i64, false)], [], none⟩
theorem enter_term_Size (args : Array Value) (w : World) : (callFunc q19.f args).run Try.prog w = .ok (.enter q19.f args) w := by kernel_rfl
def ann_term_Size : Ann := ⟨[0, 1, 2, 3, 4], []⟩
def q2t : Tree := (.need [(.ok 0 [(.tok 0), (.lit (.i 2001))])] (.need [(.rng .i64 (.sub (.lit (.i 2001)) (.call 0 0 [(.tok 0), (.lit (.i 2001))])))] (.leaf [(.sub (.lit (.i 2001)) (.call 0 0 [(.tok 0), (.lit (.i 2001))]))])))
set_option maxRecDepth 100000 in
theorem code_term_Size (g0 : List D → Option (List D)) : ∀ cd, Try.f95.body = some cd → treeOf Try.prog [(q0p, g0)] ann_term_Size q19 Try.f95 cd = q2t := by
  intro cd h
  injection h with h
  subst h
  kernel_rfl
theorem fok_term_Size {g0 : List D → Option (List D)} {g : List D → Option (List D)} (h0 : FOk q0p g0) (h : ∀ ds outs, WfA q19.ars ds → g ds = some outs → q2t.go (tblS [(q0p, g0)]) (fun o => o = outs) ds fun _ _ => False) : FOk q19 g :=
  q0c ann_term_Size Try.f95 _ (.cons h0 .nil) rfl rfl enter_term_Size (by decide) fun ds outs hw hg => by rw [code_term_Size g0 _ rfl]; exact h ds outs hw hg

def q0m : Ct := ⟨96, [.val (.st 42)], [(.bool, false)], [], none⟩
theorem q3h (args : Array Value) (w : World) : (callFunc q0m.f args).run Try.prog w = .ok (.enter q0m.f args) w := by kernel_rfl
def ann_term_fits : Ann := ⟨[0, 1, 2, 3, 4, 6, 7, 28, 39, 56, 86], [(12, ⟨[(3, .bool, false), (4, .int .i64, false)], [], [79, 80, 81, 82, 83, 84, 85, 86, 89, 90, 91, 92, 93, 94, 87, 88], []⟩)]⟩
def q2s : Tree := (.br (.eq (.fld (.tok 0) 0) (.lit (.i 0))) (.loop 12 1 [(.and (.and (.and (.le (.lit (.i 0)) (.fld (.tok 0) 1)) (.le (.fld (.tok 0) 1) (.lit (.i 1099511627776)))) (.eq (.fld (.tok 0) 2) (.lit (.s ⟨#[]⟩)))) (.eq (.len (.fld (.tok 0) 3)) (.lit (.i 0)))), (.lit (.i 0))] (.br (.and (.lt (.tok 2) (.len (.fld (.tok 0) 3))) (.tok 1)) (.need [(.le (.lit (.i 0)) (.tok 2)), (.lt (.tok 2) (.len (.fld (.tok 0) 3))), (.ok 0 [(.get (.fld (.tok 0) 3) (.tok 2))])] (.need [(.rng .i64 (.add (.tok 2) (.lit (.i 1))))] (.back 12 [(.call 0 0 [(.get (.fld (.tok 0) 3) (.tok 2))]), (.add (.tok 2) (.lit (.i 1)))]))) (.leaf [(.tok 1)]))) (.br (.eq (.fld (.tok 0) 0) (.lit (.i 1))) (.loop 12 1 [(.and (.eq (.fld (.tok 0) 2) (.lit (.s ⟨#[]⟩))) (.eq (.len (.fld (.tok 0) 3)) (.lit (.i 0)))), (.lit (.i 0))] (.br (.and (.lt (.tok 2) (.len (.fld (.tok 0) 3))) (.tok 1)) (.need [(.le (.lit (.i 0)) (.tok 2)), (.lt (.tok 2) (.len (.fld (.tok 0) 3))), (.ok 0 [(.get (.fld (.tok 0) 3) (.tok 2))])] (.need [(.rng .i64 (.add (.tok 2) (.lit (.i 1))))] (.back 12 [(.call 0 0 [(.get (.fld (.tok 0) 3) (.tok 2))]), (.add (.tok 2) (.lit (.i 1)))]))) (.leaf [(.tok 1)]))) (.br (.eq (.fld (.tok 0) 0) (.lit (.i 2))) (.loop 12 1 [(.and (.and (.eq (.fld (.tok 0) 1) (.lit (.i 0))) (.le (.slen (.fld (.tok 0) 2)) (.lit (.i 100)))) (.eq (.len (.fld (.tok 0) 3)) (.lit (.i 0)))), (.lit (.i 0))] (.br (.and (.lt (.tok 2) (.len (.fld (.tok 0) 3))) (.tok 1)) (.need [(.le (.lit (.i 0)) (.tok 2)), (.lt (.tok 2) (.len (.fld (.tok 0) 3))), (.ok 0 [(.get (.fld (.tok 0) 3) (.tok 2))])] (.need [(.rng .i64 (.add (.tok 2) (.lit (.i 1))))] (.back 12 [(.call 0 0 [(.get (.fld (.tok 0) 3) (.tok 2))]), (.add (.tok 2) (.lit (.i 1)))]))) (.leaf [(.tok 1)]))) (.br (.eq (.fld (.tok 0) 0) (.lit (.i 3))) (.loop 12 1 [(.and (.and (.and (.eq (.fld (.tok 0) 1) (.lit (.i 0))) (.le (.slen (.fld (.tok 0) 2)) (.lit (.i 100)))) (.lt (.lit (.i 0)) (.len (.fld (.tok 0) 3)))) (.le (.len (.fld (.tok 0) 3)) (.lit (.i 8)))), (.lit (.i 0))] (.br (.and (.lt (.tok 2) (.len (.fld (.tok 0) 3))) (.tok 1)) (.need [(.le (.lit (.i 0)) (.tok 2)), (.lt (.tok 2) (.len (.fld (.tok 0) 3))), (.ok 0 [(.get (.fld (.tok 0) 3) (.tok 2))])] (.need [(.rng .i64 (.add (.tok 2) (.lit (.i 1))))] (.back 12 [(.call 0 0 [(.get (.fld (.tok 0) 3) (.tok 2))]), (.add (.tok 2) (.lit (.i 1)))]))) (.leaf [(.tok 1)]))) (.loop 12 1 [(.lit (.b .false)), (.lit (.i 0))] (.br (.and (.lt (.tok 2) (.len (.fld (.tok 0) 3))) (.tok 1)) (.need [(.le (.lit (.i 0)) (.tok 2)), (.lt (.tok 2) (.len (.fld (.tok 0) 3))), (.ok 0 [(.get (.fld (.tok 0) 3) (.tok 2))])] (.need [(.rng .i64 (.add (.tok 2) (.lit (.i 1))))] (.back 12 [(.call 0 0 [(.get (.fld (.tok 0) 3) (.tok 2))]), (.add (.tok 2) (.lit (.i 1)))]))) (.leaf [(.tok 1)])))))))
set_option maxRecDepth 100000 in
theorem code_term_fits (g0 : List D → Option (List D)) : ∀ cd, Try.f96.body = some cd → treeOf Try.prog [(q0m, g0)] ann_term_fits q0m Try.f96 cd = q2s := by
  intro cd h
  injection h with h
  subst h
  kernel_rfl
theorem fok_term_fits {g0 : List D → Option (List D)} {g : List D → Option (List D)} (h0 : FOk q0m g0) (h : ∀ ds outs, WfA q0m.ars ds → g ds = some outs → q2s.go (tblS [(q0m, g0)]) (fun o => o = outs) ds fun _ _ => False) : FOk q0m g :=
  q0c ann_term_fits Try.f96 _ (.cons h0 .nil) rfl rfl q3h (by decide) fun ds outs hw hg => by rw [code_term_fits g0 _ rfl]; exact h ds outs hw hg

def q0k : Ct := ⟨54, [.val (.st 42)], [(.bool, false)], [], none⟩
theorem enter_term_Valid (args : Array Value) (w : World) : (callFunc q0k.f args).run Try.prog w = .ok (.enter q0k.f args) w := by kernel_rfl
def ann_term_Valid : Ann := ⟨[0, 1, 2], []⟩
def q2k : Tree := (.need [(.ok 0 [(.tok 0)]), (.imp (.le (.call 0 0 [(.tok 0)]) (.lit (.i 2000))) (.ok 1 [(.tok 0)]))] (.leaf [(.and (.le (.call 0 0 [(.tok 0)]) (.lit (.i 2000))) (.call 1 0 [(.tok 0)]))]))
set_option maxRecDepth 100000 in
theorem code_term_Valid (g0 g1 : List D → Option (List D)) : ∀ cd, Try.f54.body = some cd → treeOf Try.prog [(q19, g0), (q0m, g1)] ann_term_Valid q0k Try.f54 cd = q2k := by
  intro cd h
  injection h with h
  subst h
  kernel_rfl
theorem fok_term_Valid {g0 g1 : List D → Option (List D)} {g : List D → Option (List D)} (h0 : FOk q19 g0) (h1 : FOk q0m g1) (h : ∀ ds outs, WfA q0k.ars ds → g ds = some outs → q2k.go (tblS [(q19, g0), (q0m, g1)]) (fun o => o = outs) ds fun _ _ => False) : FOk q0k g :=
  q0c ann_term_Valid Try.f54 _ (.cons h0 (.cons h1 .nil)) rfl rfl enter_term_Valid (by decide) fun ds outs hw hg => by rw [code_term_Valid g0 g1 _ rfl]; exact h ds outs hw hg

def q0i : Ct := ⟨67, [.val (.st 26), .val (.int .i64)], [(.int .i64, false)], [], none⟩
theorem enter_cells_arity (args : Array Value) (w : World) : (callFunc q0i.f args).run Try.prog w = .ok (.enter q0i.f args) w := by kernel_rfl
def ann_cells_arity : Ann := ⟨[0, 1, 2, 4, 13], []⟩
def q2a : Tree := (.br (.or (.lt (.tok 1) (.lit (.i 0))) (.le (.len (.fld (.tok 0) 1)) (.tok 1))) (.leaf [(.lit (.i (-1)))]) (.need [(.le (.lit (.i 0)) (.tok 1)), (.lt (.tok 1) (.len (.fld (.tok 0) 1)))] (.leaf [(.fld (.get (.fld (.tok 0) 1) (.tok 1)) 1)])))
set_option maxRecDepth 100000 in
theorem code_cells_arity : ∀ cd, Try.f67.body = some cd → treeOf Try.prog [] ann_cells_arity q0i Try.f67 cd = q2a := by
  intro cd h
  injection h with h
  subst h
  kernel_rfl
theorem fok_cells_arity {g : List D → Option (List D)}  (h : ∀ ds outs, WfA q0i.ars ds → g ds = some outs → q2a.go (tblS []) (fun o => o = outs) ds fun _ _ => False) : FOk q0i g :=
  q0c ann_cells_arity Try.f67 _ .nil rfl rfl enter_cells_arity (by decide) fun ds outs hw hg => by rw [code_cells_arity  _ rfl]; exact h ds outs hw hg

def q0a : Ct := ⟨69, [.val (.st 26), .val (.int .i64)], [(.int .i64, false)], [], none⟩
theorem enter_cells_tag (args : Array Value) (w : World) : (callFunc q0a.f args).run Try.prog w = .ok (.enter q0a.f args) w := by kernel_rfl
def ann_cells_tag : Ann := ⟨[0, 1, 2, 4, 13], []⟩
def q2v : Tree := (.br (.or (.lt (.tok 1) (.lit (.i 0))) (.le (.len (.fld (.tok 0) 0)) (.tok 1))) (.leaf [(.lit (.i (-1)))]) (.need [(.le (.lit (.i 0)) (.tok 1)), (.lt (.tok 1) (.len (.fld (.tok 0) 0)))] (.leaf [(.fld (.get (.fld (.tok 0) 0) (.tok 1)) 0)])))
set_option maxRecDepth 100000 in
theorem code_cells_tag : ∀ cd, Try.f69.body = some cd → treeOf Try.prog [] ann_cells_tag q0a Try.f69 cd = q2v := by
  intro cd h
  injection h with h
  subst h
  kernel_rfl
theorem fok_cells_tag {g : List D → Option (List D)}  (h : ∀ ds outs, WfA q0a.ars ds → g ds = some outs → q2v.go (tblS []) (fun o => o = outs) ds fun _ _ => False) : FOk q0a g :=
  q0c ann_cells_tag Try.f69 _ .nil rfl rfl enter_cells_tag (by decide) fun ds outs hw hg => by rw [code_cells_tag  _ rfl]; exact h ds outs hw hg

def q02 : Ct := ⟨38, [.val (.st 26), .val (.st 36)], [(.bool, false)], [], none⟩
theorem enter_cells_ValidCell (args : Array Value) (w : World) : (callFunc q02.f args).run Try.prog w = .ok (.enter q02.f args) w := by kernel_rfl
def q3q : Ann := ⟨[0, 1, 2, 3, 4, 5, 7, 8, 10, 17, 29, 36], []⟩
def q21 : Tree := (.br (.eq (.fld (.tok 1) 0) (.lit (.i 1))) (.leaf [(.lit (.b .true))]) (.br (.eq (.fld (.tok 1) 0) (.lit (.i 2))) (.need [(.ok 0 [(.tok 0), (.fld (.tok 1) 1)])] (.leaf [(.eq (.call 0 0 [(.tok 0), (.fld (.tok 1) 1)]) (.lit (.i 0)))])) (.br (.eq (.fld (.tok 1) 0) (.lit (.i 0))) (.need [(.ok 1 [(.tok 0), (.fld (.tok 1) 1)])] (.leaf [(.and (.le (.lit (.i 0)) (.call 1 0 [(.tok 0), (.fld (.tok 1) 1)])) (.not (.eq (.call 1 0 [(.tok 0), (.fld (.tok 1) 1)]) (.lit (.i 4)))))])) (.br (.eq (.fld (.tok 1) 0) (.lit (.i 3))) (.need [(.ok 1 [(.tok 0), (.fld (.tok 1) 1)])] (.leaf [(.eq (.call 1 0 [(.tok 0), (.fld (.tok 1) 1)]) (.lit (.i 4)))])) (.br (.eq (.fld (.tok 1) 0) (.lit (.i 5))) (.need [(.ok 1 [(.tok 0), (.fld (.tok 1) 1)])] (.leaf [(.eq (.call 1 0 [(.tok 0), (.fld (.tok 1) 1)]) (.lit (.i 5)))])) (.leaf [(.lit (.b .false))]))))))
set_option maxRecDepth 100000 in
theorem code_cells_ValidCell (g0 g1 : List D → Option (List D)) : ∀ cd, Try.f38.body = some cd → treeOf Try.prog [(q0i, g0), (q0a, g1)] q3q q02 Try.f38 cd = q21 := by
  intro cd h
  injection h with h
  subst h
  kernel_rfl
theorem q3v {g0 g1 : List D → Option (List D)} {g : List D → Option (List D)} (h0 : FOk q0i g0) (h1 : FOk q0a g1) (h : ∀ ds outs, WfA q02.ars ds → g ds = some outs → q21.go (tblS [(q0i, g0), (q0a, g1)]) (fun o => o = outs) ds fun _ _ => False) : FOk q02 g :=
  q0c q3q Try.f38 _ (.cons h0 (.cons h1 .nil)) rfl rfl enter_cells_ValidCell (by decide) fun ds outs hw hg => by rw [code_cells_ValidCell g0 g1 _ rfl]; exact h ds outs hw hg

def q0h : Ct := ⟨55, [.val (.st 26), .val (.row 49)], [(.bool, false)], [], none⟩
theorem enter_cells_validVars (args : Array Value) (w : World) : (callFunc q0h.f args).run Try.prog w = .ok (.enter q0h.f args) w := by kernel_rfl
def q3w : Ann := ⟨[0, 1, 2, 4, 5, 6, 7, 8, 9, 10, 43], [(2, ⟨[(4, .bool, false), (9, .int .i64, false)], [], [10, 11, 12, 13, 6, 5, 14, 15, 16, 17, 18, 19, 20, 21, 22, 23, 24, 25, 26, 27, 28, 29, 30, 31, 32, 33, 34, 35, 36, 37, 38, 39, 40, 41, 42, 43, 44], []⟩)]⟩
def q20 : Tree := (.loop 2 2 [(.lit (.b .false)), (.lit (.i 0))] (.br (.lt (.tok 3) (.len (.tok 1))) (.need [(.le (.lit (.i 0)) (.tok 3)), (.lt (.tok 3) (.len (.tok 1)))] (.need [(.imp (.not (.or (.or (.lt (.fld (.get (.tok 1) (.tok 3)) 0) (.lit (.i 0))) (.lt (.lit (.i 1099511627776)) (.fld (.get (.tok 1) (.tok 3)) 0))) (.and (.lt (.lit (.i 0)) (.tok 3)) (.le (.fld (.get (.tok 1) (.tok 3)) 0) (.fld (.get (.tok 1) (.sub (.tok 3) (.lit (.i 1)))) 0))))) (.ok 0 [(.tok 0), (.fld (.get (.tok 1) (.tok 3)) 1)])), (.imp (.and (.not (.or (.lt (.fld (.get (.tok 1) (.tok 3)) 0) (.lit (.i 0))) (.lt (.lit (.i 1099511627776)) (.fld (.get (.tok 1) (.tok 3)) 0)))) (.lt (.lit (.i 0)) (.tok 3))) (.le (.lit (.i 0)) (.sub (.tok 3) (.lit (.i 1))))), (.imp (.and (.not (.or (.lt (.fld (.get (.tok 1) (.tok 3)) 0) (.lit (.i 0))) (.lt (.lit (.i 1099511627776)) (.fld (.get (.tok 1) (.tok 3)) 0)))) (.lt (.lit (.i 0)) (.tok 3))) (.lt (.sub (.tok 3) (.lit (.i 1))) (.len (.tok 1)))), (.imp (.and (.not (.or (.lt (.fld (.get (.tok 1) (.tok 3)) 0) (.lit (.i 0))) (.lt (.lit (.i 1099511627776)) (.fld (.get (.tok 1) (.tok 3)) 0)))) (.lt (.lit (.i 0)) (.tok 3))) (.le (.lit (.i 0)) (.sub (.tok 3) (.lit (.i 1))))), (.imp (.and (.not (.or (.lt (.fld (.get (.tok 1) (.tok 3)) 0) (.lit (.i 0))) (.lt (.lit (.i 1099511627776)) (.fld (.get (.tok 1) (.tok 3)) 0)))) (.lt (.lit (.i 0)) (.tok 3))) (.lt (.sub (.tok 3) (.lit (.i 1))) (.len (.tok 1)))), (.imp (.and (.not (.or (.lt (.fld (.get (.tok 1) (.tok 3)) 0) (.lit (.i 0))) (.lt (.lit (.i 1099511627776)) (.fld (.get (.tok 1) (.tok 3)) 0)))) (.lt (.lit (.i 0)) (.tok 3))) (.rng .i64 (.sub (.tok 3) (.lit (.i 1))))), (.imp (.and (.not (.or (.lt (.fld (.get (.tok 1) (.tok 3)) 0) (.lit (.i 0))) (.lt (.lit (.i 1099511627776)) (.fld (.get (.tok 1) (.tok 3)) 0)))) (.lt (.lit (.i 0)) (.tok 3))) (.rng .i64 (.sub (.tok 3) (.lit (.i 1))))), (.imp (.and (.not (.or (.lt (.fld (.get (.tok 1) (.tok 3)) 0) (.lit (.i 0))) (.lt (.lit (.i 1099511627776)) (.fld (.get (.tok 1) (.tok 3)) 0)))) (.lt (.lit (.i 0)) (.tok 3))) (.rng .i64 (.sub (.tok 3) (.lit (.i 1)))))] (.br (.or (.or (.or (.lt (.fld (.get (.tok 1) (.tok 3)) 0) (.lit (.i 0))) (.lt (.lit (.i 1099511627776)) (.fld (.get (.tok 1) (.tok 3)) 0))) (.and (.lt (.lit (.i 0)) (.tok 3)) (.le (.fld (.get (.tok 1) (.tok 3)) 0) (.fld (.get (.tok 1) (.sub (.tok 3) (.lit (.i 1)))) 0)))) (.not (.call 0 0 [(.tok 0), (.fld (.get (.tok 1) (.tok 3)) 1)]))) (.leaf [(.lit (.b .false))]) (.need [(.rng .i64 (.add (.tok 3) (.lit (.i 1))))] (.back 2 [(.tok 2), (.add (.tok 3) (.lit (.i 1)))]))))) (.leaf [(.lit (.b .true))])))
set_option maxRecDepth 100000 in
theorem code_cells_validVars (g0 : List D → Option (List D)) : ∀ cd, Try.f55.body = some cd → treeOf Try.prog [(q02, g0)] q3w q0h Try.f55 cd = q20 := by
  intro cd h
  injection h with h
  subst h
  kernel_rfl
theorem q3r {g0 : List D → Option (List D)} {g : List D → Option (List D)} (h0 : FOk q02 g0) (h : ∀ ds outs, WfA q0h.ars ds → g ds = some outs → q20.go (tblS [(q02, g0)]) (fun o => o = outs) ds fun _ _ => False) : FOk q0h g :=
  q0c q3w Try.f55 _ (.cons h0 .nil) rfl rfl enter_cells_validVars (by decide) fun ds outs hw hg => by rw [code_cells_validVars g0 _ rfl]; exact h ds outs hw hg

def q0n : Ct := ⟨97, [.val (.st 42), .ref (.map 72 4), .cell 34 5, .ref (.int .i64), .cell 116 6], [], [(.cell 2, .rref (.st 26)), (.cell 4, .fn 97 [1, 2, 3, 4])], none⟩
theorem q43 (args : Array Value) (w : World) : (callFunc q0n.f args).run Try.prog w = .ok (.enter q0n.f args) w := by kernel_rfl
def ann_cells_room_1 : Ann := ⟨[0, 1, 2, 3, 4, 5, 6, 8, 16, 32, 37, 45, 46, 47, 48], [(8, ⟨[(47, .int .i64, false)], [1, 3], [48, 49, 50, 8, 51, 52, 53, 54], []⟩)]⟩
def q2y : Tree := (.br (.or (.eq (.fld (.tok 0) 0) (.lit (.i 2))) (.eq (.fld (.tok 0) 0) (.lit (.i 3)))) (.need [(.imp (.not (.fn 0 [(.tok 1), (.mk [(.fld (.tok 0) 2), (.len (.fld (.tok 0) 3))]), (.lit (.b .false))])) (.ok 1 [(.tok 3), (.mk [(.fld (.tok 0) 2), (.len (.fld (.tok 0) 3))])]))] (.br (.and (.not (.fn 0 [(.tok 1), (.mk [(.fld (.tok 0) 2), (.len (.fld (.tok 0) 3))]), (.lit (.b .false))])) (.lt (.call 1 0 [(.tok 3), (.mk [(.fld (.tok 0) 2), (.len (.fld (.tok 0) 3))])]) (.lit (.i 0)))) (.br (.eq (.fld (.tok 0) 0) (.lit (.i 3))) (.need [(.rng .i64 (.add (.len (.fld (.tok 0) 3)) (.lit (.i 1)))), (.rng .i64 (.add (.tok 2) (.add (.len (.fld (.tok 0) 3)) (.lit (.i 1)))))] (.loop 8 4 [(.lit (.i 0)), (.fn 2 [(.tok 1), (.mk [(.fld (.tok 0) 2), (.len (.fld (.tok 0) 3))]), (.lit (.b .true))]), (.add (.tok 2) (.add (.len (.fld (.tok 0) 3)) (.lit (.i 1))))] (.br (.lt (.tok 4) (.len (.fld (.tok 0) 3))) (.need [(.le (.lit (.i 0)) (.tok 4)), (.lt (.tok 4) (.len (.fld (.tok 0) 3)))] (.need [(.ok 0 [(.get (.fld (.tok 0) 3) (.tok 4)), (.tok 5), (.tok 6), (.tok 3)])] (.need [(.rng .i64 (.add (.tok 4) (.lit (.i 1))))] (.back 8 [(.add (.tok 4) (.lit (.i 1))), (.call 0 0 [(.get (.fld (.tok 0) 3) (.tok 4)), (.tok 5), (.tok 6), (.tok 3)]), (.call 0 1 [(.get (.fld (.tok 0) 3) (.tok 4)), (.tok 5), (.tok 6), (.tok 3)])])))) (.leaf [(.tok 5), (.tok 6)])))) (.loop 8 4 [(.lit (.i 0)), (.fn 2 [(.tok 1), (.mk [(.fld (.tok 0) 2), (.len (.fld (.tok 0) 3))]), (.lit (.b .true))]), (.tok 2)] (.br (.lt (.tok 4) (.len (.fld (.tok 0) 3))) (.need [(.le (.lit (.i 0)) (.tok 4)), (.lt (.tok 4) (.len (.fld (.tok 0) 3)))] (.need [(.ok 0 [(.get (.fld (.tok 0) 3) (.tok 4)), (.tok 5), (.tok 6), (.tok 3)])] (.need [(.rng .i64 (.add (.tok 4) (.lit (.i 1))))] (.back 8 [(.add (.tok 4) (.lit (.i 1))), (.call 0 0 [(.get (.fld (.tok 0) 3) (.tok 4)), (.tok 5), (.tok 6), (.tok 3)]), (.call 0 1 [(.get (.fld (.tok 0) 3) (.tok 4)), (.tok 5), (.tok 6), (.tok 3)])])))) (.leaf [(.tok 5), (.tok 6)])))) (.br (.eq (.fld (.tok 0) 0) (.lit (.i 3))) (.need [(.rng .i64 (.add (.len (.fld (.tok 0) 3)) (.lit (.i 1)))), (.rng .i64 (.add (.tok 2) (.add (.len (.fld (.tok 0) 3)) (.lit (.i 1)))))] (.loop 8 4 [(.lit (.i 0)), (.tok 1), (.add (.tok 2) (.add (.len (.fld (.tok 0) 3)) (.lit (.i 1))))] (.br (.lt (.tok 4) (.len (.fld (.tok 0) 3))) (.need [(.le (.lit (.i 0)) (.tok 4)), (.lt (.tok 4) (.len (.fld (.tok 0) 3)))] (.need [(.ok 0 [(.get (.fld (.tok 0) 3) (.tok 4)), (.tok 5), (.tok 6), (.tok 3)])] (.need [(.rng .i64 (.add (.tok 4) (.lit (.i 1))))] (.back 8 [(.add (.tok 4) (.lit (.i 1))), (.call 0 0 [(.get (.fld (.tok 0) 3) (.tok 4)), (.tok 5), (.tok 6), (.tok 3)]), (.call 0 1 [(.get (.fld (.tok 0) 3) (.tok 4)), (.tok 5), (.tok 6), (.tok 3)])])))) (.leaf [(.tok 5), (.tok 6)])))) (.loop 8 4 [(.lit (.i 0)), (.tok 1), (.tok 2)] (.br (.lt (.tok 4) (.len (.fld (.tok 0) 3))) (.need [(.le (.lit (.i 0)) (.tok 4)), (.lt (.tok 4) (.len (.fld (.tok 0) 3)))] (.need [(.ok 0 [(.get (.fld (.tok 0) 3) (.tok 4)), (.tok 5), (.tok 6), (.tok 3)])] (.need [(.rng .i64 (.add (.tok 4) (.lit (.i 1))))] (.back 8 [(.add (.tok 4) (.lit (.i 1))), (.call 0 0 [(.get (.fld (.tok 0) 3) (.tok 4)), (.tok 5), (.tok 6), (.tok 3)]), (.call 0 1 [(.get (.fld (.tok 0) 3) (.tok 4)), (.tok 5), (.tok 6), (.tok 3)])])))) (.leaf [(.tok 5), (.tok 6)])))))) (.br (.eq (.fld (.tok 0) 0) (.lit (.i 3))) (.need [(.rng .i64 (.add (.len (.fld (.tok 0) 3)) (.lit (.i 1)))), (.rng .i64 (.add (.tok 2) (.add (.len (.fld (.tok 0) 3)) (.lit (.i 1)))))] (.loop 8 4 [(.lit (.i 0)), (.tok 1), (.add (.tok 2) (.add (.len (.fld (.tok 0) 3)) (.lit (.i 1))))] (.br (.lt (.tok 4) (.len (.fld (.tok 0) 3))) (.need [(.le (.lit (.i 0)) (.tok 4)), (.lt (.tok 4) (.len (.fld (.tok 0) 3)))] (.need [(.ok 0 [(.get (.fld (.tok 0) 3) (.tok 4)), (.tok 5), (.tok 6), (.tok 3)])] (.need [(.rng .i64 (.add (.tok 4) (.lit (.i 1))))] (.back 8 [(.add (.tok 4) (.lit (.i 1))), (.call 0 0 [(.get (.fld (.tok 0) 3) (.tok 4)), (.tok 5), (.tok 6), (.tok 3)]), (.call 0 1 [(.get (.fld (.tok 0) 3) (.tok 4)), (.tok 5), (.tok 6), (.tok 3)])])))) (.leaf [(.tok 5), (.tok 6)])))) (.loop 8 4 [(.lit (.i 0)), (.tok 1), (.tok 2)] (.br (.lt (.tok 4) (.len (.fld (.tok 0) 3))) (.need [(.le (.lit (.i 0)) (.tok 4)), (.lt (.tok 4) (.len (.fld (.tok 0) 3)))] (.need [(.ok 0 [(.get (.fld (.tok 0) 3) (.tok 4)), (.tok 5), (.tok 6), (.tok 3)])] (.need [(.rng .i64 (.add (.tok 4) (.lit (.i 1))))] (.back 8 [(.add (.tok 4) (.lit (.i 1))), (.call 0 0 [(.get (.fld (.tok 0) 3) (.tok 4)), (.tok 5), (.tok 6), (.tok 3)]), (.call 0 1 [(.get (.fld (.tok 0) 3) (.tok 4)), (.tok 5), (.tok 6), (.tok 3)])])))) (.leaf [(.tok 5), (.tok 6)])))))
set_option maxRecDepth 100000 in
theorem code_cells_room_1 (g0 g1 : List D → Option (List D)) : ∀ cd, Try.f97.body = some cd → treeOf Try.prog [(q0n, g0), (q0y, g1)] ann_cells_room_1 q0n Try.f97 cd = q2y := by
  intro cd h
  injection h with h
  subst h
  kernel_rfl
theorem fok_cells_room_1 {g0 g1 : List D → Option (List D)} {g : List D → Option (List D)} (h0 : FOk q0n g0) (h1 : FOk q0y g1) (h : ∀ ds outs, WfA q0n.ars ds → g ds = some outs → q2y.go (tblS [(q0n, g0), (q0y, g1)]) (fun o => o = outs) ds fun _ _ => False) : FOk q0n g :=
  q0c ann_cells_room_1 Try.f97 _ (.cons h0 (.cons h1 .nil)) rfl rfl q43 (by decide) fun ds outs hw hg => by rw [code_cells_room_1 g0 g1 _ rfl]; exact h ds outs hw hg

def q1e : Ct := ⟨56, [.rref (.st 26), .val (.st 42), .val (.row 49)], [(.bool, false)], [], none⟩
theorem enter_cells_room (args : Array Value) (w : World) : (callFunc q1e.f args).run Try.prog w = .ok (.enter q1e.f args) w := by kernel_rfl
def ann_cells_room : Ann := ⟨[0, 1, 2, 3, 4, 6, 7, 9, 10, 11, 14, 23], []⟩
def q3g : Tree := (.br (.eq (.fld (.tok 1) 0) (.lit (.i 0))) (.need [(.ok 1 [(.tok 2), (.fld (.tok 1) 1)])] (.br (.not (.call 1 1 [(.tok 2), (.fld (.tok 1) 1)])) (.need [(.rng .i64 (.lit (.i 1)))] (.need [(.ok 0 [(.tok 1), (.lit (.mp [])), (.lit (.i 1)), (.tok 0)])] (.need [(.imp (.le (.call 0 1 [(.tok 1), (.lit (.mp [])), (.lit (.i 1)), (.tok 0)]) (.sub (.fld (.tok 0) 5) (.len (.fld (.tok 0) 0)))) (.rng .i64 (.fn 3 [(.call 0 0 [(.tok 1), (.lit (.mp [])), (.lit (.i 1)), (.tok 0)])]))), (.imp (.le (.call 0 1 [(.tok 1), (.lit (.mp [])), (.lit (.i 1)), (.tok 0)]) (.sub (.fld (.tok 0) 5) (.len (.fld (.tok 0) 0)))) (.rng .i64 (.fn 3 [(.call 0 0 [(.tok 1), (.lit (.mp [])), (.lit (.i 1)), (.tok 0)])]))), (.imp (.le (.call 0 1 [(.tok 1), (.lit (.mp [])), (.lit (.i 1)), (.tok 0)]) (.sub (.fld (.tok 0) 5) (.len (.fld (.tok 0) 0)))) (.rng .i64 (.sub (.lit (.i 1048576)) (.len (.fld (.tok 0) 1))))), (.imp (.le (.call 0 1 [(.tok 1), (.lit (.mp [])), (.lit (.i 1)), (.tok 0)]) (.sub (.fld (.tok 0) 5) (.len (.fld (.tok 0) 0)))) (.rng .i64 (.fn 3 [(.call 0 0 [(.tok 1), (.lit (.mp [])), (.lit (.i 1)), (.tok 0)])]))), (.imp (.le (.call 0 1 [(.tok 1), (.lit (.mp [])), (.lit (.i 1)), (.tok 0)]) (.sub (.fld (.tok 0) 5) (.len (.fld (.tok 0) 0)))) (.rng .i64 (.fn 3 [(.call 0 0 [(.tok 1), (.lit (.mp [])), (.lit (.i 1)), (.tok 0)])]))), (.rng .i64 (.sub (.fld (.tok 0) 5) (.len (.fld (.tok 0) 0))))] (.leaf [(.and (.le (.call 0 1 [(.tok 1), (.lit (.mp [])), (.lit (.i 1)), (.tok 0)]) (.sub (.fld (.tok 0) 5) (.len (.fld (.tok 0) 0)))) (.le (.fn 3 [(.call 0 0 [(.tok 1), (.lit (.mp [])), (.lit (.i 1)), (.tok 0)])]) (.sub (.lit (.i 1048576)) (.len (.fld (.tok 0) 1)))))])))) (.need [(.ok 0 [(.tok 1), (.lit (.mp [])), (.lit (.i 0)), (.tok 0)])] (.need [(.imp (.le (.call 0 1 [(.tok 1), (.lit (.mp [])), (.lit (.i 0)), (.tok 0)]) (.sub (.fld (.tok 0) 5) (.len (.fld (.tok 0) 0)))) (.rng .i64 (.fn 3 [(.call 0 0 [(.tok 1), (.lit (.mp [])), (.lit (.i 0)), (.tok 0)])]))), (.imp (.le (.call 0 1 [(.tok 1), (.lit (.mp [])), (.lit (.i 0)), (.tok 0)]) (.sub (.fld (.tok 0) 5) (.len (.fld (.tok 0) 0)))) (.rng .i64 (.fn 3 [(.call 0 0 [(.tok 1), (.lit (.mp [])), (.lit (.i 0)), (.tok 0)])]))), (.imp (.le (.call 0 1 [(.tok 1), (.lit (.mp [])), (.lit (.i 0)), (.tok 0)]) (.sub (.fld (.tok 0) 5) (.len (.fld (.tok 0) 0)))) (.rng .i64 (.sub (.lit (.i 1048576)) (.len (.fld (.tok 0) 1))))), (.imp (.le (.call 0 1 [(.tok 1), (.lit (.mp [])), (.lit (.i 0)), (.tok 0)]) (.sub (.fld (.tok 0) 5) (.len (.fld (.tok 0) 0)))) (.rng .i64 (.fn 3 [(.call 0 0 [(.tok 1), (.lit (.mp [])), (.lit (.i 0)), (.tok 0)])]))), (.imp (.le (.call 0 1 [(.tok 1), (.lit (.mp [])), (.lit (.i 0)), (.tok 0)]) (.sub (.fld (.tok 0) 5) (.len (.fld (.tok 0) 0)))) (.rng .i64 (.fn 3 [(.call 0 0 [(.tok 1), (.lit (.mp [])), (.lit (.i 0)), (.tok 0)])]))), (.rng .i64 (.sub (.fld (.tok 0) 5) (.len (.fld (.tok 0) 0))))] (.leaf [(.and (.le (.call 0 1 [(.tok 1), (.lit (.mp [])), (.lit (.i 0)), (.tok 0)]) (.sub (.fld (.tok 0) 5) (.len (.fld (.tok 0) 0)))) (.le (.fn 3 [(.call 0 0 [(.tok 1), (.lit (.mp [])), (.lit (.i 0)), (.tok 0)])]) (.sub (.lit (.i 1048576)) (.len (.fld (.tok 0) 1)))))]))))) (.need [(.ok 0 [(.tok 1), (.lit (.mp [])), (.lit (.i 0)), (.tok 0)])] (.need [(.imp (.le (.call 0 1 [(.tok 1), (.lit (.mp [])), (.lit (.i 0)), (.tok 0)]) (.sub (.fld (.tok 0) 5) (.len (.fld (.tok 0) 0)))) (.rng .i64 (.fn 3 [(.call 0 0 [(.tok 1), (.lit (.mp [])), (.lit (.i 0)), (.tok 0)])]))), (.imp (.le (.call 0 1 [(.tok 1), (.lit (.mp [])), (.lit (.i 0)), (.tok 0)]) (.sub (.fld (.tok 0) 5) (.len (.fld (.tok 0) 0)))) (.rng .i64 (.fn 3 [(.call 0 0 [(.tok 1), (.lit (.mp [])), (.lit (.i 0)), (.tok 0)])]))), (.imp (.le (.call 0 1 [(.tok 1), (.lit (.mp [])), (.lit (.i 0)), (.tok 0)]) (.sub (.fld (.tok 0) 5) (.len (.fld (.tok 0) 0)))) (.rng .i64 (.sub (.lit (.i 1048576)) (.len (.fld (.tok 0) 1))))), (.imp (.le (.call 0 1 [(.tok 1), (.lit (.mp [])), (.lit (.i 0)), (.tok 0)]) (.sub (.fld (.tok 0) 5) (.len (.fld (.tok 0) 0)))) (.rng .i64 (.fn 3 [(.call 0 0 [(.tok 1), (.lit (.mp [])), (.lit (.i 0)), (.tok 0)])]))), (.imp (.le (.call 0 1 [(.tok 1), (.lit (.mp [])), (.lit (.i 0)), (.tok 0)]) (.sub (.fld (.tok 0) 5) (.len (.fld (.tok 0) 0)))) (.rng .i64 (.fn 3 [(.call 0 0 [(.tok 1), (.lit (.mp [])), (.lit (.i 0)), (.tok 0)])]))), (.rng .i64 (.sub (.fld (.tok 0) 5) (.len (.fld (.tok 0) 0))))] (.leaf [(.and (.le (.call 0 1 [(.tok 1), (.lit (.mp [])), (.lit (.i 0)), (.tok 0)]) (.sub (.fld (.tok 0) 5) (.len (.fld (.tok 0) 0)))) (.le (.fn 3 [(.call 0 0 [(.tok 1), (.lit (.mp [])), (.lit (.i 0)), (.tok 0)])]) (.sub (.lit (.i 1048576)) (.len (.fld (.tok 0) 1)))))]))))
set_option maxRecDepth 100000 in
theorem code_cells_room (g0 g1 : List D → Option (List D)) : ∀ cd, Try.f56.body = some cd → treeOf Try.prog [(q0n, g0), (q03, g1)] ann_cells_room q1e Try.f56 cd = q3g := by
  intro cd h
  injection h with h
  subst h
  kernel_rfl
theorem fok_cells_room {g0 g1 : List D → Option (List D)} {g : List D → Option (List D)} (h0 : FOk q0n g0) (h1 : FOk q03 g1) (h : ∀ ds outs, WfA q1e.ars ds → g ds = some outs → q3g.go (tblS [(q0n, g0), (q03, g1)]) (fun o => o = outs) ds fun _ _ => False) : FOk q1e g :=
  q0c ann_cells_room Try.f56 _ (.cons h0 (.cons h1 .nil)) rfl rfl enter_cells_room (by decide) fun ds outs hw hg => by rw [code_cells_room g0 g1 _ rfl]; exact h ds outs hw hg

def q0b : Ct := ⟨57, [.val (.row 49)], [(.row 49, true)], [], none⟩
theorem q46 (args : Array Value) (w : World) : (callFunc q0b.f args).run Try.prog w = .ok (.enter q0b.f args) w := by kernel_rfl
def q2n : Ann := ⟨[0, 2, 4], []⟩
def q1z : Tree := (.amb (.tok 0) .false (.leaf [(.lit (.r []))]) (.need [(.le (.add (.lit (.i 0)) (.len (.tok 0))) (.lit (.i 5864062014634)))] (.leaf [(.app (.row []) (.tok 0))])))
set_option maxRecDepth 100000 in
theorem q4a : ∀ cd, Try.f57.body = some cd → treeOf Try.prog [] q2n q0b Try.f57 cd = q1z := by
  intro cd h
  injection h with h
  subst h
  kernel_rfl
theorem q2p {g : List D → Option (List D)}  (h : ∀ ds outs, WfA q0b.ars ds → g ds = some outs → q1z.go (tblS []) (fun o => o = outs) ds fun _ _ => False) : FOk q0b g :=
  q0c q2n Try.f57 _ .nil rfl rfl q46 (by decide) fun ds outs hw hg => by rw [q4a  _ rfl]; exact h ds outs hw hg

def q1i : Ct := ⟨21, [.ref (.st 26), .val (.st 42), .val (.row 49)], [(.st 36, false), (.row 49, false), (.int .i64, false)], [], none⟩
theorem enter_cells_Put (args : Array Value) (w : World) : (callFunc q1i.f args).run Try.prog w = .ok (.enter q1i.f args) w := by kernel_rfl
def ann_cells_Put : Ann := ⟨[0, 1, 2, 3, 4, 6, 7, 8, 9, 24, 30], []⟩
def q3z : Tree := (.need [(.ok 1 [(.tok 1)]), (.imp (.not (.not (.call 1 0 [(.tok 1)]))) (.ok 2 [(.tok 0), (.tok 2)]))] (.br (.or (.not (.call 1 0 [(.tok 1)])) (.not (.call 2 0 [(.tok 0), (.tok 2)]))) (.leaf [(.lit (.a [(.i 0), (.i 0)])), (.lit (.r [])), (.lit (.i 1)), (.tok 0)]) (.need [(.ok 3 [(.tok 0), (.tok 1), (.tok 2)])] (.br (.not (.call 3 0 [(.tok 0), (.tok 1), (.tok 2)])) (.leaf [(.lit (.a [(.i 0), (.i 0)])), (.lit (.r [])), (.lit (.i 13)), (.tok 0)]) (.need [(.ok 4 [(.tok 2)])] (.need [(.ok 0 [(.tok 1), (.lit (.i (-1))), (.call 4 0 [(.tok 2)]), (.tok 0)])] (.leaf [(.call 0 0 [(.tok 1), (.lit (.i (-1))), (.call 4 0 [(.tok 2)]), (.tok 0)]), (.call 0 1 [(.tok 1), (.lit (.i (-1))), (.call 4 0 [(.tok 2)]), (.tok 0)]), (.lit (.i 0)), (.call 0 2 [(.tok 1), (.lit (.i (-1))), (.call 4 0 [(.tok 2)]), (.tok 0)])])))))))
set_option maxRecDepth 100000 in
theorem code_cells_Put (g0 g1 g2 g3 g4 : List D → Option (List D)) : ∀ cd, Try.f21.body = some cd → treeOf Try.prog [(q0u, g0), (q0k, g1), (q0h, g2), (q1e, g3), (q0b, g4)] ann_cells_Put q1i Try.f21 cd = q3z := by
  intro cd h
  injection h with h
  subst h
  kernel_rfl
theorem fok_cells_Put {g0 g1 g2 g3 g4 : List D → Option (List D)} {g : List D → Option (List D)} (h0 : FOk q0u g0) (h1 : FOk q0k g1) (h2 : FOk q0h g2) (h3 : FOk q1e g3) (h4 : FOk q0b g4) (h : ∀ ds outs, WfA q1i.ars ds → g ds = some outs → q3z.go (tblS [(q0u, g0), (q0k, g1), (q0h, g2), (q1e, g3), (q0b, g4)]) (fun o => o = outs) ds fun _ _ => False) : FOk q1i g :=
  q0c ann_cells_Put Try.f21 _ (.cons h0 (.cons h1 (.cons h2 (.cons h3 (.cons h4 .nil))))) rfl rfl enter_cells_Put (by decide) fun ds outs hw hg => by rw [code_cells_Put g0 g1 g2 g3 g4 _ rfl]; exact h ds outs hw hg

def q1j : Ct := ⟨44, [.val (.int .i64)], [(.st 36, false)], [], none⟩
theorem enter_law30_str (args : Array Value) (w : World) : (callFunc q1j.f args).run Try.prog w = .ok (.enter q1j.f args) w := by kernel_rfl
def ann_law30_str : Ann := ⟨[0, 2], []⟩
def q3y : Tree := (.leaf [(.mk [(.lit (.i 3)), (.tok 0)])])
set_option maxRecDepth 100000 in
theorem code_law30_str : ∀ cd, Try.f44.body = some cd → treeOf Try.prog [] ann_law30_str q1j Try.f44 cd = q3y := by
  intro cd h
  injection h with h
  subst h
  kernel_rfl
theorem fok_law30_str {g : List D → Option (List D)}  (h : ∀ ds outs, WfA q1j.ars ds → g ds = some outs → q3y.go (tblS []) (fun o => o = outs) ds fun _ _ => False) : FOk q1j g :=
  q0c ann_law30_str Try.f44 _ .nil rfl rfl enter_law30_str (by decide) fun ds outs hw hg => by rw [code_law30_str  _ rfl]; exact h ds outs hw hg

def q1k : Ct := ⟨39, [.val (.int .i64)], [(.st 36, false)], [], none⟩
theorem enter_law30_ref (args : Array Value) (w : World) : (callFunc q1k.f args).run Try.prog w = .ok (.enter q1k.f args) w := by kernel_rfl
def ann_law30_ref : Ann := ⟨[0, 2], []⟩
def q3x : Tree := (.leaf [(.mk [(.lit (.i 0)), (.tok 0)])])
set_option maxRecDepth 100000 in
theorem code_law30_ref : ∀ cd, Try.f39.body = some cd → treeOf Try.prog [] ann_law30_ref q1k Try.f39 cd = q3x := by
  intro cd h
  injection h with h
  subst h
  kernel_rfl
theorem fok_law30_ref {g : List D → Option (List D)}  (h : ∀ ds outs, WfA q1k.ars ds → g ds = some outs → q3x.go (tblS []) (fun o => o = outs) ds fun _ _ => False) : FOk q1k g :=
  q0c ann_law30_ref Try.f39 _ .nil rfl rfl enter_law30_ref (by decide) fun ds outs hw hg => by rw [code_law30_ref  _ rfl]; exact h ds outs hw hg

def q1n : Ct := ⟨23, [.val (.row 49), .val (.row 49)], [(.bool, false)], [], none⟩
theorem enter_law30_vars (args : Array Value) (w : World) : (callFunc q1n.f args).run Try.prog w = .ok (.enter q1n.f args) w := by kernel_rfl
def ann_law30_vars : Ann := ⟨[0, 1, 4, 5, 10, 14, 25], [(4, ⟨[(4, .bool, false), (5, .int .i64, false)], [], [11, 12, 13, 14, 17, 18, 19, 20, 21, 22, 23, 24, 25, 15, 16], []⟩)]⟩
def q3n : Tree := (.br (.not (.eq (.len (.tok 0)) (.len (.tok 1)))) (.leaf [(.lit (.b .false))]) (.loop 4 2 [(.lit (.b .false)), (.lit (.i 0))] (.br (.lt (.tok 3) (.len (.tok 0))) (.need [(.le (.lit (.i 0)) (.tok 3)), (.lt (.tok 3) (.len (.tok 1))), (.le (.lit (.i 0)) (.tok 3)), (.lt (.tok 3) (.len (.tok 0)))] (.br (.not (.eq (.get (.tok 0) (.tok 3)) (.get (.tok 1) (.tok 3)))) (.leaf [(.lit (.b .false))]) (.need [(.rng .i64 (.add (.tok 3) (.lit (.i 1))))] (.back 4 [(.tok 2), (.add (.tok 3) (.lit (.i 1)))])))) (.leaf [(.lit (.b .true))]))))
set_option maxRecDepth 100000 in
theorem code_law30_vars : ∀ cd, Try.f23.body = some cd → treeOf Try.prog [] ann_law30_vars q1n Try.f23 cd = q3n := by
  intro cd h
  injection h with h
  subst h
  kernel_rfl
theorem fok_law30_vars {g : List D → Option (List D)}  (h : ∀ ds outs, WfA q1n.ars ds → g ds = some outs → q3n.go (tblS []) (fun o => o = outs) ds fun _ _ => False) : FOk q1n g :=
  q0c ann_law30_vars Try.f23 _ .nil rfl rfl enter_law30_vars (by decide) fun ds outs hw hg => by rw [code_law30_vars  _ rfl]; exact h ds outs hw hg

def q0q : Ct := ⟨26, [.val (.st 26), .val (.st 36)], [(.st 36, false)], [], none⟩
theorem enter_cells_Deref (args : Array Value) (w : World) : (callFunc q0q.f args).run Try.prog w = .ok (.enter q0q.f args) w := by kernel_rfl
def ann_cells_Deref : Ann := ⟨[0, 1, 2, 3, 4, 8, 12, 13, 14, 34], [(4, ⟨[(13, .int .i64, false)], [3], [14, 15, 16, 17, 18, 19, 20, 21, 22, 23, 24, 25, 26, 27, 28, 29, 30, 31, 32, 33, 34, 35, 36, 37, 38, 39, 40, 41], []⟩)]⟩
def q2d : Tree := (.need [(.ok 0 [(.tok 0), (.tok 1)])] (.br (.not (.call 0 0 [(.tok 0), (.tok 1)])) (.leaf [(.lit (.a [(.i 0), (.i 0)]))]) (.loop 4 2 [(.lit (.i 0)), (.tok 1)] (.br (.lt (.tok 2) (.len (.fld (.tok 0) 0))) (.need [(.imp (.not (.or (.not (.eq (.fld (.tok 3) 0) (.lit (.i 0)))) (.lt (.call 1 0 [(.tok 0), (.fld (.tok 3) 1)]) (.lit (.i 0))))) (.le (.lit (.i 0)) (.fld (.tok 3) 1))), (.imp (.not (.or (.not (.eq (.fld (.tok 3) 0) (.lit (.i 0)))) (.lt (.call 1 0 [(.tok 0), (.fld (.tok 3) 1)]) (.lit (.i 0))))) (.lt (.fld (.tok 3) 1) (.len (.fld (.tok 0) 0)))), (.imp (.not (.or (.not (.eq (.fld (.tok 3) 0) (.lit (.i 0)))) (.lt (.call 1 0 [(.tok 0), (.fld (.tok 3) 1)]) (.lit (.i 0))))) (.le (.lit (.i 0)) (.fld (.tok 3) 1))), (.imp (.not (.or (.not (.eq (.fld (.tok 3) 0) (.lit (.i 0)))) (.lt (.call 1 0 [(.tok 0), (.fld (.tok 3) 1)]) (.lit (.i 0))))) (.lt (.fld (.tok 3) 1) (.len (.fld (.tok 0) 0)))), (.imp (.not (.not (.eq (.fld (.tok 3) 0) (.lit (.i 0))))) (.ok 1 [(.tok 0), (.fld (.tok 3) 1)]))] (.br (.or (.or (.not (.eq (.fld (.tok 3) 0) (.lit (.i 0)))) (.lt (.call 1 0 [(.tok 0), (.fld (.tok 3) 1)]) (.lit (.i 0)))) (.eq (.get (.fld (.tok 0) 0) (.fld (.tok 3) 1)) (.tok 3))) (.leaf [(.tok 3)]) (.need [(.le (.lit (.i 0)) (.fld (.tok 3) 1)), (.lt (.fld (.tok 3) 1) (.len (.fld (.tok 0) 0)))] (.need [(.rng .i64 (.add (.tok 2) (.lit (.i 1))))] (.back 4 [(.add (.tok 2) (.lit (.i 1))), (.get (.fld (.tok 0) 0) (.fld (.tok 3) 1))]))))) (.leaf [(.tok 3)])))))
set_option maxRecDepth 100000 in
theorem code_cells_Deref (g0 g1 : List D → Option (List D)) : ∀ cd, Try.f26.body = some cd → treeOf Try.prog [(q02, g0), (q0a, g1)] ann_cells_Deref q0q Try.f26 cd = q2d := by
  intro cd h
  injection h with h
  subst h
  kernel_rfl
theorem fok_cells_Deref {g0 g1 : List D → Option (List D)} {g : List D → Option (List D)} (h0 : FOk q02 g0) (h1 : FOk q0a g1) (h : ∀ ds outs, WfA q0q.ars ds → g ds = some outs → q2d.go (tblS [(q02, g0), (q0a, g1)]) (fun o => o = outs) ds fun _ _ => False) : FOk q0q g :=
  q0c ann_cells_Deref Try.f26 _ (.cons h0 (.cons h1 .nil)) rfl rfl enter_cells_Deref (by decide) fun ds outs hw hg => by rw [code_cells_Deref g0 g1 _ rfl]; exact h ds outs hw hg

def q1l : Ct := ⟨66, [.val (.int .i64)], [(.st 42, false)], [], none⟩
theorem enter_term_Int (args : Array Value) (w : World) : (callFunc q1l.f args).run Try.prog w = .ok (.enter q1l.f args) w := by kernel_rfl
def ann_term_Int : Ann := ⟨[0, 2], []⟩
def q32 : Tree := (.leaf [(.set (.set (.lit (.a [(.i 0), (.i 0), (.s ⟨#[]⟩), (.r [])])) 0 (.lit (.i 1))) 1 (.tok 0))])
set_option maxRecDepth 100000 in
theorem code_term_Int : ∀ cd, Try.f66.body = some cd → treeOf Try.prog [] ann_term_Int q1l Try.f66 cd = q32 := by
  intro cd h
  injection h with h
  subst h
  kernel_rfl
theorem fok_term_Int {g : List D → Option (List D)}  (h : ∀ ds outs, WfA q1l.ars ds → g ds = some outs → q32.go (tblS []) (fun o => o = outs) ds fun _ _ => False) : FOk q1l g :=
  q0c ann_term_Int Try.f66 _ .nil rfl rfl enter_term_Int (by decide) fun ds outs hw hg => by rw [code_term_Int  _ rfl]; exact h ds outs hw hg

def q10 : Ct := ⟨114, [.val (.st 42)], [(.st 42, false)], [], none⟩
theorem enter_term_Clone_1 (args : Array Value) (w : World) : (callFunc q10.f args).run Try.prog w = .ok (.enter q10.f args) w := by kernel_rfl
def ann_term_Clone_1 : Ann := ⟨[0, 1, 2], []⟩
def q26 : Tree := (.leaf [(.tok 0)])
set_option maxRecDepth 100000 in
theorem code_term_Clone_1 : ∀ cd, Try.f114.body = some cd → treeOf Try.prog [] ann_term_Clone_1 q10 Try.f114 cd = q26 := by
  intro cd h
  injection h with h
  subst h
  kernel_rfl
theorem fok_term_Clone_1 {g : List D → Option (List D)}  (h : ∀ ds outs, WfA q10.ars ds → g ds = some outs → q26.go (tblS []) (fun o => o = outs) ds fun _ _ => False) : FOk q10 g :=
  q0c ann_term_Clone_1 Try.f114 _ .nil rfl rfl enter_term_Clone_1 (by decide) fun ds outs hw hg => by rw [code_term_Clone_1  _ rfl]; exact h ds outs hw hg

def q0v : Ct := ⟨113, [.val (.st 42), .fn 114 []], [(.st 42, false)], [], none⟩
theorem q39 (args : Array Value) (w : World) : (callFunc q0v.f args).run Try.prog w = .ok (.enter q0v.f args) w := by kernel_rfl
def ann_term_apply : Ann := ⟨[0, 1, 2, 4, 5, 7, 10, 22, 23, 24, 25], [(5, ⟨[(24, .int .i64, false)], [5], [25, 26, 27, 7, 28, 29, 30, 31, 32, 33, 34, 35, 36], []⟩)]⟩
def q2l : Tree := (.br (.eq (.fld (.tok 0) 0) (.lit (.i 0))) (.need [(.ok 0 [(.tok 0)])] (.leaf [(.call 0 0 [(.tok 0)])])) (.loop 5 1 [(.lit (.i 0)), (.set (.set (.set (.lit (.a [(.i 0), (.i 0), (.s ⟨#[]⟩), (.r [])])) 0 (.fld (.tok 0) 0)) 1 (.fld (.tok 0) 1)) 2 (.fld (.tok 0) 2))] (.br (.lt (.tok 1) (.len (.fld (.tok 0) 3))) (.need [(.le (.lit (.i 0)) (.tok 1)), (.lt (.tok 1) (.len (.fld (.tok 0) 3)))] (.need [(.ok 1 [(.get (.fld (.tok 0) 3) (.tok 1))]), (.le (.add (.len (.fld (.tok 2) 3)) (.lit (.i 1))) (.lit (.i 2513169434843)))] (.need [(.rng .i64 (.add (.tok 1) (.lit (.i 1))))] (.back 5 [(.add (.tok 1) (.lit (.i 1))), (.set (.tok 2) 3 (.app (.fld (.tok 2) 3) (.row [(.call 1 0 [(.get (.fld (.tok 0) 3) (.tok 1))])])))])))) (.leaf [(.tok 2)]))))
set_option maxRecDepth 100000 in
theorem code_term_apply (g0 g1 : List D → Option (List D)) : ∀ cd, Try.f113.body = some cd → treeOf Try.prog [(q10, g0), (q0v, g1)] ann_term_apply q0v Try.f113 cd = q2l := by
  intro cd h
  injection h with h
  subst h
  kernel_rfl
theorem fok_term_apply {g0 g1 : List D → Option (List D)} {g : List D → Option (List D)} (h0 : FOk q10 g0) (h1 : FOk q0v g1) (h : ∀ ds outs, WfA q0v.ars ds → g ds = some outs → q2l.go (tblS [(q10, g0), (q0v, g1)]) (fun o => o = outs) ds fun _ _ => False) : FOk q0v g :=
  q0c ann_term_apply Try.f113 _ (.cons h0 (.cons h1 .nil)) rfl rfl q39 (by decide) fun ds outs hw hg => by rw [code_term_apply g0 g1 _ rfl]; exact h ds outs hw hg

def q14 : Ct := ⟨105, [.val (.st 42)], [(.st 42, false)], [], none⟩
theorem enter_term_Clone (args : Array Value) (w : World) : (callFunc q14.f args).run Try.prog w = .ok (.enter q14.f args) w := by kernel_rfl
def ann_term_Clone : Ann := ⟨[0, 1, 2, 5], []⟩
def q2j : Tree := (.need [(.ok 0 [(.tok 0)])] (.br (.not (.call 0 0 [(.tok 0)])) (.leaf [(.lit (.a [(.i 0), (.i 0), (.s ⟨#[]⟩), (.r [])]))]) (.need [(.ok 1 [(.tok 0)])] (.leaf [(.call 1 0 [(.tok 0)])]))))
set_option maxRecDepth 100000 in
theorem code_term_Clone (g0 g1 : List D → Option (List D)) : ∀ cd, Try.f105.body = some cd → treeOf Try.prog [(q0k, g0), (q0v, g1)] ann_term_Clone q14 Try.f105 cd = q2j := by
  intro cd h
  injection h with h
  subst h
  kernel_rfl
theorem fok_term_Clone {g0 g1 : List D → Option (List D)} {g : List D → Option (List D)} (h0 : FOk q0k g0) (h1 : FOk q0v g1) (h : ∀ ds outs, WfA q14.ars ds → g ds = some outs → q2j.go (tblS [(q0k, g0), (q0v, g1)]) (fun o => o = outs) ds fun _ _ => False) : FOk q14 g :=
  q0c ann_term_Clone Try.f105 _ (.cons h0 (.cons h1 .nil)) rfl rfl enter_term_Clone (by decide) fun ds outs hw hg => by rw [code_term_Clone g0 g1 _ rfl]; exact h ds outs hw hg

def q1a : Ct := ⟨68, [.val (.str)], [(.st 42, false)], [], none⟩
theorem enter_term_Atom (args : Array Value) (w : World) : (callFunc q1a.f args).run Try.prog w = .ok (.enter q1a.f args) w := by kernel_rfl
def ann_term_Atom : Ann := ⟨[0, 2], []⟩
def q2r : Tree := (.need [(.ok 0 [(.set (.set (.lit (.a [(.i 0), (.i 0), (.s ⟨#[]⟩), (.r [])])) 0 (.lit (.i 2))) 2 (.tok 0))])] (.leaf [(.call 0 0 [(.set (.set (.lit (.a [(.i 0), (.i 0), (.s ⟨#[]⟩), (.r [])])) 0 (.lit (.i 2))) 2 (.tok 0))])]))
set_option maxRecDepth 100000 in
theorem code_term_Atom (g0 : List D → Option (List D)) : ∀ cd, Try.f68.body = some cd → treeOf Try.prog [(q14, g0)] ann_term_Atom q1a Try.f68 cd = q2r := by
  intro cd h
  injection h with h
  subst h
  kernel_rfl
theorem fok_term_Atom {g0 : List D → Option (List D)} {g : List D → Option (List D)} (h0 : FOk q14 g0) (h : ∀ ds outs, WfA q1a.ars ds → g ds = some outs → q2r.go (tblS [(q14, g0)]) (fun o => o = outs) ds fun _ _ => False) : FOk q1a g :=
  q0c ann_term_Atom Try.f68 _ (.cons h0 .nil) rfl rfl enter_term_Atom (by decide) fun ds outs hw hg => by rw [code_term_Atom g0 _ rfl]; exact h ds outs hw hg

def q0o : Ct := ⟨65, [.val (.st 36), .ref (.int .i64), .rref (.st 26), .cell 97 4], [(.st 42, false)], [(.cell 3, .fn 65 [1, 2, 3])], none⟩
theorem q2x (args : Array Value) (w : World) : (callFunc q0o.f args).run Try.prog w = .ok (.enter q0o.f args) w := by kernel_rfl
def ann_cells_Get_1 : Ann := ⟨[0, 1, 2, 3, 4, 5, 6, 7, 8, 12, 17, 24, 43, 99], [(13, ⟨[(8, .int .i64, false)], [1, 7], [83, 84, 85, 86, 87, 88, 89, 90, 91, 92, 93, 94, 95, 96, 97, 98, 99, 102, 103, 104, 105, 106, 107, 108, 109, 110, 111, 112, 113, 100, 101], []⟩)]⟩
def q2b : Tree := (.need [(.rng .i64 (.sub (.tok 1) (.lit (.i 1))))] (.br (.lt (.sub (.tok 1) (.lit (.i 1))) (.lit (.i 0))) (.leaf [(.lit (.a [(.i 0), (.i 0), (.s ⟨#[]⟩), (.r [])])), (.sub (.tok 1) (.lit (.i 1)))]) (.need [(.ok 1 [(.tok 2), (.tok 0)])] (.br (.eq (.fld (.call 1 0 [(.tok 2), (.tok 0)]) 0) (.lit (.i 1))) (.need [(.ok 2 [(.fld (.call 1 0 [(.tok 2), (.tok 0)]) 1)])] (.leaf [(.call 2 0 [(.fld (.call 1 0 [(.tok 2), (.tok 0)]) 1)]), (.sub (.tok 1) (.lit (.i 1)))])) (.need [(.imp (.eq (.fld (.call 1 0 [(.tok 2), (.tok 0)]) 0) (.lit (.i 2))) (.ok 3 [(.tok 2), (.fld (.call 1 0 [(.tok 2), (.tok 0)]) 1)]))] (.br (.and (.eq (.fld (.call 1 0 [(.tok 2), (.tok 0)]) 0) (.lit (.i 2))) (.le (.lit (.i 0)) (.call 3 0 [(.tok 2), (.fld (.call 1 0 [(.tok 2), (.tok 0)]) 1)]))) (.need [(.le (.lit (.i 0)) (.fld (.call 1 0 [(.tok 2), (.tok 0)]) 1)), (.lt (.fld (.call 1 0 [(.tok 2), (.tok 0)]) 1) (.len (.fld (.tok 2) 1))), (.ok 4 [(.fld (.get (.fld (.tok 2) 1) (.fld (.call 1 0 [(.tok 2), (.tok 0)]) 1)) 0)])] (.leaf [(.call 4 0 [(.fld (.get (.fld (.tok 2) 1) (.fld (.call 1 0 [(.tok 2), (.tok 0)]) 1)) 0)]), (.sub (.tok 1) (.lit (.i 1)))])) (.need [(.imp (.and (.eq (.fld (.call 1 0 [(.tok 2), (.tok 0)]) 0) (.lit (.i 3))) (.eq (.call 5 0 [(.tok 2), (.fld (.call 1 0 [(.tok 2), (.tok 0)]) 1)]) (.lit (.i 4)))) (.ok 3 [(.tok 2), (.fld (.get (.fld (.tok 2) 0) (.fld (.call 1 0 [(.tok 2), (.tok 0)]) 1)) 1)])), (.imp (.and (.eq (.fld (.call 1 0 [(.tok 2), (.tok 0)]) 0) (.lit (.i 3))) (.eq (.call 5 0 [(.tok 2), (.fld (.call 1 0 [(.tok 2), (.tok 0)]) 1)]) (.lit (.i 4)))) (.le (.lit (.i 0)) (.fld (.call 1 0 [(.tok 2), (.tok 0)]) 1))), (.imp (.and (.eq (.fld (.call 1 0 [(.tok 2), (.tok 0)]) 0) (.lit (.i 3))) (.eq (.call 5 0 [(.tok 2), (.fld (.call 1 0 [(.tok 2), (.tok 0)]) 1)]) (.lit (.i 4)))) (.lt (.fld (.call 1 0 [(.tok 2), (.tok 0)]) 1) (.len (.fld (.tok 2) 0)))), (.imp (.eq (.fld (.call 1 0 [(.tok 2), (.tok 0)]) 0) (.lit (.i 3))) (.ok 5 [(.tok 2), (.fld (.call 1 0 [(.tok 2), (.tok 0)]) 1)]))] (.br (.and (.and (.eq (.fld (.call 1 0 [(.tok 2), (.tok 0)]) 0) (.lit (.i 3))) (.eq (.call 5 0 [(.tok 2), (.fld (.call 1 0 [(.tok 2), (.tok 0)]) 1)]) (.lit (.i 4)))) (.le (.lit (.i 0)) (.call 3 0 [(.tok 2), (.fld (.get (.fld (.tok 2) 0) (.fld (.call 1 0 [(.tok 2), (.tok 0)]) 1)) 1)]))) (.need [(.le (.lit (.i 0)) (.fld (.get (.fld (.tok 2) 0) (.fld (.call 1 0 [(.tok 2), (.tok 0)]) 1)) 1)), (.lt (.fld (.get (.fld (.tok 2) 0) (.fld (.call 1 0 [(.tok 2), (.tok 0)]) 1)) 1) (.len (.fld (.tok 2) 1))), (.le (.lit (.i 0)) (.fld (.call 1 0 [(.tok 2), (.tok 0)]) 1)), (.lt (.fld (.call 1 0 [(.tok 2), (.tok 0)]) 1) (.len (.fld (.tok 2) 0)))] (.need [(.rng .i64 (.add (.fld (.call 1 0 [(.tok 2), (.tok 0)]) 1) (.lit (.i 1))))] (.loop 13 3 [(.add (.fld (.call 1 0 [(.tok 2), (.tok 0)]) 1) (.lit (.i 1))), (.sub (.tok 1) (.lit (.i 1))), (.set (.set (.lit (.a [(.i 0), (.i 0), (.s ⟨#[]⟩), (.r [])])) 0 (.lit (.i 3))) 2 (.fld (.get (.fld (.tok 2) 1) (.fld (.get (.fld (.tok 2) 0) (.fld (.call 1 0 [(.tok 2), (.tok 0)]) 1)) 1)) 0))] (.need [(.rng .i64 (.add (.fld (.call 1 0 [(.tok 2), (.tok 0)]) 1) (.fld (.get (.fld (.tok 2) 1) (.fld (.get (.fld (.tok 2) 0) (.fld (.call 1 0 [(.tok 2), (.tok 0)]) 1)) 1)) 1))), (.imp (.le (.tok 3) (.add (.fld (.call 1 0 [(.tok 2), (.tok 0)]) 1) (.fld (.get (.fld (.tok 2) 1) (.fld (.get (.fld (.tok 2) 0) (.fld (.call 1 0 [(.tok 2), (.tok 0)]) 1)) 1)) 1))) (.ok 5 [(.tok 2), (.tok 3)]))] (.br (.and (.and (.le (.tok 3) (.add (.fld (.call 1 0 [(.tok 2), (.tok 0)]) 1) (.fld (.get (.fld (.tok 2) 1) (.fld (.get (.fld (.tok 2) 0) (.fld (.call 1 0 [(.tok 2), (.tok 0)]) 1)) 1)) 1))) (.le (.lit (.i 0)) (.call 5 0 [(.tok 2), (.tok 3)]))) (.le (.lit (.i 0)) (.tok 4))) (.need [(.le (.lit (.i 0)) (.tok 3)), (.lt (.tok 3) (.len (.fld (.tok 2) 0))), (.ok 0 [(.get (.fld (.tok 2) 0) (.tok 3)), (.tok 4), (.tok 2)]), (.le (.add (.len (.fld (.tok 5) 3)) (.lit (.i 1))) (.lit (.i 2513169434843)))] (.need [(.rng .i64 (.add (.tok 3) (.lit (.i 1))))] (.back 13 [(.add (.tok 3) (.lit (.i 1))), (.call 0 1 [(.get (.fld (.tok 2) 0) (.tok 3)), (.tok 4), (.tok 2)]), (.set (.tok 5) 3 (.app (.fld (.tok 5) 3) (.row [(.call 0 0 [(.get (.fld (.tok 2) 0) (.tok 3)), (.tok 4), (.tok 2)])])))]))) (.leaf [(.tok 5), (.tok 4)])))))) (.leaf [(.set (.set (.lit (.a [(.i 0), (.i 0), (.s ⟨#[]⟩), (.r [])])) 0 (.lit (.i 0))) 1 (.fld (.call 1 0 [(.tok 2), (.tok 0)]) 1)), (.sub (.tok 1) (.lit (.i 1)))])))))))))
set_option maxRecDepth 100000 in
theorem code_cells_Get_1 (g0 g1 g2 g3 g4 g5 : List D → Option (List D)) : ∀ cd, Try.f65.body = some cd → treeOf Try.prog [(q0o, g0), (q0q, g1), (q1l, g2), (q0i, g3), (q1a, g4), (q0a, g5)] ann_cells_Get_1 q0o Try.f65 cd = q2b := by
  intro cd h
  injection h with h
  subst h
  kernel_rfl
theorem fok_cells_Get_1 {g0 g1 g2 g3 g4 g5 : List D → Option (List D)} {g : List D → Option (List D)} (h0 : FOk q0o g0) (h1 : FOk q0q g1) (h2 : FOk q1l g2) (h3 : FOk q0i g3) (h4 : FOk q1a g4) (h5 : FOk q0a g5) (h : ∀ ds outs, WfA q0o.ars ds → g ds = some outs → q2b.go (tblS [(q0o, g0), (q0q, g1), (q1l, g2), (q0i, g3), (q1a, g4), (q0a, g5)]) (fun o => o = outs) ds fun _ _ => False) : FOk q0o g :=
  q0c ann_cells_Get_1 Try.f65 _ (.cons h0 (.cons h1 (.cons h2 (.cons h3 (.cons h4 (.cons h5 .nil)))))) rfl rfl q2x (by decide) fun ds outs hw hg => by rw [code_cells_Get_1 g0 g1 g2 g3 g4 g5 _ rfl]; exact h ds outs hw hg

def q13 : Ct := ⟨24, [.val (.st 26), .val (.st 36)], [(.st 42, false), (.int .i64, false)], [], none⟩
theorem enter_cells_Get (args : Array Value) (w : World) : (callFunc q13.f args).run Try.prog w = .ok (.enter q13.f args) w := by kernel_rfl
def ann_cells_Get : Ann := ⟨[0, 1, 2, 3, 4, 5, 6, 7, 11, 18], []⟩
def q2u : Tree := (.need [(.ok 1 [(.tok 0), (.tok 1)])] (.br (.not (.call 1 0 [(.tok 0), (.tok 1)])) (.leaf [(.lit (.a [(.i 0), (.i 0), (.s ⟨#[]⟩), (.r [])])), (.lit (.i 1))]) (.need [(.ok 0 [(.tok 1), (.lit (.i 2000)), (.tok 0)])] (.br (.lt (.call 0 1 [(.tok 1), (.lit (.i 2000)), (.tok 0)]) (.lit (.i 0))) (.leaf [(.lit (.a [(.i 0), (.i 0), (.s ⟨#[]⟩), (.r [])])), (.lit (.i 2))]) (.leaf [(.call 0 0 [(.tok 1), (.lit (.i 2000)), (.tok 0)]), (.lit (.i 0))])))))
set_option maxRecDepth 100000 in
theorem code_cells_Get (g0 g1 : List D → Option (List D)) : ∀ cd, Try.f24.body = some cd → treeOf Try.prog [(q0o, g0), (q02, g1)] ann_cells_Get q13 Try.f24 cd = q2u := by
  intro cd h
  injection h with h
  subst h
  kernel_rfl
theorem fok_cells_Get {g0 g1 : List D → Option (List D)} {g : List D → Option (List D)} (h0 : FOk q0o g0) (h1 : FOk q02 g1) (h : ∀ ds outs, WfA q13.ars ds → g ds = some outs → q2u.go (tblS [(q0o, g0), (q02, g1)]) (fun o => o = outs) ds fun _ _ => False) : FOk q13 g :=
  q0c ann_cells_Get Try.f24 _ (.cons h0 (.cons h1 .nil)) rfl rfl enter_cells_Get (by decide) fun ds outs hw hg => by rw [code_cells_Get g0 g1 _ rfl]; exact h ds outs hw hg

def q0s : Ct := ⟨74, [.val (.st 42), .val (.int .i64)], [(.int .i64, false)], [], none⟩
theorem enter_ref03_Count (args : Array Value) (w : World) : (callFunc q0s.f args).run Try.prog w = .ok (.enter q0s.f args) w := by kernel_rfl
def ann_ref03_Count : Ann := ⟨[0, 1, 2, 4, 5, 6, 16], [(3, ⟨[(5, .int .i64, false), (6, .int .i64, false)], [], [7, 8, 9, 10, 11, 12, 13, 14, 15, 16, 19, 20, 21, 22, 23, 24, 25, 26, 27, 28, 29, 17, 18], []⟩)]⟩
def q34 : Tree := (.loop 3 2 [(.lit (.i 1)), (.lit (.i 0))] (.br (.and (.lt (.tok 3) (.len (.fld (.tok 0) 3))) (.lt (.tok 2) (.tok 1))) (.need [(.le (.lit (.i 0)) (.tok 3)), (.lt (.tok 3) (.len (.fld (.tok 0) 3))), (.rng .i64 (.sub (.tok 1) (.tok 2))), (.ok 0 [(.get (.fld (.tok 0) 3) (.tok 3)), (.sub (.tok 1) (.tok 2))]), (.rng .i64 (.add (.tok 2) (.call 0 0 [(.get (.fld (.tok 0) 3) (.tok 3)), (.sub (.tok 1) (.tok 2))])))] (.need [(.rng .i64 (.add (.tok 3) (.lit (.i 1))))] (.back 3 [(.add (.tok 2) (.call 0 0 [(.get (.fld (.tok 0) 3) (.tok 3)), (.sub (.tok 1) (.tok 2))])), (.add (.tok 3) (.lit (.i 1)))]))) (.leaf [(.tok 2)])))
set_option maxRecDepth 100000 in
theorem code_ref03_Count (g0 : List D → Option (List D)) : ∀ cd, Try.f74.body = some cd → treeOf Try.prog [(q0s, g0)] ann_ref03_Count q0s Try.f74 cd = q34 := by
  intro cd h
  injection h with h
  subst h
  kernel_rfl
theorem fok_ref03_Count {g0 : List D → Option (List D)} {g : List D → Option (List D)} (h0 : FOk q0s g0) (h : ∀ ds outs, WfA q0s.ars ds → g ds = some outs → q34.go (tblS [(q0s, g0)]) (fun o => o = outs) ds fun _ _ => False) : FOk q0s g :=
  q0c ann_ref03_Count Try.f74 _ (.cons h0 .nil) rfl rfl enter_ref03_Count (by decide) fun ds outs hw hg => by rw [code_ref03_Count g0 _ rfl]; exact h ds outs hw hg

def q1c : Ct := ⟨30, [.val (.st 42)], [(.int .i64, false)], [], none⟩
theorem enter_ref03_Size (args : Array Value) (w : World) : (callFunc q1c.f args).run Try.prog w = .ok (.enter q1c.f args) w := by kernel_rfl
def ann_ref03_Size : Ann := ⟨[0, 1, 2], []⟩
def q3j : Tree := (.need [(.ok 0 [(.tok 0), (.lit (.i 2001))])] (.leaf [(.call 0 0 [(.tok 0), (.lit (.i 2001))])]))
set_option maxRecDepth 100000 in
theorem code_ref03_Size (g0 : List D → Option (List D)) : ∀ cd, Try.f30.body = some cd → treeOf Try.prog [(q0s, g0)] ann_ref03_Size q1c Try.f30 cd = q3j := by
  intro cd h
  injection h with h
  subst h
  kernel_rfl
theorem fok_ref03_Size {g0 : List D → Option (List D)} {g : List D → Option (List D)} (h0 : FOk q0s g0) (h : ∀ ds outs, WfA q1c.ars ds → g ds = some outs → q3j.go (tblS [(q0s, g0)]) (fun o => o = outs) ds fun _ _ => False) : FOk q1c g :=
  q0c ann_ref03_Size Try.f30 _ (.cons h0 .nil) rfl rfl enter_ref03_Size (by decide) fun ds outs hw hg => by rw [code_ref03_Size g0 _ rfl]; exact h ds outs hw hg

def q1f : Ct := ⟨106, [.val (.st 42)], [(.bool, false)], [], none⟩
theorem enter_ref03_node (args : Array Value) (w : World) : (callFunc q1f.f args).run Try.prog w = .ok (.enter q1f.f args) w := by kernel_rfl
def ann_ref03_node : Ann := ⟨[0, 1, 2, 4, 5, 26, 37, 54], []⟩
def q3f : Tree := (.br (.eq (.fld (.tok 0) 0) (.lit (.i 0))) (.leaf [(.and (.and (.and (.le (.lit (.i 0)) (.fld (.tok 0) 1)) (.le (.fld (.tok 0) 1) (.lit (.i 1099511627776)))) (.eq (.fld (.tok 0) 2) (.lit (.s ⟨#[]⟩)))) (.eq (.len (.fld (.tok 0) 3)) (.lit (.i 0))))]) (.br (.eq (.fld (.tok 0) 0) (.lit (.i 1))) (.leaf [(.and (.eq (.fld (.tok 0) 2) (.lit (.s ⟨#[]⟩))) (.eq (.len (.fld (.tok 0) 3)) (.lit (.i 0))))]) (.br (.eq (.fld (.tok 0) 0) (.lit (.i 2))) (.leaf [(.and (.and (.eq (.fld (.tok 0) 1) (.lit (.i 0))) (.le (.slen (.fld (.tok 0) 2)) (.lit (.i 100)))) (.eq (.len (.fld (.tok 0) 3)) (.lit (.i 0))))]) (.br (.eq (.fld (.tok 0) 0) (.lit (.i 3))) (.leaf [(.and (.and (.and (.eq (.fld (.tok 0) 1) (.lit (.i 0))) (.le (.slen (.fld (.tok 0) 2)) (.lit (.i 100)))) (.le (.lit (.i 1)) (.len (.fld (.tok 0) 3)))) (.le (.len (.fld (.tok 0) 3)) (.lit (.i 8))))]) (.leaf [(.lit (.b .false))])))))
set_option maxRecDepth 100000 in
theorem code_ref03_node : ∀ cd, Try.f106.body = some cd → treeOf Try.prog [] ann_ref03_node q1f Try.f106 cd = q3f := by
  intro cd h
  injection h with h
  subst h
  kernel_rfl
theorem fok_ref03_node {g : List D → Option (List D)}  (h : ∀ ds outs, WfA q1f.ars ds → g ds = some outs → q3f.go (tblS []) (fun o => o = outs) ds fun _ _ => False) : FOk q1f g :=
  q0c ann_ref03_node Try.f106 _ .nil rfl rfl enter_ref03_node (by decide) fun ds outs hw hg => by rw [code_ref03_node  _ rfl]; exact h ds outs hw hg

def q0t : Ct := ⟨73, [.val (.st 42)], [(.bool, false)], [], none⟩
theorem enter_ref03_nodes (args : Array Value) (w : World) : (callFunc q0t.f args).run Try.prog w = .ok (.enter q0t.f args) w := by kernel_rfl
def ann_ref03_nodes : Ann := ⟨[0, 1, 2, 3, 6, 11, 20], [(4, ⟨[(2, .bool, false), (3, .int .i64, false)], [], [7, 8, 9, 10, 11, 14, 15, 16, 17, 18, 19, 20, 12, 13], []⟩)]⟩
def q3a : Tree := (.need [(.ok 0 [(.tok 0)])] (.br (.not (.call 0 0 [(.tok 0)])) (.leaf [(.lit (.b .false))]) (.loop 4 1 [(.lit (.b .false)), (.lit (.i 0))] (.br (.lt (.tok 2) (.len (.fld (.tok 0) 3))) (.need [(.le (.lit (.i 0)) (.tok 2)), (.lt (.tok 2) (.len (.fld (.tok 0) 3))), (.ok 1 [(.get (.fld (.tok 0) 3) (.tok 2))])] (.br (.not (.call 1 0 [(.get (.fld (.tok 0) 3) (.tok 2))])) (.leaf [(.lit (.b .false))]) (.need [(.rng .i64 (.add (.tok 2) (.lit (.i 1))))] (.back 4 [(.tok 1), (.add (.tok 2) (.lit (.i 1)))])))) (.leaf [(.lit (.b .true))])))))
set_option maxRecDepth 100000 in
theorem code_ref03_nodes (g0 g1 : List D → Option (List D)) : ∀ cd, Try.f73.body = some cd → treeOf Try.prog [(q1f, g0), (q0t, g1)] ann_ref03_nodes q0t Try.f73 cd = q3a := by
  intro cd h
  injection h with h
  subst h
  kernel_rfl
theorem fok_ref03_nodes {g0 g1 : List D → Option (List D)} {g : List D → Option (List D)} (h0 : FOk q1f g0) (h1 : FOk q0t g1) (h : ∀ ds outs, WfA q0t.ars ds → g ds = some outs → q3a.go (tblS [(q1f, g0), (q0t, g1)]) (fun o => o = outs) ds fun _ _ => False) : FOk q0t g :=
  q0c ann_ref03_nodes Try.f73 _ (.cons h0 (.cons h1 .nil)) rfl rfl enter_ref03_nodes (by decide) fun ds outs hw hg => by rw [code_ref03_nodes g0 g1 _ rfl]; exact h ds outs hw hg

def q15 : Ct := ⟨29, [.val (.st 42)], [(.bool, false)], [], none⟩
theorem enter_ref03_Valid (args : Array Value) (w : World) : (callFunc q15.f args).run Try.prog w = .ok (.enter q15.f args) w := by kernel_rfl
def ann_ref03_Valid : Ann := ⟨[0, 1, 2], []⟩
def q38 : Tree := (.need [(.ok 0 [(.tok 0)]), (.imp (.le (.call 0 0 [(.tok 0)]) (.lit (.i 2000))) (.ok 1 [(.tok 0)]))] (.leaf [(.and (.le (.call 0 0 [(.tok 0)]) (.lit (.i 2000))) (.call 1 0 [(.tok 0)]))]))
set_option maxRecDepth 100000 in
theorem code_ref03_Valid (g0 g1 : List D → Option (List D)) : ∀ cd, Try.f29.body = some cd → treeOf Try.prog [(q1c, g0), (q0t, g1)] ann_ref03_Valid q15 Try.f29 cd = q38 := by
  intro cd h
  injection h with h
  subst h
  kernel_rfl
theorem fok_ref03_Valid {g0 g1 : List D → Option (List D)} {g : List D → Option (List D)} (h0 : FOk q1c g0) (h1 : FOk q0t g1) (h : ∀ ds outs, WfA q15.ars ds → g ds = some outs → q38.go (tblS [(q1c, g0), (q0t, g1)]) (fun o => o = outs) ds fun _ _ => False) : FOk q15 g :=
  q0c ann_ref03_Valid Try.f29 _ (.cons h0 (.cons h1 .nil)) rfl rfl enter_ref03_Valid (by decide) fun ds outs hw hg => by rw [code_ref03_Valid g0 g1 _ rfl]; exact h ds outs hw hg

def q0g : Ct := ⟨72, [.val (.st 42), .val (.st 42)], [(.bool, false)], [], none⟩
theorem q3d (args : Array Value) (w : World) : (callFunc q0g.f args).run Try.prog w = .ok (.enter q0g.f args) w := by kernel_rfl
def q3u : Ann := ⟨[0, 1, 2, 3, 4, 5, 33, 38, 52], [(4, ⟨[(4, .bool, false), (5, .int .i64, false)], [], [34, 35, 36, 37, 38, 41, 42, 43, 44, 45, 46, 47, 48, 49, 50, 51, 52, 39, 40], []⟩)]⟩
def q2e : Tree := (.br (.or (.or (.or (.not (.eq (.fld (.tok 0) 0) (.fld (.tok 1) 0))) (.not (.eq (.fld (.tok 0) 1) (.fld (.tok 1) 1)))) (.not (.eq (.fld (.tok 0) 2) (.fld (.tok 1) 2)))) (.not (.eq (.len (.fld (.tok 0) 3)) (.len (.fld (.tok 1) 3))))) (.leaf [(.lit (.b .false))]) (.loop 4 2 [(.lit (.b .false)), (.lit (.i 0))] (.br (.lt (.tok 3) (.len (.fld (.tok 0) 3))) (.need [(.ok 0 [(.get (.fld (.tok 0) 3) (.tok 3)), (.get (.fld (.tok 1) 3) (.tok 3))]), (.le (.lit (.i 0)) (.tok 3)), (.lt (.tok 3) (.len (.fld (.tok 1) 3))), (.le (.lit (.i 0)) (.tok 3)), (.lt (.tok 3) (.len (.fld (.tok 0) 3)))] (.br (.not (.call 0 0 [(.get (.fld (.tok 0) 3) (.tok 3)), (.get (.fld (.tok 1) 3) (.tok 3))])) (.leaf [(.lit (.b .false))]) (.need [(.rng .i64 (.add (.tok 3) (.lit (.i 1))))] (.back 4 [(.tok 2), (.add (.tok 3) (.lit (.i 1)))])))) (.leaf [(.lit (.b .true))]))))
set_option maxRecDepth 100000 in
theorem code_ref03_identical (g0 : List D → Option (List D)) : ∀ cd, Try.f72.body = some cd → treeOf Try.prog [(q0g, g0)] q3u q0g Try.f72 cd = q2e := by
  intro cd h
  injection h with h
  subst h
  kernel_rfl
theorem fok_ref03_identical {g0 : List D → Option (List D)} {g : List D → Option (List D)} (h0 : FOk q0g g0) (h : ∀ ds outs, WfA q0g.ars ds → g ds = some outs → q2e.go (tblS [(q0g, g0)]) (fun o => o = outs) ds fun _ _ => False) : FOk q0g g :=
  q0c q3u Try.f72 _ (.cons h0 .nil) rfl rfl q3d (by decide) fun ds outs hw hg => by rw [code_ref03_identical g0 _ rfl]; exact h ds outs hw hg

def q1d : Ct := ⟨28, [.val (.st 42), .val (.st 42)], [(.bool, false)], [], none⟩
theorem enter_ref03_Same (args : Array Value) (w : World) : (callFunc q1d.f args).run Try.prog w = .ok (.enter q1d.f args) w := by kernel_rfl
def ann_ref03_Same : Ann := ⟨[0, 1, 2, 3, 4], []⟩
def q3o : Tree := (.need [(.ok 0 [(.tok 0)]), (.imp (.call 0 0 [(.tok 0)]) (.ok 0 [(.tok 1)])), (.imp (.and (.call 0 0 [(.tok 0)]) (.call 0 0 [(.tok 1)])) (.ok 1 [(.tok 0), (.tok 1)]))] (.leaf [(.and (.and (.call 0 0 [(.tok 0)]) (.call 0 0 [(.tok 1)])) (.call 1 0 [(.tok 0), (.tok 1)]))]))
set_option maxRecDepth 100000 in
theorem code_ref03_Same (g0 g1 : List D → Option (List D)) : ∀ cd, Try.f28.body = some cd → treeOf Try.prog [(q15, g0), (q0g, g1)] ann_ref03_Same q1d Try.f28 cd = q3o := by
  intro cd h
  injection h with h
  subst h
  kernel_rfl
theorem fok_ref03_Same {g0 g1 : List D → Option (List D)} {g : List D → Option (List D)} (h0 : FOk q15 g0) (h1 : FOk q0g g1) (h : ∀ ds outs, WfA q1d.ars ds → g ds = some outs → q3o.go (tblS [(q15, g0), (q0g, g1)]) (fun o => o = outs) ds fun _ _ => False) : FOk q1d g :=
  q0c ann_ref03_Same Try.f28 _ (.cons h0 (.cons h1 .nil)) rfl rfl enter_ref03_Same (by decide) fun ds outs hw hg => by rw [code_ref03_Same g0 g1 _ rfl]; exact h ds outs hw hg

def q1r : Ct := ⟨14, [], [(.bool, false)], [], none⟩
theorem enter_law30_awake (args : Array Value) (w : World) : (callFunc q1r.f args).run Try.prog w = .ok (.enter q1r.f args) w := by kernel_rfl
def ann_law30_awake : Ann := ⟨[0, 1, 2, 3, 4, 5, 6, 7, 8, 9, 10, 11, 57, 59, 75], [(6, ⟨[(0, .bool, false), (6, .int .i64, false)], [], [58, 59, 62, 63, 64, 65, 66, 67, 68, 69, 70, 71, 72, 73, 74, 75, 60, 61], []⟩)]⟩
def tree_law30_awake : Tree := (.need [(.ok 0 [(.lit (.i 10))])] (.need [(.ok 1 [(.lit (.i 0))]), (.ok 2 [(.lit (.s ⟨#[103]⟩)), (.row [(.call 1 0 [(.lit (.i 0))])])]), (.ok 1 [(.lit (.i 0))]), (.ok 2 [(.lit (.s ⟨#[102]⟩)), (.row [(.call 2 0 [(.lit (.s ⟨#[103]⟩)), (.row [(.call 1 0 [(.lit (.i 0))])])]), (.call 1 0 [(.lit (.i 0))])])]), (.ok 3 [(.call 0 0 [(.lit (.i 10))]), (.call 2 0 [(.lit (.s ⟨#[102]⟩)), (.row [(.call 2 0 [(.lit (.s ⟨#[103]⟩)), (.row [(.call 1 0 [(.lit (.i 0))])])]), (.call 1 0 [(.lit (.i 0))])])]), (.lit (.r []))])] (.need [(.imp (.not (.or (.or (.not (.eq (.call 0 1 [(.lit (.i 10))]) (.lit (.i 0)))) (.not (.eq (.call 3 2 [(.call 0 0 [(.lit (.i 10))]), (.call 2 0 [(.lit (.s ⟨#[102]⟩)), (.row [(.call 2 0 [(.lit (.s ⟨#[103]⟩)), (.row [(.call 1 0 [(.lit (.i 0))])])]), (.call 1 0 [(.lit (.i 0))])])]), (.lit (.r []))]) (.lit (.i 0))))) (.not (.eq (.call 3 0 [(.call 0 0 [(.lit (.i 10))]), (.call 2 0 [(.lit (.s ⟨#[102]⟩)), (.row [(.call 2 0 [(.lit (.s ⟨#[103]⟩)), (.row [(.call 1 0 [(.lit (.i 0))])])]), (.call 1 0 [(.lit (.i 0))])])]), (.lit (.r []))]) (.call 4 0 [(.lit (.i 0))]))))) (.ok 6 [(.call 3 1 [(.call 0 0 [(.lit (.i 10))]), (.call 2 0 [(.lit (.s ⟨#[102]⟩)), (.row [(.call 2 0 [(.lit (.s ⟨#[103]⟩)), (.row [(.call 1 0 [(.lit (.i 0))])])]), (.call 1 0 [(.lit (.i 0))])])]), (.lit (.r []))]), (.row [(.mk [(.lit (.i 0)), (.call 5 0 [(.lit (.i 4))])])])])), (.imp (.not (.or (.or (.not (.eq (.call 0 1 [(.lit (.i 10))]) (.lit (.i 0)))) (.not (.eq (.call 3 2 [(.call 0 0 [(.lit (.i 10))]), (.call 2 0 [(.lit (.s ⟨#[102]⟩)), (.row [(.call 2 0 [(.lit (.s ⟨#[103]⟩)), (.row [(.call 1 0 [(.lit (.i 0))])])]), (.call 1 0 [(.lit (.i 0))])])]), (.lit (.r []))]) (.lit (.i 0))))) (.not (.eq (.call 3 0 [(.call 0 0 [(.lit (.i 10))]), (.call 2 0 [(.lit (.s ⟨#[102]⟩)), (.row [(.call 2 0 [(.lit (.s ⟨#[103]⟩)), (.row [(.call 1 0 [(.lit (.i 0))])])]), (.call 1 0 [(.lit (.i 0))])])]), (.lit (.r []))]) (.call 4 0 [(.lit (.i 0))]))))) (.ok 5 [(.lit (.i 4))])), (.imp (.not (.or (.not (.eq (.call 0 1 [(.lit (.i 10))]) (.lit (.i 0)))) (.not (.eq (.call 3 2 [(.call 0 0 [(.lit (.i 10))]), (.call 2 0 [(.lit (.s ⟨#[102]⟩)), (.row [(.call 2 0 [(.lit (.s ⟨#[103]⟩)), (.row [(.call 1 0 [(.lit (.i 0))])])]), (.call 1 0 [(.lit (.i 0))])])]), (.lit (.r []))]) (.lit (.i 0)))))) (.ok 4 [(.lit (.i 0))]))] (.br (.or (.or (.or (.or (.or (.not (.eq (.call 0 1 [(.lit (.i 10))]) (.lit (.i 0)))) (.not (.eq (.call 3 2 [(.call 0 0 [(.lit (.i 10))]), (.call 2 0 [(.lit (.s ⟨#[102]⟩)), (.row [(.call 2 0 [(.lit (.s ⟨#[103]⟩)), (.row [(.call 1 0 [(.lit (.i 0))])])]), (.call 1 0 [(.lit (.i 0))])])]), (.lit (.r []))]) (.lit (.i 0))))) (.not (.eq (.call 3 0 [(.call 0 0 [(.lit (.i 10))]), (.call 2 0 [(.lit (.s ⟨#[102]⟩)), (.row [(.call 2 0 [(.lit (.s ⟨#[103]⟩)), (.row [(.call 1 0 [(.lit (.i 0))])])]), (.call 1 0 [(.lit (.i 0))])])]), (.lit (.r []))]) (.call 4 0 [(.lit (.i 0))])))) (.not (.call 6 0 [(.call 3 1 [(.call 0 0 [(.lit (.i 10))]), (.call 2 0 [(.lit (.s ⟨#[102]⟩)), (.row [(.call 2 0 [(.lit (.s ⟨#[103]⟩)), (.row [(.call 1 0 [(.lit (.i 0))])])]), (.call 1 0 [(.lit (.i 0))])])]), (.lit (.r []))]), (.row [(.mk [(.lit (.i 0)), (.call 5 0 [(.lit (.i 4))])])])]))) (.not (.eq (.len (.fld (.call 3 3 [(.call 0 0 [(.lit (.i 10))]), (.call 2 0 [(.lit (.s ⟨#[102]⟩)), (.row [(.call 2 0 [(.lit (.s ⟨#[103]⟩)), (.row [(.call 1 0 [(.lit (.i 0))])])]), (.call 1 0 [(.lit (.i 0))])])]), (.lit (.r []))]) 0)) (.lit (.i 5))))) (.not (.eq (.len (.fld (.call 3 3 [(.call 0 0 [(.lit (.i 10))]), (.call 2 0 [(.lit (.s ⟨#[102]⟩)), (.row [(.call 2 0 [(.lit (.s ⟨#[103]⟩)), (.row [(.call 1 0 [(.lit (.i 0))])])]), (.call 1 0 [(.lit (.i 0))])])]), (.lit (.r []))]) 1)) (.lit (.i 2))))) (.leaf [(.lit (.b .false))]) (.loop 6 0 [(.lit (.b .false)), (.lit (.i 0))] (.br (.lt (.tok 1) (.lit (.i 5))) (.need [(.le (.lit (.i 0)) (.tok 1)), (.lt (.tok 1) (.lit (.i 5))), (.ok 5 [(.lit (.i 4))]), (.ok 5 [(.lit (.i 4))]), (.ok 5 [(.lit (.i 4))]), (.ok 4 [(.lit (.i 3))]), (.ok 4 [(.lit (.i 3))]), (.le (.lit (.i 0)) (.tok 1)), (.lt (.tok 1) (.len (.fld (.call 3 3 [(.call 0 0 [(.lit (.i 10))]), (.call 2 0 [(.lit (.s ⟨#[102]⟩)), (.row [(.call 2 0 [(.lit (.s ⟨#[103]⟩)), (.row [(.call 1 0 [(.lit (.i 0))])])]), (.call 1 0 [(.lit (.i 0))])])]), (.lit (.r []))]) 0)))] (.br (.not (.eq (.get (.fld (.call 3 3 [(.call 0 0 [(.lit (.i 10))]), (.call 2 0 [(.lit (.s ⟨#[102]⟩)), (.row [(.call 2 0 [(.lit (.s ⟨#[103]⟩)), (.row [(.call 1 0 [(.lit (.i 0))])])]), (.call 1 0 [(.lit (.i 0))])])]), (.lit (.r []))]) 0) (.tok 1)) (.get (.row [(.mk [(.lit (.i 4)), (.lit (.i 0))]), (.call 4 0 [(.lit (.i 3))]), (.call 5 0 [(.lit (.i 4))]), (.mk [(.lit (.i 4)), (.lit (.i 1))]), (.call 5 0 [(.lit (.i 4))])]) (.tok 1)))) (.leaf [(.lit (.b .false))]) (.need [(.rng .i64 (.add (.tok 1) (.lit (.i 1))))] (.back 6 [(.tok 0), (.add (.tok 1) (.lit (.i 1)))])))) (.need [(.ok 1 [(.lit (.i 1))]), (.ok 3 [(.call 3 3 [(.call 0 0 [(.lit (.i 10))]), (.call 2 0 [(.lit (.s ⟨#[102]⟩)), (.row [(.call 2 0 [(.lit (.s ⟨#[103]⟩)), (.row [(.call 1 0 [(.lit (.i 0))])])]), (.call 1 0 [(.lit (.i 0))])])]), (.lit (.r []))]), (.call 1 0 [(.lit (.i 1))]), (.call 3 1 [(.call 0 0 [(.lit (.i 10))]), (.call 2 0 [(.lit (.s ⟨#[102]⟩)), (.row [(.call 2 0 [(.lit (.s ⟨#[103]⟩)), (.row [(.call 1 0 [(.lit (.i 0))])])]), (.call 1 0 [(.lit (.i 0))])])]), (.lit (.r []))])])] (.need [(.ok 7 [(.call 3 3 [(.call 3 3 [(.call 0 0 [(.lit (.i 10))]), (.call 2 0 [(.lit (.s ⟨#[102]⟩)), (.row [(.call 2 0 [(.lit (.s ⟨#[103]⟩)), (.row [(.call 1 0 [(.lit (.i 0))])])]), (.call 1 0 [(.lit (.i 0))])])]), (.lit (.r []))]), (.call 1 0 [(.lit (.i 1))]), (.call 3 1 [(.call 0 0 [(.lit (.i 10))]), (.call 2 0 [(.lit (.s ⟨#[102]⟩)), (.row [(.call 2 0 [(.lit (.s ⟨#[103]⟩)), (.row [(.call 1 0 [(.lit (.i 0))])])]), (.call 1 0 [(.lit (.i 0))])])]), (.lit (.r []))])]), (.call 4 0 [(.lit (.i 0))])]), (.ok 4 [(.lit (.i 0))]), (.ok 4 [(.lit (.i 0))])] (.need [(.imp (.and (.and (.and (.and (.and (.and (.eq (.call 3 2 [(.call 3 3 [(.call 0 0 [(.lit (.i 10))]), (.call 2 0 [(.lit (.s ⟨#[102]⟩)), (.row [(.call 2 0 [(.lit (.s ⟨#[103]⟩)), (.row [(.call 1 0 [(.lit (.i 0))])])]), (.call 1 0 [(.lit (.i 0))])])]), (.lit (.r []))]), (.call 1 0 [(.lit (.i 1))]), (.call 3 1 [(.call 0 0 [(.lit (.i 10))]), (.call 2 0 [(.lit (.s ⟨#[102]⟩)), (.row [(.call 2 0 [(.lit (.s ⟨#[103]⟩)), (.row [(.call 1 0 [(.lit (.i 0))])])]), (.call 1 0 [(.lit (.i 0))])])]), (.lit (.r []))])]) (.lit (.i 0))) (.eq (.call 3 0 [(.call 3 3 [(.call 0 0 [(.lit (.i 10))]), (.call 2 0 [(.lit (.s ⟨#[102]⟩)), (.row [(.call 2 0 [(.lit (.s ⟨#[103]⟩)), (.row [(.call 1 0 [(.lit (.i 0))])])]), (.call 1 0 [(.lit (.i 0))])])]), (.lit (.r []))]), (.call 1 0 [(.lit (.i 1))]), (.call 3 1 [(.call 0 0 [(.lit (.i 10))]), (.call 2 0 [(.lit (.s ⟨#[102]⟩)), (.row [(.call 2 0 [(.lit (.s ⟨#[103]⟩)), (.row [(.call 1 0 [(.lit (.i 0))])])]), (.call 1 0 [(.lit (.i 0))])])]), (.lit (.r []))])]) (.call 5 0 [(.lit (.i 5))]))) (.call 6 0 [(.call 3 1 [(.call 3 3 [(.call 0 0 [(.lit (.i 10))]), (.call 2 0 [(.lit (.s ⟨#[102]⟩)), (.row [(.call 2 0 [(.lit (.s ⟨#[103]⟩)), (.row [(.call 1 0 [(.lit (.i 0))])])]), (.call 1 0 [(.lit (.i 0))])])]), (.lit (.r []))]), (.call 1 0 [(.lit (.i 1))]), (.call 3 1 [(.call 0 0 [(.lit (.i 10))]), (.call 2 0 [(.lit (.s ⟨#[102]⟩)), (.row [(.call 2 0 [(.lit (.s ⟨#[103]⟩)), (.row [(.call 1 0 [(.lit (.i 0))])])]), (.call 1 0 [(.lit (.i 0))])])]), (.lit (.r []))])]), (.row [(.mk [(.lit (.i 0)), (.call 5 0 [(.lit (.i 4))])]), (.mk [(.lit (.i 1)), (.call 5 0 [(.lit (.i 5))])])])])) (.eq (.call 7 1 [(.call 3 3 [(.call 3 3 [(.call 0 0 [(.lit (.i 10))]), (.call 2 0 [(.lit (.s ⟨#[102]⟩)), (.row [(.call 2 0 [(.lit (.s ⟨#[103]⟩)), (.row [(.call 1 0 [(.lit (.i 0))])])]), (.call 1 0 [(.lit (.i 0))])])]), (.lit (.r []))]), (.call 1 0 [(.lit (.i 1))]), (.call 3 1 [(.call 0 0 [(.lit (.i 10))]), (.call 2 0 [(.lit (.s ⟨#[102]⟩)), (.row [(.call 2 0 [(.lit (.s ⟨#[103]⟩)), (.row [(.call 1 0 [(.lit (.i 0))])])]), (.call 1 0 [(.lit (.i 0))])])]), (.lit (.r []))])]), (.call 4 0 [(.lit (.i 0))])]) (.lit (.i 0)))) (.call 8 0 [(.call 7 0 [(.call 3 3 [(.call 3 3 [(.call 0 0 [(.lit (.i 10))]), (.call 2 0 [(.lit (.s ⟨#[102]⟩)), (.row [(.call 2 0 [(.lit (.s ⟨#[103]⟩)), (.row [(.call 1 0 [(.lit (.i 0))])])]), (.call 1 0 [(.lit (.i 0))])])]), (.lit (.r []))]), (.call 1 0 [(.lit (.i 1))]), (.call 3 1 [(.call 0 0 [(.lit (.i 10))]), (.call 2 0 [(.lit (.s ⟨#[102]⟩)), (.row [(.call 2 0 [(.lit (.s ⟨#[103]⟩)), (.row [(.call 1 0 [(.lit (.i 0))])])]), (.call 1 0 [(.lit (.i 0))])])]), (.lit (.r []))])]), (.call 4 0 [(.lit (.i 0))])]), (.call 2 0 [(.lit (.s ⟨#[102]⟩)), (.row [(.call 2 0 [(.lit (.s ⟨#[103]⟩)), (.row [(.call 1 0 [(.lit (.i 4))])])]), (.call 1 0 [(.lit (.i 4))])])])])) (.eq (.call 9 0 [(.call 3 3 [(.call 3 3 [(.call 0 0 [(.lit (.i 10))]), (.call 2 0 [(.lit (.s ⟨#[102]⟩)), (.row [(.call 2 0 [(.lit (.s ⟨#[103]⟩)), (.row [(.call 1 0 [(.lit (.i 0))])])]), (.call 1 0 [(.lit (.i 0))])])]), (.lit (.r []))]), (.call 1 0 [(.lit (.i 1))]), (.call 3 1 [(.call 0 0 [(.lit (.i 10))]), (.call 2 0 [(.lit (.s ⟨#[102]⟩)), (.row [(.call 2 0 [(.lit (.s ⟨#[103]⟩)), (.row [(.call 1 0 [(.lit (.i 0))])])]), (.call 1 0 [(.lit (.i 0))])])]), (.lit (.r []))])]), (.call 5 0 [(.lit (.i 2))])]) (.call 5 0 [(.lit (.i 4))]))) (.eq (.call 9 0 [(.call 3 3 [(.call 3 3 [(.call 0 0 [(.lit (.i 10))]), (.call 2 0 [(.lit (.s ⟨#[102]⟩)), (.row [(.call 2 0 [(.lit (.s ⟨#[103]⟩)), (.row [(.call 1 0 [(.lit (.i 0))])])]), (.call 1 0 [(.lit (.i 0))])])]), (.lit (.r []))]), (.call 1 0 [(.lit (.i 1))]), (.call 3 1 [(.call 0 0 [(.lit (.i 10))]), (.call 2 0 [(.lit (.s ⟨#[102]⟩)), (.row [(.call 2 0 [(.lit (.s ⟨#[103]⟩)), (.row [(.call 1 0 [(.lit (.i 0))])])]), (.call 1 0 [(.lit (.i 0))])])]), (.lit (.r []))])]), (.call 5 0 [(.lit (.i 1))])]) (.call 4 0 [(.lit (.i 3))]))) (.lit (.b .true))), (.imp (.and (.and (.and (.and (.and (.and (.eq (.call 3 2 [(.call 3 3 [(.call 0 0 [(.lit (.i 10))]), (.call 2 0 [(.lit (.s ⟨#[102]⟩)), (.row [(.call 2 0 [(.lit (.s ⟨#[103]⟩)), (.row [(.call 1 0 [(.lit (.i 0))])])]), (.call 1 0 [(.lit (.i 0))])])]), (.lit (.r []))]), (.call 1 0 [(.lit (.i 1))]), (.call 3 1 [(.call 0 0 [(.lit (.i 10))]), (.call 2 0 [(.lit (.s ⟨#[102]⟩)), (.row [(.call 2 0 [(.lit (.s ⟨#[103]⟩)), (.row [(.call 1 0 [(.lit (.i 0))])])]), (.call 1 0 [(.lit (.i 0))])])]), (.lit (.r []))])]) (.lit (.i 0))) (.eq (.call 3 0 [(.call 3 3 [(.call 0 0 [(.lit (.i 10))]), (.call 2 0 [(.lit (.s ⟨#[102]⟩)), (.row [(.call 2 0 [(.lit (.s ⟨#[103]⟩)), (.row [(.call 1 0 [(.lit (.i 0))])])]), (.call 1 0 [(.lit (.i 0))])])]), (.lit (.r []))]), (.call 1 0 [(.lit (.i 1))]), (.call 3 1 [(.call 0 0 [(.lit (.i 10))]), (.call 2 0 [(.lit (.s ⟨#[102]⟩)), (.row [(.call 2 0 [(.lit (.s ⟨#[103]⟩)), (.row [(.call 1 0 [(.lit (.i 0))])])]), (.call 1 0 [(.lit (.i 0))])])]), (.lit (.r []))])]) (.call 5 0 [(.lit (.i 5))]))) (.call 6 0 [(.call 3 1 [(.call 3 3 [(.call 0 0 [(.lit (.i 10))]), (.call 2 0 [(.lit (.s ⟨#[102]⟩)), (.row [(.call 2 0 [(.lit (.s ⟨#[103]⟩)), (.row [(.call 1 0 [(.lit (.i 0))])])]), (.call 1 0 [(.lit (.i 0))])])]), (.lit (.r []))]), (.call 1 0 [(.lit (.i 1))]), (.call 3 1 [(.call 0 0 [(.lit (.i 10))]), (.call 2 0 [(.lit (.s ⟨#[102]⟩)), (.row [(.call 2 0 [(.lit (.s ⟨#[103]⟩)), (.row [(.call 1 0 [(.lit (.i 0))])])]), (.call 1 0 [(.lit (.i 0))])])]), (.lit (.r []))])]), (.row [(.mk [(.lit (.i 0)), (.call 5 0 [(.lit (.i 4))])]), (.mk [(.lit (.i 1)), (.call 5 0 [(.lit (.i 5))])])])])) (.eq (.call 7 1 [(.call 3 3 [(.call 3 3 [(.call 0 0 [(.lit (.i 10))]), (.call 2 0 [(.lit (.s ⟨#[102]⟩)), (.row [(.call 2 0 [(.lit (.s ⟨#[103]⟩)), (.row [(.call 1 0 [(.lit (.i 0))])])]), (.call 1 0 [(.lit (.i 0))])])]), (.lit (.r []))]), (.call 1 0 [(.lit (.i 1))]), (.call 3 1 [(.call 0 0 [(.lit (.i 10))]), (.call 2 0 [(.lit (.s ⟨#[102]⟩)), (.row [(.call 2 0 [(.lit (.s ⟨#[103]⟩)), (.row [(.call 1 0 [(.lit (.i 0))])])]), (.call 1 0 [(.lit (.i 0))])])]), (.lit (.r []))])]), (.call 4 0 [(.lit (.i 0))])]) (.lit (.i 0)))) (.call 8 0 [(.call 7 0 [(.call 3 3 [(.call 3 3 [(.call 0 0 [(.lit (.i 10))]), (.call 2 0 [(.lit (.s ⟨#[102]⟩)), (.row [(.call 2 0 [(.lit (.s ⟨#[103]⟩)), (.row [(.call 1 0 [(.lit (.i 0))])])]), (.call 1 0 [(.lit (.i 0))])])]), (.lit (.r []))]), (.call 1 0 [(.lit (.i 1))]), (.call 3 1 [(.call 0 0 [(.lit (.i 10))]), (.call 2 0 [(.lit (.s ⟨#[102]⟩)), (.row [(.call 2 0 [(.lit (.s ⟨#[103]⟩)), (.row [(.call 1 0 [(.lit (.i 0))])])]), (.call 1 0 [(.lit (.i 0))])])]), (.lit (.r []))])]), (.call 4 0 [(.lit (.i 0))])]), (.call 2 0 [(.lit (.s ⟨#[102]⟩)), (.row [(.call 2 0 [(.lit (.s ⟨#[103]⟩)), (.row [(.call 1 0 [(.lit (.i 4))])])]), (.call 1 0 [(.lit (.i 4))])])])])) (.eq (.call 9 0 [(.call 3 3 [(.call 3 3 [(.call 0 0 [(.lit (.i 10))]), (.call 2 0 [(.lit (.s ⟨#[102]⟩)), (.row [(.call 2 0 [(.lit (.s ⟨#[103]⟩)), (.row [(.call 1 0 [(.lit (.i 0))])])]), (.call 1 0 [(.lit (.i 0))])])]), (.lit (.r []))]), (.call 1 0 [(.lit (.i 1))]), (.call 3 1 [(.call 0 0 [(.lit (.i 10))]), (.call 2 0 [(.lit (.s ⟨#[102]⟩)), (.row [(.call 2 0 [(.lit (.s ⟨#[103]⟩)), (.row [(.call 1 0 [(.lit (.i 0))])])]), (.call 1 0 [(.lit (.i 0))])])]), (.lit (.r []))])]), (.call 5 0 [(.lit (.i 2))])]) (.call 5 0 [(.lit (.i 4))]))) (.eq (.call 9 0 [(.call 3 3 [(.call 3 3 [(.call 0 0 [(.lit (.i 10))]), (.call 2 0 [(.lit (.s ⟨#[102]⟩)), (.row [(.call 2 0 [(.lit (.s ⟨#[103]⟩)), (.row [(.call 1 0 [(.lit (.i 0))])])]), (.call 1 0 [(.lit (.i 0))])])]), (.lit (.r []))]), (.call 1 0 [(.lit (.i 1))]), (.call 3 1 [(.call 0 0 [(.lit (.i 10))]), (.call 2 0 [(.lit (.s ⟨#[102]⟩)), (.row [(.call 2 0 [(.lit (.s ⟨#[103]⟩)), (.row [(.call 1 0 [(.lit (.i 0))])])]), (.call 1 0 [(.lit (.i 0))])])]), (.lit (.r []))])]), (.call 5 0 [(.lit (.i 1))])]) (.call 4 0 [(.lit (.i 3))]))) (.lt (.lit (.i 1)) (.len (.fld (.call 3 3 [(.call 3 3 [(.call 0 0 [(.lit (.i 10))]), (.call 2 0 [(.lit (.s ⟨#[102]⟩)), (.row [(.call 2 0 [(.lit (.s ⟨#[103]⟩)), (.row [(.call 1 0 [(.lit (.i 0))])])]), (.call 1 0 [(.lit (.i 0))])])]), (.lit (.r []))]), (.call 1 0 [(.lit (.i 1))]), (.call 3 1 [(.call 0 0 [(.lit (.i 10))]), (.call 2 0 [(.lit (.s ⟨#[102]⟩)), (.row [(.call 2 0 [(.lit (.s ⟨#[103]⟩)), (.row [(.call 1 0 [(.lit (.i 0))])])]), (.call 1 0 [(.lit (.i 0))])])]), (.lit (.r []))])]) 1)))), (.imp (.and (.and (.and (.and (.and (.and (.eq (.call 3 2 [(.call 3 3 [(.call 0 0 [(.lit (.i 10))]), (.call 2 0 [(.lit (.s ⟨#[102]⟩)), (.row [(.call 2 0 [(.lit (.s ⟨#[103]⟩)), (.row [(.call 1 0 [(.lit (.i 0))])])]), (.call 1 0 [(.lit (.i 0))])])]), (.lit (.r []))]), (.call 1 0 [(.lit (.i 1))]), (.call 3 1 [(.call 0 0 [(.lit (.i 10))]), (.call 2 0 [(.lit (.s ⟨#[102]⟩)), (.row [(.call 2 0 [(.lit (.s ⟨#[103]⟩)), (.row [(.call 1 0 [(.lit (.i 0))])])]), (.call 1 0 [(.lit (.i 0))])])]), (.lit (.r []))])]) (.lit (.i 0))) (.eq (.call 3 0 [(.call 3 3 [(.call 0 0 [(.lit (.i 10))]), (.call 2 0 [(.lit (.s ⟨#[102]⟩)), (.row [(.call 2 0 [(.lit (.s ⟨#[103]⟩)), (.row [(.call 1 0 [(.lit (.i 0))])])]), (.call 1 0 [(.lit (.i 0))])])]), (.lit (.r []))]), (.call 1 0 [(.lit (.i 1))]), (.call 3 1 [(.call 0 0 [(.lit (.i 10))]), (.call 2 0 [(.lit (.s ⟨#[102]⟩)), (.row [(.call 2 0 [(.lit (.s ⟨#[103]⟩)), (.row [(.call 1 0 [(.lit (.i 0))])])]), (.call 1 0 [(.lit (.i 0))])])]), (.lit (.r []))])]) (.call 5 0 [(.lit (.i 5))]))) (.call 6 0 [(.call 3 1 [(.call 3 3 [(.call 0 0 [(.lit (.i 10))]), (.call 2 0 [(.lit (.s ⟨#[102]⟩)), (.row [(.call 2 0 [(.lit (.s ⟨#[103]⟩)), (.row [(.call 1 0 [(.lit (.i 0))])])]), (.call 1 0 [(.lit (.i 0))])])]), (.lit (.r []))]), (.call 1 0 [(.lit (.i 1))]), (.call 3 1 [(.call 0 0 [(.lit (.i 10))]), (.call 2 0 [(.lit (.s ⟨#[102]⟩)), (.row [(.call 2 0 [(.lit (.s ⟨#[103]⟩)), (.row [(.call 1 0 [(.lit (.i 0))])])]), (.call 1 0 [(.lit (.i 0))])])]), (.lit (.r []))])]), (.row [(.mk [(.lit (.i 0)), (.call 5 0 [(.lit (.i 4))])]), (.mk [(.lit (.i 1)), (.call 5 0 [(.lit (.i 5))])])])])) (.eq (.call 7 1 [(.call 3 3 [(.call 3 3 [(.call 0 0 [(.lit (.i 10))]), (.call 2 0 [(.lit (.s ⟨#[102]⟩)), (.row [(.call 2 0 [(.lit (.s ⟨#[103]⟩)), (.row [(.call 1 0 [(.lit (.i 0))])])]), (.call 1 0 [(.lit (.i 0))])])]), (.lit (.r []))]), (.call 1 0 [(.lit (.i 1))]), (.call 3 1 [(.call 0 0 [(.lit (.i 10))]), (.call 2 0 [(.lit (.s ⟨#[102]⟩)), (.row [(.call 2 0 [(.lit (.s ⟨#[103]⟩)), (.row [(.call 1 0 [(.lit (.i 0))])])]), (.call 1 0 [(.lit (.i 0))])])]), (.lit (.r []))])]), (.call 4 0 [(.lit (.i 0))])]) (.lit (.i 0)))) (.call 8 0 [(.call 7 0 [(.call 3 3 [(.call 3 3 [(.call 0 0 [(.lit (.i 10))]), (.call 2 0 [(.lit (.s ⟨#[102]⟩)), (.row [(.call 2 0 [(.lit (.s ⟨#[103]⟩)), (.row [(.call 1 0 [(.lit (.i 0))])])]), (.call 1 0 [(.lit (.i 0))])])]), (.lit (.r []))]), (.call 1 0 [(.lit (.i 1))]), (.call 3 1 [(.call 0 0 [(.lit (.i 10))]), (.call 2 0 [(.lit (.s ⟨#[102]⟩)), (.row [(.call 2 0 [(.lit (.s ⟨#[103]⟩)), (.row [(.call 1 0 [(.lit (.i 0))])])]), (.call 1 0 [(.lit (.i 0))])])]), (.lit (.r []))])]), (.call 4 0 [(.lit (.i 0))])]), (.call 2 0 [(.lit (.s ⟨#[102]⟩)), (.row [(.call 2 0 [(.lit (.s ⟨#[103]⟩)), (.row [(.call 1 0 [(.lit (.i 4))])])]), (.call 1 0 [(.lit (.i 4))])])])])) (.eq (.call 9 0 [(.call 3 3 [(.call 3 3 [(.call 0 0 [(.lit (.i 10))]), (.call 2 0 [(.lit (.s ⟨#[102]⟩)), (.row [(.call 2 0 [(.lit (.s ⟨#[103]⟩)), (.row [(.call 1 0 [(.lit (.i 0))])])]), (.call 1 0 [(.lit (.i 0))])])]), (.lit (.r []))]), (.call 1 0 [(.lit (.i 1))]), (.call 3 1 [(.call 0 0 [(.lit (.i 10))]), (.call 2 0 [(.lit (.s ⟨#[102]⟩)), (.row [(.call 2 0 [(.lit (.s ⟨#[103]⟩)), (.row [(.call 1 0 [(.lit (.i 0))])])]), (.call 1 0 [(.lit (.i 0))])])]), (.lit (.r []))])]), (.call 5 0 [(.lit (.i 2))])]) (.call 5 0 [(.lit (.i 4))]))) (.eq (.call 9 0 [(.call 3 3 [(.call 3 3 [(.call 0 0 [(.lit (.i 10))]), (.call 2 0 [(.lit (.s ⟨#[102]⟩)), (.row [(.call 2 0 [(.lit (.s ⟨#[103]⟩)), (.row [(.call 1 0 [(.lit (.i 0))])])]), (.call 1 0 [(.lit (.i 0))])])]), (.lit (.r []))]), (.call 1 0 [(.lit (.i 1))]), (.call 3 1 [(.call 0 0 [(.lit (.i 10))]), (.call 2 0 [(.lit (.s ⟨#[102]⟩)), (.row [(.call 2 0 [(.lit (.s ⟨#[103]⟩)), (.row [(.call 1 0 [(.lit (.i 0))])])]), (.call 1 0 [(.lit (.i 0))])])]), (.lit (.r []))])]), (.call 5 0 [(.lit (.i 1))])]) (.call 4 0 [(.lit (.i 3))]))) (.lit (.b .true))), (.imp (.and (.and (.and (.and (.and (.and (.eq (.call 3 2 [(.call 3 3 [(.call 0 0 [(.lit (.i 10))]), (.call 2 0 [(.lit (.s ⟨#[102]⟩)), (.row [(.call 2 0 [(.lit (.s ⟨#[103]⟩)), (.row [(.call 1 0 [(.lit (.i 0))])])]), (.call 1 0 [(.lit (.i 0))])])]), (.lit (.r []))]), (.call 1 0 [(.lit (.i 1))]), (.call 3 1 [(.call 0 0 [(.lit (.i 10))]), (.call 2 0 [(.lit (.s ⟨#[102]⟩)), (.row [(.call 2 0 [(.lit (.s ⟨#[103]⟩)), (.row [(.call 1 0 [(.lit (.i 0))])])]), (.call 1 0 [(.lit (.i 0))])])]), (.lit (.r []))])]) (.lit (.i 0))) (.eq (.call 3 0 [(.call 3 3 [(.call 0 0 [(.lit (.i 10))]), (.call 2 0 [(.lit (.s ⟨#[102]⟩)), (.row [(.call 2 0 [(.lit (.s ⟨#[103]⟩)), (.row [(.call 1 0 [(.lit (.i 0))])])]), (.call 1 0 [(.lit (.i 0))])])]), (.lit (.r []))]), (.call 1 0 [(.lit (.i 1))]), (.call 3 1 [(.call 0 0 [(.lit (.i 10))]), (.call 2 0 [(.lit (.s ⟨#[102]⟩)), (.row [(.call 2 0 [(.lit (.s ⟨#[103]⟩)), (.row [(.call 1 0 [(.lit (.i 0))])])]), (.call 1 0 [(.lit (.i 0))])])]), (.lit (.r []))])]) (.call 5 0 [(.lit (.i 5))]))) (.call 6 0 [(.call 3 1 [(.call 3 3 [(.call 0 0 [(.lit (.i 10))]), (.call 2 0 [(.lit (.s ⟨#[102]⟩)), (.row [(.call 2 0 [(.lit (.s ⟨#[103]⟩)), (.row [(.call 1 0 [(.lit (.i 0))])])]), (.call 1 0 [(.lit (.i 0))])])]), (.lit (.r []))]), (.call 1 0 [(.lit (.i 1))]), (.call 3 1 [(.call 0 0 [(.lit (.i 10))]), (.call 2 0 [(.lit (.s ⟨#[102]⟩)), (.row [(.call 2 0 [(.lit (.s ⟨#[103]⟩)), (.row [(.call 1 0 [(.lit (.i 0))])])]), (.call 1 0 [(.lit (.i 0))])])]), (.lit (.r []))])]), (.row [(.mk [(.lit (.i 0)), (.call 5 0 [(.lit (.i 4))])]), (.mk [(.lit (.i 1)), (.call 5 0 [(.lit (.i 5))])])])])) (.eq (.call 7 1 [(.call 3 3 [(.call 3 3 [(.call 0 0 [(.lit (.i 10))]), (.call 2 0 [(.lit (.s ⟨#[102]⟩)), (.row [(.call 2 0 [(.lit (.s ⟨#[103]⟩)), (.row [(.call 1 0 [(.lit (.i 0))])])]), (.call 1 0 [(.lit (.i 0))])])]), (.lit (.r []))]), (.call 1 0 [(.lit (.i 1))]), (.call 3 1 [(.call 0 0 [(.lit (.i 10))]), (.call 2 0 [(.lit (.s ⟨#[102]⟩)), (.row [(.call 2 0 [(.lit (.s ⟨#[103]⟩)), (.row [(.call 1 0 [(.lit (.i 0))])])]), (.call 1 0 [(.lit (.i 0))])])]), (.lit (.r []))])]), (.call 4 0 [(.lit (.i 0))])]) (.lit (.i 0)))) (.call 8 0 [(.call 7 0 [(.call 3 3 [(.call 3 3 [(.call 0 0 [(.lit (.i 10))]), (.call 2 0 [(.lit (.s ⟨#[102]⟩)), (.row [(.call 2 0 [(.lit (.s ⟨#[103]⟩)), (.row [(.call 1 0 [(.lit (.i 0))])])]), (.call 1 0 [(.lit (.i 0))])])]), (.lit (.r []))]), (.call 1 0 [(.lit (.i 1))]), (.call 3 1 [(.call 0 0 [(.lit (.i 10))]), (.call 2 0 [(.lit (.s ⟨#[102]⟩)), (.row [(.call 2 0 [(.lit (.s ⟨#[103]⟩)), (.row [(.call 1 0 [(.lit (.i 0))])])]), (.call 1 0 [(.lit (.i 0))])])]), (.lit (.r []))])]), (.call 4 0 [(.lit (.i 0))])]), (.call 2 0 [(.lit (.s ⟨#[102]⟩)), (.row [(.call 2 0 [(.lit (.s ⟨#[103]⟩)), (.row [(.call 1 0 [(.lit (.i 4))])])]), (.call 1 0 [(.lit (.i 4))])])])])) (.eq (.call 9 0 [(.call 3 3 [(.call 3 3 [(.call 0 0 [(.lit (.i 10))]), (.call 2 0 [(.lit (.s ⟨#[102]⟩)), (.row [(.call 2 0 [(.lit (.s ⟨#[103]⟩)), (.row [(.call 1 0 [(.lit (.i 0))])])]), (.call 1 0 [(.lit (.i 0))])])]), (.lit (.r []))]), (.call 1 0 [(.lit (.i 1))]), (.call 3 1 [(.call 0 0 [(.lit (.i 10))]), (.call 2 0 [(.lit (.s ⟨#[102]⟩)), (.row [(.call 2 0 [(.lit (.s ⟨#[103]⟩)), (.row [(.call 1 0 [(.lit (.i 0))])])]), (.call 1 0 [(.lit (.i 0))])])]), (.lit (.r []))])]), (.call 5 0 [(.lit (.i 2))])]) (.call 5 0 [(.lit (.i 4))]))) (.eq (.call 9 0 [(.call 3 3 [(.call 3 3 [(.call 0 0 [(.lit (.i 10))]), (.call 2 0 [(.lit (.s ⟨#[102]⟩)), (.row [(.call 2 0 [(.lit (.s ⟨#[103]⟩)), (.row [(.call 1 0 [(.lit (.i 0))])])]), (.call 1 0 [(.lit (.i 0))])])]), (.lit (.r []))]), (.call 1 0 [(.lit (.i 1))]), (.call 3 1 [(.call 0 0 [(.lit (.i 10))]), (.call 2 0 [(.lit (.s ⟨#[102]⟩)), (.row [(.call 2 0 [(.lit (.s ⟨#[103]⟩)), (.row [(.call 1 0 [(.lit (.i 0))])])]), (.call 1 0 [(.lit (.i 0))])])]), (.lit (.r []))])]), (.call 5 0 [(.lit (.i 1))])]) (.call 4 0 [(.lit (.i 3))]))) (.lt (.lit (.i 1)) (.len (.fld (.call 3 3 [(.call 3 3 [(.call 0 0 [(.lit (.i 10))]), (.call 2 0 [(.lit (.s ⟨#[102]⟩)), (.row [(.call 2 0 [(.lit (.s ⟨#[103]⟩)), (.row [(.call 1 0 [(.lit (.i 0))])])]), (.call 1 0 [(.lit (.i 0))])])]), (.lit (.r []))]), (.call 1 0 [(.lit (.i 1))]), (.call 3 1 [(.call 0 0 [(.lit (.i 10))]), (.call 2 0 [(.lit (.s ⟨#[102]⟩)), (.row [(.call 2 0 [(.lit (.s ⟨#[103]⟩)), (.row [(.call 1 0 [(.lit (.i 0))])])]), (.call 1 0 [(.lit (.i 0))])])]), (.lit (.r []))])]) 1)))), (.imp (.and (.and (.and (.and (.and (.eq (.call 3 2 [(.call 3 3 [(.call 0 0 [(.lit (.i 10))]), (.call 2 0 [(.lit (.s ⟨#[102]⟩)), (.row [(.call 2 0 [(.lit (.s ⟨#[103]⟩)), (.row [(.call 1 0 [(.lit (.i 0))])])]), (.call 1 0 [(.lit (.i 0))])])]), (.lit (.r []))]), (.call 1 0 [(.lit (.i 1))]), (.call 3 1 [(.call 0 0 [(.lit (.i 10))]), (.call 2 0 [(.lit (.s ⟨#[102]⟩)), (.row [(.call 2 0 [(.lit (.s ⟨#[103]⟩)), (.row [(.call 1 0 [(.lit (.i 0))])])]), (.call 1 0 [(.lit (.i 0))])])]), (.lit (.r []))])]) (.lit (.i 0))) (.eq (.call 3 0 [(.call 3 3 [(.call 0 0 [(.lit (.i 10))]), (.call 2 0 [(.lit (.s ⟨#[102]⟩)), (.row [(.call 2 0 [(.lit (.s ⟨#[103]⟩)), (.row [(.call 1 0 [(.lit (.i 0))])])]), (.call 1 0 [(.lit (.i 0))])])]), (.lit (.r []))]), (.call 1 0 [(.lit (.i 1))]), (.call 3 1 [(.call 0 0 [(.lit (.i 10))]), (.call 2 0 [(.lit (.s ⟨#[102]⟩)), (.row [(.call 2 0 [(.lit (.s ⟨#[103]⟩)), (.row [(.call 1 0 [(.lit (.i 0))])])]), (.call 1 0 [(.lit (.i 0))])])]), (.lit (.r []))])]) (.call 5 0 [(.lit (.i 5))]))) (.call 6 0 [(.call 3 1 [(.call 3 3 [(.call 0 0 [(.lit (.i 10))]), (.call 2 0 [(.lit (.s ⟨#[102]⟩)), (.row [(.call 2 0 [(.lit (.s ⟨#[103]⟩)), (.row [(.call 1 0 [(.lit (.i 0))])])]), (.call 1 0 [(.lit (.i 0))])])]), (.lit (.r []))]), (.call 1 0 [(.lit (.i 1))]), (.call 3 1 [(.call 0 0 [(.lit (.i 10))]), (.call 2 0 [(.lit (.s ⟨#[102]⟩)), (.row [(.call 2 0 [(.lit (.s ⟨#[103]⟩)), (.row [(.call 1 0 [(.lit (.i 0))])])]), (.call 1 0 [(.lit (.i 0))])])]), (.lit (.r []))])]), (.row [(.mk [(.lit (.i 0)), (.call 5 0 [(.lit (.i 4))])]), (.mk [(.lit (.i 1)), (.call 5 0 [(.lit (.i 5))])])])])) (.eq (.call 7 1 [(.call 3 3 [(.call 3 3 [(.call 0 0 [(.lit (.i 10))]), (.call 2 0 [(.lit (.s ⟨#[102]⟩)), (.row [(.call 2 0 [(.lit (.s ⟨#[103]⟩)), (.row [(.call 1 0 [(.lit (.i 0))])])]), (.call 1 0 [(.lit (.i 0))])])]), (.lit (.r []))]), (.call 1 0 [(.lit (.i 1))]), (.call 3 1 [(.call 0 0 [(.lit (.i 10))]), (.call 2 0 [(.lit (.s ⟨#[102]⟩)), (.row [(.call 2 0 [(.lit (.s ⟨#[103]⟩)), (.row [(.call 1 0 [(.lit (.i 0))])])]), (.call 1 0 [(.lit (.i 0))])])]), (.lit (.r []))])]), (.call 4 0 [(.lit (.i 0))])]) (.lit (.i 0)))) (.call 8 0 [(.call 7 0 [(.call 3 3 [(.call 3 3 [(.call 0 0 [(.lit (.i 10))]), (.call 2 0 [(.lit (.s ⟨#[102]⟩)), (.row [(.call 2 0 [(.lit (.s ⟨#[103]⟩)), (.row [(.call 1 0 [(.lit (.i 0))])])]), (.call 1 0 [(.lit (.i 0))])])]), (.lit (.r []))]), (.call 1 0 [(.lit (.i 1))]), (.call 3 1 [(.call 0 0 [(.lit (.i 10))]), (.call 2 0 [(.lit (.s ⟨#[102]⟩)), (.row [(.call 2 0 [(.lit (.s ⟨#[103]⟩)), (.row [(.call 1 0 [(.lit (.i 0))])])]), (.call 1 0 [(.lit (.i 0))])])]), (.lit (.r []))])]), (.call 4 0 [(.lit (.i 0))])]), (.call 2 0 [(.lit (.s ⟨#[102]⟩)), (.row [(.call 2 0 [(.lit (.s ⟨#[103]⟩)), (.row [(.call 1 0 [(.lit (.i 4))])])]), (.call 1 0 [(.lit (.i 4))])])])])) (.eq (.call 9 0 [(.call 3 3 [(.call 3 3 [(.call 0 0 [(.lit (.i 10))]), (.call 2 0 [(.lit (.s ⟨#[102]⟩)), (.row [(.call 2 0 [(.lit (.s ⟨#[103]⟩)), (.row [(.call 1 0 [(.lit (.i 0))])])]), (.call 1 0 [(.lit (.i 0))])])]), (.lit (.r []))]), (.call 1 0 [(.lit (.i 1))]), (.call 3 1 [(.call 0 0 [(.lit (.i 10))]), (.call 2 0 [(.lit (.s ⟨#[102]⟩)), (.row [(.call 2 0 [(.lit (.s ⟨#[103]⟩)), (.row [(.call 1 0 [(.lit (.i 0))])])]), (.call 1 0 [(.lit (.i 0))])])]), (.lit (.r []))])]), (.call 5 0 [(.lit (.i 2))])]) (.call 5 0 [(.lit (.i 4))]))) (.ok 4 [(.lit (.i 3))])), (.imp (.and (.and (.and (.and (.and (.eq (.call 3 2 [(.call 3 3 [(.call 0 0 [(.lit (.i 10))]), (.call 2 0 [(.lit (.s ⟨#[102]⟩)), (.row [(.call 2 0 [(.lit (.s ⟨#[103]⟩)), (.row [(.call 1 0 [(.lit (.i 0))])])]), (.call 1 0 [(.lit (.i 0))])])]), (.lit (.r []))]), (.call 1 0 [(.lit (.i 1))]), (.call 3 1 [(.call 0 0 [(.lit (.i 10))]), (.call 2 0 [(.lit (.s ⟨#[102]⟩)), (.row [(.call 2 0 [(.lit (.s ⟨#[103]⟩)), (.row [(.call 1 0 [(.lit (.i 0))])])]), (.call 1 0 [(.lit (.i 0))])])]), (.lit (.r []))])]) (.lit (.i 0))) (.eq (.call 3 0 [(.call 3 3 [(.call 0 0 [(.lit (.i 10))]), (.call 2 0 [(.lit (.s ⟨#[102]⟩)), (.row [(.call 2 0 [(.lit (.s ⟨#[103]⟩)), (.row [(.call 1 0 [(.lit (.i 0))])])]), (.call 1 0 [(.lit (.i 0))])])]), (.lit (.r []))]), (.call 1 0 [(.lit (.i 1))]), (.call 3 1 [(.call 0 0 [(.lit (.i 10))]), (.call 2 0 [(.lit (.s ⟨#[102]⟩)), (.row [(.call 2 0 [(.lit (.s ⟨#[103]⟩)), (.row [(.call 1 0 [(.lit (.i 0))])])]), (.call 1 0 [(.lit (.i 0))])])]), (.lit (.r []))])]) (.call 5 0 [(.lit (.i 5))]))) (.call 6 0 [(.call 3 1 [(.call 3 3 [(.call 0 0 [(.lit (.i 10))]), (.call 2 0 [(.lit (.s ⟨#[102]⟩)), (.row [(.call 2 0 [(.lit (.s ⟨#[103]⟩)), (.row [(.call 1 0 [(.lit (.i 0))])])]), (.call 1 0 [(.lit (.i 0))])])]), (.lit (.r []))]), (.call 1 0 [(.lit (.i 1))]), (.call 3 1 [(.call 0 0 [(.lit (.i 10))]), (.call 2 0 [(.lit (.s ⟨#[102]⟩)), (.row [(.call 2 0 [(.lit (.s ⟨#[103]⟩)), (.row [(.call 1 0 [(.lit (.i 0))])])]), (.call 1 0 [(.lit (.i 0))])])]), (.lit (.r []))])]), (.row [(.mk [(.lit (.i 0)), (.call 5 0 [(.lit (.i 4))])]), (.mk [(.lit (.i 1)), (.call 5 0 [(.lit (.i 5))])])])])) (.eq (.call 7 1 [(.call 3 3 [(.call 3 3 [(.call 0 0 [(.lit (.i 10))]), (.call 2 0 [(.lit (.s ⟨#[102]⟩)), (.row [(.call 2 0 [(.lit (.s ⟨#[103]⟩)), (.row [(.call 1 0 [(.lit (.i 0))])])]), (.call 1 0 [(.lit (.i 0))])])]), (.lit (.r []))]), (.call 1 0 [(.lit (.i 1))]), (.call 3 1 [(.call 0 0 [(.lit (.i 10))]), (.call 2 0 [(.lit (.s ⟨#[102]⟩)), (.row [(.call 2 0 [(.lit (.s ⟨#[103]⟩)), (.row [(.call 1 0 [(.lit (.i 0))])])]), (.call 1 0 [(.lit (.i 0))])])]), (.lit (.r []))])]), (.call 4 0 [(.lit (.i 0))])]) (.lit (.i 0)))) (.call 8 0 [(.call 7 0 [(.call 3 3 [(.call 3 3 [(.call 0 0 [(.lit (.i 10))]), (.call 2 0 [(.lit (.s ⟨#[102]⟩)), (.row [(.call 2 0 [(.lit (.s ⟨#[103]⟩)), (.row [(.call 1 0 [(.lit (.i 0))])])]), (.call 1 0 [(.lit (.i 0))])])]), (.lit (.r []))]), (.call 1 0 [(.lit (.i 1))]), (.call 3 1 [(.call 0 0 [(.lit (.i 10))]), (.call 2 0 [(.lit (.s ⟨#[102]⟩)), (.row [(.call 2 0 [(.lit (.s ⟨#[103]⟩)), (.row [(.call 1 0 [(.lit (.i 0))])])]), (.call 1 0 [(.lit (.i 0))])])]), (.lit (.r []))])]), (.call 4 0 [(.lit (.i 0))])]), (.call 2 0 [(.lit (.s ⟨#[102]⟩)), (.row [(.call 2 0 [(.lit (.s ⟨#[103]⟩)), (.row [(.call 1 0 [(.lit (.i 4))])])]), (.call 1 0 [(.lit (.i 4))])])])])) (.eq (.call 9 0 [(.call 3 3 [(.call 3 3 [(.call 0 0 [(.lit (.i 10))]), (.call 2 0 [(.lit (.s ⟨#[102]⟩)), (.row [(.call 2 0 [(.lit (.s ⟨#[103]⟩)), (.row [(.call 1 0 [(.lit (.i 0))])])]), (.call 1 0 [(.lit (.i 0))])])]), (.lit (.r []))]), (.call 1 0 [(.lit (.i 1))]), (.call 3 1 [(.call 0 0 [(.lit (.i 10))]), (.call 2 0 [(.lit (.s ⟨#[102]⟩)), (.row [(.call 2 0 [(.lit (.s ⟨#[103]⟩)), (.row [(.call 1 0 [(.lit (.i 0))])])]), (.call 1 0 [(.lit (.i 0))])])]), (.lit (.r []))])]), (.call 5 0 [(.lit (.i 2))])]) (.call 5 0 [(.lit (.i 4))]))) (.ok 9 [(.call 3 3 [(.call 3 3 [(.call 0 0 [(.lit (.i 10))]), (.call 2 0 [(.lit (.s ⟨#[102]⟩)), (.row [(.call 2 0 [(.lit (.s ⟨#[103]⟩)), (.row [(.call 1 0 [(.lit (.i 0))])])]), (.call 1 0 [(.lit (.i 0))])])]), (.lit (.r []))]), (.call 1 0 [(.lit (.i 1))]), (.call 3 1 [(.call 0 0 [(.lit (.i 10))]), (.call 2 0 [(.lit (.s ⟨#[102]⟩)), (.row [(.call 2 0 [(.lit (.s ⟨#[103]⟩)), (.row [(.call 1 0 [(.lit (.i 0))])])]), (.call 1 0 [(.lit (.i 0))])])]), (.lit (.r []))])]), (.call 5 0 [(.lit (.i 1))])])), (.imp (.and (.and (.and (.and (.and (.eq (.call 3 2 [(.call 3 3 [(.call 0 0 [(.lit (.i 10))]), (.call 2 0 [(.lit (.s ⟨#[102]⟩)), (.row [(.call 2 0 [(.lit (.s ⟨#[103]⟩)), (.row [(.call 1 0 [(.lit (.i 0))])])]), (.call 1 0 [(.lit (.i 0))])])]), (.lit (.r []))]), (.call 1 0 [(.lit (.i 1))]), (.call 3 1 [(.call 0 0 [(.lit (.i 10))]), (.call 2 0 [(.lit (.s ⟨#[102]⟩)), (.row [(.call 2 0 [(.lit (.s ⟨#[103]⟩)), (.row [(.call 1 0 [(.lit (.i 0))])])]), (.call 1 0 [(.lit (.i 0))])])]), (.lit (.r []))])]) (.lit (.i 0))) (.eq (.call 3 0 [(.call 3 3 [(.call 0 0 [(.lit (.i 10))]), (.call 2 0 [(.lit (.s ⟨#[102]⟩)), (.row [(.call 2 0 [(.lit (.s ⟨#[103]⟩)), (.row [(.call 1 0 [(.lit (.i 0))])])]), (.call 1 0 [(.lit (.i 0))])])]), (.lit (.r []))]), (.call 1 0 [(.lit (.i 1))]), (.call 3 1 [(.call 0 0 [(.lit (.i 10))]), (.call 2 0 [(.lit (.s ⟨#[102]⟩)), (.row [(.call 2 0 [(.lit (.s ⟨#[103]⟩)), (.row [(.call 1 0 [(.lit (.i 0))])])]), (.call 1 0 [(.lit (.i 0))])])]), (.lit (.r []))])]) (.call 5 0 [(.lit (.i 5))]))) (.call 6 0 [(.call 3 1 [(.call 3 3 [(.call 0 0 [(.lit (.i 10))]), (.call 2 0 [(.lit (.s ⟨#[102]⟩)), (.row [(.call 2 0 [(.lit (.s ⟨#[103]⟩)), (.row [(.call 1 0 [(.lit (.i 0))])])]), (.call 1 0 [(.lit (.i 0))])])]), (.lit (.r []))]), (.call 1 0 [(.lit (.i 1))]), (.call 3 1 [(.call 0 0 [(.lit (.i 10))]), (.call 2 0 [(.lit (.s ⟨#[102]⟩)), (.row [(.call 2 0 [(.lit (.s ⟨#[103]⟩)), (.row [(.call 1 0 [(.lit (.i 0))])])]), (.call 1 0 [(.lit (.i 0))])])]), (.lit (.r []))])]), (.row [(.mk [(.lit (.i 0)), (.call 5 0 [(.lit (.i 4))])]), (.mk [(.lit (.i 1)), (.call 5 0 [(.lit (.i 5))])])])])) (.eq (.call 7 1 [(.call 3 3 [(.call 3 3 [(.call 0 0 [(.lit (.i 10))]), (.call 2 0 [(.lit (.s ⟨#[102]⟩)), (.row [(.call 2 0 [(.lit (.s ⟨#[103]⟩)), (.row [(.call 1 0 [(.lit (.i 0))])])]), (.call 1 0 [(.lit (.i 0))])])]), (.lit (.r []))]), (.call 1 0 [(.lit (.i 1))]), (.call 3 1 [(.call 0 0 [(.lit (.i 10))]), (.call 2 0 [(.lit (.s ⟨#[102]⟩)), (.row [(.call 2 0 [(.lit (.s ⟨#[103]⟩)), (.row [(.call 1 0 [(.lit (.i 0))])])]), (.call 1 0 [(.lit (.i 0))])])]), (.lit (.r []))])]), (.call 4 0 [(.lit (.i 0))])]) (.lit (.i 0)))) (.call 8 0 [(.call 7 0 [(.call 3 3 [(.call 3 3 [(.call 0 0 [(.lit (.i 10))]), (.call 2 0 [(.lit (.s ⟨#[102]⟩)), (.row [(.call 2 0 [(.lit (.s ⟨#[103]⟩)), (.row [(.call 1 0 [(.lit (.i 0))])])]), (.call 1 0 [(.lit (.i 0))])])]), (.lit (.r []))]), (.call 1 0 [(.lit (.i 1))]), (.call 3 1 [(.call 0 0 [(.lit (.i 10))]), (.call 2 0 [(.lit (.s ⟨#[102]⟩)), (.row [(.call 2 0 [(.lit (.s ⟨#[103]⟩)), (.row [(.call 1 0 [(.lit (.i 0))])])]), (.call 1 0 [(.lit (.i 0))])])]), (.lit (.r []))])]), (.call 4 0 [(.lit (.i 0))])]), (.call 2 0 [(.lit (.s ⟨#[102]⟩)), (.row [(.call 2 0 [(.lit (.s ⟨#[103]⟩)), (.row [(.call 1 0 [(.lit (.i 4))])])]), (.call 1 0 [(.lit (.i 4))])])])])) (.eq (.call 9 0 [(.call 3 3 [(.call 3 3 [(.call 0 0 [(.lit (.i 10))]), (.call 2 0 [(.lit (.s ⟨#[102]⟩)), (.row [(.call 2 0 [(.lit (.s ⟨#[103]⟩)), (.row [(.call 1 0 [(.lit (.i 0))])])]), (.call 1 0 [(.lit (.i 0))])])]), (.lit (.r []))]), (.call 1 0 [(.lit (.i 1))]), (.call 3 1 [(.call 0 0 [(.lit (.i 10))]), (.call 2 0 [(.lit (.s ⟨#[102]⟩)), (.row [(.call 2 0 [(.lit (.s ⟨#[103]⟩)), (.row [(.call 1 0 [(.lit (.i 0))])])]), (.call 1 0 [(.lit (.i 0))])])]), (.lit (.r []))])]), (.call 5 0 [(.lit (.i 2))])]) (.call 5 0 [(.lit (.i 4))]))) (.ok 5 [(.lit (.i 1))])), (.imp (.and (.and (.and (.and (.eq (.call 3 2 [(.call 3 3 [(.call 0 0 [(.lit (.i 10))]), (.call 2 0 [(.lit (.s ⟨#[102]⟩)), (.row [(.call 2 0 [(.lit (.s ⟨#[103]⟩)), (.row [(.call 1 0 [(.lit (.i 0))])])]), (.call 1 0 [(.lit (.i 0))])])]), (.lit (.r []))]), (.call 1 0 [(.lit (.i 1))]), (.call 3 1 [(.call 0 0 [(.lit (.i 10))]), (.call 2 0 [(.lit (.s ⟨#[102]⟩)), (.row [(.call 2 0 [(.lit (.s ⟨#[103]⟩)), (.row [(.call 1 0 [(.lit (.i 0))])])]), (.call 1 0 [(.lit (.i 0))])])]), (.lit (.r []))])]) (.lit (.i 0))) (.eq (.call 3 0 [(.call 3 3 [(.call 0 0 [(.lit (.i 10))]), (.call 2 0 [(.lit (.s ⟨#[102]⟩)), (.row [(.call 2 0 [(.lit (.s ⟨#[103]⟩)), (.row [(.call 1 0 [(.lit (.i 0))])])]), (.call 1 0 [(.lit (.i 0))])])]), (.lit (.r []))]), (.call 1 0 [(.lit (.i 1))]), (.call 3 1 [(.call 0 0 [(.lit (.i 10))]), (.call 2 0 [(.lit (.s ⟨#[102]⟩)), (.row [(.call 2 0 [(.lit (.s ⟨#[103]⟩)), (.row [(.call 1 0 [(.lit (.i 0))])])]), (.call 1 0 [(.lit (.i 0))])])]), (.lit (.r []))])]) (.call 5 0 [(.lit (.i 5))]))) (.call 6 0 [(.call 3 1 [(.call 3 3 [(.call 0 0 [(.lit (.i 10))]), (.call 2 0 [(.lit (.s ⟨#[102]⟩)), (.row [(.call 2 0 [(.lit (.s ⟨#[103]⟩)), (.row [(.call 1 0 [(.lit (.i 0))])])]), (.call 1 0 [(.lit (.i 0))])])]), (.lit (.r []))]), (.call 1 0 [(.lit (.i 1))]), (.call 3 1 [(.call 0 0 [(.lit (.i 10))]), (.call 2 0 [(.lit (.s ⟨#[102]⟩)), (.row [(.call 2 0 [(.lit (.s ⟨#[103]⟩)), (.row [(.call 1 0 [(.lit (.i 0))])])]), (.call 1 0 [(.lit (.i 0))])])]), (.lit (.r []))])]), (.row [(.mk [(.lit (.i 0)), (.call 5 0 [(.lit (.i 4))])]), (.mk [(.lit (.i 1)), (.call 5 0 [(.lit (.i 5))])])])])) (.eq (.call 7 1 [(.call 3 3 [(.call 3 3 [(.call 0 0 [(.lit (.i 10))]), (.call 2 0 [(.lit (.s ⟨#[102]⟩)), (.row [(.call 2 0 [(.lit (.s ⟨#[103]⟩)), (.row [(.call 1 0 [(.lit (.i 0))])])]), (.call 1 0 [(.lit (.i 0))])])]), (.lit (.r []))]), (.call 1 0 [(.lit (.i 1))]), (.call 3 1 [(.call 0 0 [(.lit (.i 10))]), (.call 2 0 [(.lit (.s ⟨#[102]⟩)), (.row [(.call 2 0 [(.lit (.s ⟨#[103]⟩)), (.row [(.call 1 0 [(.lit (.i 0))])])]), (.call 1 0 [(.lit (.i 0))])])]), (.lit (.r []))])]), (.call 4 0 [(.lit (.i 0))])]) (.lit (.i 0)))) (.call 8 0 [(.call 7 0 [(.call 3 3 [(.call 3 3 [(.call 0 0 [(.lit (.i 10))]), (.call 2 0 [(.lit (.s ⟨#[102]⟩)), (.row [(.call 2 0 [(.lit (.s ⟨#[103]⟩)), (.row [(.call 1 0 [(.lit (.i 0))])])]), (.call 1 0 [(.lit (.i 0))])])]), (.lit (.r []))]), (.call 1 0 [(.lit (.i 1))]), (.call 3 1 [(.call 0 0 [(.lit (.i 10))]), (.call 2 0 [(.lit (.s ⟨#[102]⟩)), (.row [(.call 2 0 [(.lit (.s ⟨#[103]⟩)), (.row [(.call 1 0 [(.lit (.i 0))])])]), (.call 1 0 [(.lit (.i 0))])])]), (.lit (.r []))])]), (.call 4 0 [(.lit (.i 0))])]), (.call 2 0 [(.lit (.s ⟨#[102]⟩)), (.row [(.call 2 0 [(.lit (.s ⟨#[103]⟩)), (.row [(.call 1 0 [(.lit (.i 4))])])]), (.call 1 0 [(.lit (.i 4))])])])])) (.ok 5 [(.lit (.i 4))])), (.imp (.and (.and (.and (.and (.eq (.call 3 2 [(.call 3 3 [(.call 0 0 [(.lit (.i 10))]), (.call 2 0 [(.lit (.s ⟨#[102]⟩)), (.row [(.call 2 0 [(.lit (.s ⟨#[103]⟩)), (.row [(.call 1 0 [(.lit (.i 0))])])]), (.call 1 0 [(.lit (.i 0))])])]), (.lit (.r []))]), (.call 1 0 [(.lit (.i 1))]), (.call 3 1 [(.call 0 0 [(.lit (.i 10))]), (.call 2 0 [(.lit (.s ⟨#[102]⟩)), (.row [(.call 2 0 [(.lit (.s ⟨#[103]⟩)), (.row [(.call 1 0 [(.lit (.i 0))])])]), (.call 1 0 [(.lit (.i 0))])])]), (.lit (.r []))])]) (.lit (.i 0))) (.eq (.call 3 0 [(.call 3 3 [(.call 0 0 [(.lit (.i 10))]), (.call 2 0 [(.lit (.s ⟨#[102]⟩)), (.row [(.call 2 0 [(.lit (.s ⟨#[103]⟩)), (.row [(.call 1 0 [(.lit (.i 0))])])]), (.call 1 0 [(.lit (.i 0))])])]), (.lit (.r []))]), (.call 1 0 [(.lit (.i 1))]), (.call 3 1 [(.call 0 0 [(.lit (.i 10))]), (.call 2 0 [(.lit (.s ⟨#[102]⟩)), (.row [(.call 2 0 [(.lit (.s ⟨#[103]⟩)), (.row [(.call 1 0 [(.lit (.i 0))])])]), (.call 1 0 [(.lit (.i 0))])])]), (.lit (.r []))])]) (.call 5 0 [(.lit (.i 5))]))) (.call 6 0 [(.call 3 1 [(.call 3 3 [(.call 0 0 [(.lit (.i 10))]), (.call 2 0 [(.lit (.s ⟨#[102]⟩)), (.row [(.call 2 0 [(.lit (.s ⟨#[103]⟩)), (.row [(.call 1 0 [(.lit (.i 0))])])]), (.call 1 0 [(.lit (.i 0))])])]), (.lit (.r []))]), (.call 1 0 [(.lit (.i 1))]), (.call 3 1 [(.call 0 0 [(.lit (.i 10))]), (.call 2 0 [(.lit (.s ⟨#[102]⟩)), (.row [(.call 2 0 [(.lit (.s ⟨#[103]⟩)), (.row [(.call 1 0 [(.lit (.i 0))])])]), (.call 1 0 [(.lit (.i 0))])])]), (.lit (.r []))])]), (.row [(.mk [(.lit (.i 0)), (.call 5 0 [(.lit (.i 4))])]), (.mk [(.lit (.i 1)), (.call 5 0 [(.lit (.i 5))])])])])) (.eq (.call 7 1 [(.call 3 3 [(.call 3 3 [(.call 0 0 [(.lit (.i 10))]), (.call 2 0 [(.lit (.s ⟨#[102]⟩)), (.row [(.call 2 0 [(.lit (.s ⟨#[103]⟩)), (.row [(.call 1 0 [(.lit (.i 0))])])]), (.call 1 0 [(.lit (.i 0))])])]), (.lit (.r []))]), (.call 1 0 [(.lit (.i 1))]), (.call 3 1 [(.call 0 0 [(.lit (.i 10))]), (.call 2 0 [(.lit (.s ⟨#[102]⟩)), (.row [(.call 2 0 [(.lit (.s ⟨#[103]⟩)), (.row [(.call 1 0 [(.lit (.i 0))])])]), (.call 1 0 [(.lit (.i 0))])])]), (.lit (.r []))])]), (.call 4 0 [(.lit (.i 0))])]) (.lit (.i 0)))) (.call 8 0 [(.call 7 0 [(.call 3 3 [(.call 3 3 [(.call 0 0 [(.lit (.i 10))]), (.call 2 0 [(.lit (.s ⟨#[102]⟩)), (.row [(.call 2 0 [(.lit (.s ⟨#[103]⟩)), (.row [(.call 1 0 [(.lit (.i 0))])])]), (.call 1 0 [(.lit (.i 0))])])]), (.lit (.r []))]), (.call 1 0 [(.lit (.i 1))]), (.call 3 1 [(.call 0 0 [(.lit (.i 10))]), (.call 2 0 [(.lit (.s ⟨#[102]⟩)), (.row [(.call 2 0 [(.lit (.s ⟨#[103]⟩)), (.row [(.call 1 0 [(.lit (.i 0))])])]), (.call 1 0 [(.lit (.i 0))])])]), (.lit (.r []))])]), (.call 4 0 [(.lit (.i 0))])]), (.call 2 0 [(.lit (.s ⟨#[102]⟩)), (.row [(.call 2 0 [(.lit (.s ⟨#[103]⟩)), (.row [(.call 1 0 [(.lit (.i 4))])])]), (.call 1 0 [(.lit (.i 4))])])])])) (.ok 9 [(.call 3 3 [(.call 3 3 [(.call 0 0 [(.lit (.i 10))]), (.call 2 0 [(.lit (.s ⟨#[102]⟩)), (.row [(.call 2 0 [(.lit (.s ⟨#[103]⟩)), (.row [(.call 1 0 [(.lit (.i 0))])])]), (.call 1 0 [(.lit (.i 0))])])]), (.lit (.r []))]), (.call 1 0 [(.lit (.i 1))]), (.call 3 1 [(.call 0 0 [(.lit (.i 10))]), (.call 2 0 [(.lit (.s ⟨#[102]⟩)), (.row [(.call 2 0 [(.lit (.s ⟨#[103]⟩)), (.row [(.call 1 0 [(.lit (.i 0))])])]), (.call 1 0 [(.lit (.i 0))])])]), (.lit (.r []))])]), (.call 5 0 [(.lit (.i 2))])])), (.imp (.and (.and (.and (.and (.eq (.call 3 2 [(.call 3 3 [(.call 0 0 [(.lit (.i 10))]), (.call 2 0 [(.lit (.s ⟨#[102]⟩)), (.row [(.call 2 0 [(.lit (.s ⟨#[103]⟩)), (.row [(.call 1 0 [(.lit (.i 0))])])]), (.call 1 0 [(.lit (.i 0))])])]), (.lit (.r []))]), (.call 1 0 [(.lit (.i 1))]), (.call 3 1 [(.call 0 0 [(.lit (.i 10))]), (.call 2 0 [(.lit (.s ⟨#[102]⟩)), (.row [(.call 2 0 [(.lit (.s ⟨#[103]⟩)), (.row [(.call 1 0 [(.lit (.i 0))])])]), (.call 1 0 [(.lit (.i 0))])])]), (.lit (.r []))])]) (.lit (.i 0))) (.eq (.call 3 0 [(.call 3 3 [(.call 0 0 [(.lit (.i 10))]), (.call 2 0 [(.lit (.s ⟨#[102]⟩)), (.row [(.call 2 0 [(.lit (.s ⟨#[103]⟩)), (.row [(.call 1 0 [(.lit (.i 0))])])]), (.call 1 0 [(.lit (.i 0))])])]), (.lit (.r []))]), (.call 1 0 [(.lit (.i 1))]), (.call 3 1 [(.call 0 0 [(.lit (.i 10))]), (.call 2 0 [(.lit (.s ⟨#[102]⟩)), (.row [(.call 2 0 [(.lit (.s ⟨#[103]⟩)), (.row [(.call 1 0 [(.lit (.i 0))])])]), (.call 1 0 [(.lit (.i 0))])])]), (.lit (.r []))])]) (.call 5 0 [(.lit (.i 5))]))) (.call 6 0 [(.call 3 1 [(.call 3 3 [(.call 0 0 [(.lit (.i 10))]), (.call 2 0 [(.lit (.s ⟨#[102]⟩)), (.row [(.call 2 0 [(.lit (.s ⟨#[103]⟩)), (.row [(.call 1 0 [(.lit (.i 0))])])]), (.call 1 0 [(.lit (.i 0))])])]), (.lit (.r []))]), (.call 1 0 [(.lit (.i 1))]), (.call 3 1 [(.call 0 0 [(.lit (.i 10))]), (.call 2 0 [(.lit (.s ⟨#[102]⟩)), (.row [(.call 2 0 [(.lit (.s ⟨#[103]⟩)), (.row [(.call 1 0 [(.lit (.i 0))])])]), (.call 1 0 [(.lit (.i 0))])])]), (.lit (.r []))])]), (.row [(.mk [(.lit (.i 0)), (.call 5 0 [(.lit (.i 4))])]), (.mk [(.lit (.i 1)), (.call 5 0 [(.lit (.i 5))])])])])) (.eq (.call 7 1 [(.call 3 3 [(.call 3 3 [(.call 0 0 [(.lit (.i 10))]), (.call 2 0 [(.lit (.s ⟨#[102]⟩)), (.row [(.call 2 0 [(.lit (.s ⟨#[103]⟩)), (.row [(.call 1 0 [(.lit (.i 0))])])]), (.call 1 0 [(.lit (.i 0))])])]), (.lit (.r []))]), (.call 1 0 [(.lit (.i 1))]), (.call 3 1 [(.call 0 0 [(.lit (.i 10))]), (.call 2 0 [(.lit (.s ⟨#[102]⟩)), (.row [(.call 2 0 [(.lit (.s ⟨#[103]⟩)), (.row [(.call 1 0 [(.lit (.i 0))])])]), (.call 1 0 [(.lit (.i 0))])])]), (.lit (.r []))])]), (.call 4 0 [(.lit (.i 0))])]) (.lit (.i 0)))) (.call 8 0 [(.call 7 0 [(.call 3 3 [(.call 3 3 [(.call 0 0 [(.lit (.i 10))]), (.call 2 0 [(.lit (.s ⟨#[102]⟩)), (.row [(.call 2 0 [(.lit (.s ⟨#[103]⟩)), (.row [(.call 1 0 [(.lit (.i 0))])])]), (.call 1 0 [(.lit (.i 0))])])]), (.lit (.r []))]), (.call 1 0 [(.lit (.i 1))]), (.call 3 1 [(.call 0 0 [(.lit (.i 10))]), (.call 2 0 [(.lit (.s ⟨#[102]⟩)), (.row [(.call 2 0 [(.lit (.s ⟨#[103]⟩)), (.row [(.call 1 0 [(.lit (.i 0))])])]), (.call 1 0 [(.lit (.i 0))])])]), (.lit (.r []))])]), (.call 4 0 [(.lit (.i 0))])]), (.call 2 0 [(.lit (.s ⟨#[102]⟩)), (.row [(.call 2 0 [(.lit (.s ⟨#[103]⟩)), (.row [(.call 1 0 [(.lit (.i 4))])])]), (.call 1 0 [(.lit (.i 4))])])])])) (.ok 5 [(.lit (.i 2))])), (.imp (.and (.and (.and (.eq (.call 3 2 [(.call 3 3 [(.call 0 0 [(.lit (.i 10))]), (.call 2 0 [(.lit (.s ⟨#[102]⟩)), (.row [(.call 2 0 [(.lit (.s ⟨#[103]⟩)), (.row [(.call 1 0 [(.lit (.i 0))])])]), (.call 1 0 [(.lit (.i 0))])])]), (.lit (.r []))]), (.call 1 0 [(.lit (.i 1))]), (.call 3 1 [(.call 0 0 [(.lit (.i 10))]), (.call 2 0 [(.lit (.s ⟨#[102]⟩)), (.row [(.call 2 0 [(.lit (.s ⟨#[103]⟩)), (.row [(.call 1 0 [(.lit (.i 0))])])]), (.call 1 0 [(.lit (.i 0))])])]), (.lit (.r []))])]) (.lit (.i 0))) (.eq (.call 3 0 [(.call 3 3 [(.call 0 0 [(.lit (.i 10))]), (.call 2 0 [(.lit (.s ⟨#[102]⟩)), (.row [(.call 2 0 [(.lit (.s ⟨#[103]⟩)), (.row [(.call 1 0 [(.lit (.i 0))])])]), (.call 1 0 [(.lit (.i 0))])])]), (.lit (.r []))]), (.call 1 0 [(.lit (.i 1))]), (.call 3 1 [(.call 0 0 [(.lit (.i 10))]), (.call 2 0 [(.lit (.s ⟨#[102]⟩)), (.row [(.call 2 0 [(.lit (.s ⟨#[103]⟩)), (.row [(.call 1 0 [(.lit (.i 0))])])]), (.call 1 0 [(.lit (.i 0))])])]), (.lit (.r []))])]) (.call 5 0 [(.lit (.i 5))]))) (.call 6 0 [(.call 3 1 [(.call 3 3 [(.call 0 0 [(.lit (.i 10))]), (.call 2 0 [(.lit (.s ⟨#[102]⟩)), (.row [(.call 2 0 [(.lit (.s ⟨#[103]⟩)), (.row [(.call 1 0 [(.lit (.i 0))])])]), (.call 1 0 [(.lit (.i 0))])])]), (.lit (.r []))]), (.call 1 0 [(.lit (.i 1))]), (.call 3 1 [(.call 0 0 [(.lit (.i 10))]), (.call 2 0 [(.lit (.s ⟨#[102]⟩)), (.row [(.call 2 0 [(.lit (.s ⟨#[103]⟩)), (.row [(.call 1 0 [(.lit (.i 0))])])]), (.call 1 0 [(.lit (.i 0))])])]), (.lit (.r []))])]), (.row [(.mk [(.lit (.i 0)), (.call 5 0 [(.lit (.i 4))])]), (.mk [(.lit (.i 1)), (.call 5 0 [(.lit (.i 5))])])])])) (.eq (.call 7 1 [(.call 3 3 [(.call 3 3 [(.call 0 0 [(.lit (.i 10))]), (.call 2 0 [(.lit (.s ⟨#[102]⟩)), (.row [(.call 2 0 [(.lit (.s ⟨#[103]⟩)), (.row [(.call 1 0 [(.lit (.i 0))])])]), (.call 1 0 [(.lit (.i 0))])])]), (.lit (.r []))]), (.call 1 0 [(.lit (.i 1))]), (.call 3 1 [(.call 0 0 [(.lit (.i 10))]), (.call 2 0 [(.lit (.s ⟨#[102]⟩)), (.row [(.call 2 0 [(.lit (.s ⟨#[103]⟩)), (.row [(.call 1 0 [(.lit (.i 0))])])]), (.call 1 0 [(.lit (.i 0))])])]), (.lit (.r []))])]), (.call 4 0 [(.lit (.i 0))])]) (.lit (.i 0)))) (.ok 8 [(.call 7 0 [(.call 3 3 [(.call 3 3 [(.call 0 0 [(.lit (.i 10))]), (.call 2 0 [(.lit (.s ⟨#[102]⟩)), (.row [(.call 2 0 [(.lit (.s ⟨#[103]⟩)), (.row [(.call 1 0 [(.lit (.i 0))])])]), (.call 1 0 [(.lit (.i 0))])])]), (.lit (.r []))]), (.call 1 0 [(.lit (.i 1))]), (.call 3 1 [(.call 0 0 [(.lit (.i 10))]), (.call 2 0 [(.lit (.s ⟨#[102]⟩)), (.row [(.call 2 0 [(.lit (.s ⟨#[103]⟩)), (.row [(.call 1 0 [(.lit (.i 0))])])]), (.call 1 0 [(.lit (.i 0))])])]), (.lit (.r []))])]), (.call 4 0 [(.lit (.i 0))])]), (.call 2 0 [(.lit (.s ⟨#[102]⟩)), (.row [(.call 2 0 [(.lit (.s ⟨#[103]⟩)), (.row [(.call 1 0 [(.lit (.i 4))])])]), (.call 1 0 [(.lit (.i 4))])])])])), (.imp (.and (.and (.and (.eq (.call 3 2 [(.call 3 3 [(.call 0 0 [(.lit (.i 10))]), (.call 2 0 [(.lit (.s ⟨#[102]⟩)), (.row [(.call 2 0 [(.lit (.s ⟨#[103]⟩)), (.row [(.call 1 0 [(.lit (.i 0))])])]), (.call 1 0 [(.lit (.i 0))])])]), (.lit (.r []))]), (.call 1 0 [(.lit (.i 1))]), (.call 3 1 [(.call 0 0 [(.lit (.i 10))]), (.call 2 0 [(.lit (.s ⟨#[102]⟩)), (.row [(.call 2 0 [(.lit (.s ⟨#[103]⟩)), (.row [(.call 1 0 [(.lit (.i 0))])])]), (.call 1 0 [(.lit (.i 0))])])]), (.lit (.r []))])]) (.lit (.i 0))) (.eq (.call 3 0 [(.call 3 3 [(.call 0 0 [(.lit (.i 10))]), (.call 2 0 [(.lit (.s ⟨#[102]⟩)), (.row [(.call 2 0 [(.lit (.s ⟨#[103]⟩)), (.row [(.call 1 0 [(.lit (.i 0))])])]), (.call 1 0 [(.lit (.i 0))])])]), (.lit (.r []))]), (.call 1 0 [(.lit (.i 1))]), (.call 3 1 [(.call 0 0 [(.lit (.i 10))]), (.call 2 0 [(.lit (.s ⟨#[102]⟩)), (.row [(.call 2 0 [(.lit (.s ⟨#[103]⟩)), (.row [(.call 1 0 [(.lit (.i 0))])])]), (.call 1 0 [(.lit (.i 0))])])]), (.lit (.r []))])]) (.call 5 0 [(.lit (.i 5))]))) (.call 6 0 [(.call 3 1 [(.call 3 3 [(.call 0 0 [(.lit (.i 10))]), (.call 2 0 [(.lit (.s ⟨#[102]⟩)), (.row [(.call 2 0 [(.lit (.s ⟨#[103]⟩)), (.row [(.call 1 0 [(.lit (.i 0))])])]), (.call 1 0 [(.lit (.i 0))])])]), (.lit (.r []))]), (.call 1 0 [(.lit (.i 1))]), (.call 3 1 [(.call 0 0 [(.lit (.i 10))]), (.call 2 0 [(.lit (.s ⟨#[102]⟩)), (.row [(.call 2 0 [(.lit (.s ⟨#[103]⟩)), (.row [(.call 1 0 [(.lit (.i 0))])])]), (.call 1 0 [(.lit (.i 0))])])]), (.lit (.r []))])]), (.row [(.mk [(.lit (.i 0)), (.call 5 0 [(.lit (.i 4))])]), (.mk [(.lit (.i 1)), (.call 5 0 [(.lit (.i 5))])])])])) (.eq (.call 7 1 [(.call 3 3 [(.call 3 3 [(.call 0 0 [(.lit (.i 10))]), (.call 2 0 [(.lit (.s ⟨#[102]⟩)), (.row [(.call 2 0 [(.lit (.s ⟨#[103]⟩)), (.row [(.call 1 0 [(.lit (.i 0))])])]), (.call 1 0 [(.lit (.i 0))])])]), (.lit (.r []))]), (.call 1 0 [(.lit (.i 1))]), (.call 3 1 [(.call 0 0 [(.lit (.i 10))]), (.call 2 0 [(.lit (.s ⟨#[102]⟩)), (.row [(.call 2 0 [(.lit (.s ⟨#[103]⟩)), (.row [(.call 1 0 [(.lit (.i 0))])])]), (.call 1 0 [(.lit (.i 0))])])]), (.lit (.r []))])]), (.call 4 0 [(.lit (.i 0))])]) (.lit (.i 0)))) (.ok 2 [(.lit (.s ⟨#[102]⟩)), (.row [(.call 2 0 [(.lit (.s ⟨#[103]⟩)), (.row [(.call 1 0 [(.lit (.i 4))])])]), (.call 1 0 [(.lit (.i 4))])])])), (.imp (.and (.and (.and (.eq (.call 3 2 [(.call 3 3 [(.call 0 0 [(.lit (.i 10))]), (.call 2 0 [(.lit (.s ⟨#[102]⟩)), (.row [(.call 2 0 [(.lit (.s ⟨#[103]⟩)), (.row [(.call 1 0 [(.lit (.i 0))])])]), (.call 1 0 [(.lit (.i 0))])])]), (.lit (.r []))]), (.call 1 0 [(.lit (.i 1))]), (.call 3 1 [(.call 0 0 [(.lit (.i 10))]), (.call 2 0 [(.lit (.s ⟨#[102]⟩)), (.row [(.call 2 0 [(.lit (.s ⟨#[103]⟩)), (.row [(.call 1 0 [(.lit (.i 0))])])]), (.call 1 0 [(.lit (.i 0))])])]), (.lit (.r []))])]) (.lit (.i 0))) (.eq (.call 3 0 [(.call 3 3 [(.call 0 0 [(.lit (.i 10))]), (.call 2 0 [(.lit (.s ⟨#[102]⟩)), (.row [(.call 2 0 [(.lit (.s ⟨#[103]⟩)), (.row [(.call 1 0 [(.lit (.i 0))])])]), (.call 1 0 [(.lit (.i 0))])])]), (.lit (.r []))]), (.call 1 0 [(.lit (.i 1))]), (.call 3 1 [(.call 0 0 [(.lit (.i 10))]), (.call 2 0 [(.lit (.s ⟨#[102]⟩)), (.row [(.call 2 0 [(.lit (.s ⟨#[103]⟩)), (.row [(.call 1 0 [(.lit (.i 0))])])]), (.call 1 0 [(.lit (.i 0))])])]), (.lit (.r []))])]) (.call 5 0 [(.lit (.i 5))]))) (.call 6 0 [(.call 3 1 [(.call 3 3 [(.call 0 0 [(.lit (.i 10))]), (.call 2 0 [(.lit (.s ⟨#[102]⟩)), (.row [(.call 2 0 [(.lit (.s ⟨#[103]⟩)), (.row [(.call 1 0 [(.lit (.i 0))])])]), (.call 1 0 [(.lit (.i 0))])])]), (.lit (.r []))]), (.call 1 0 [(.lit (.i 1))]), (.call 3 1 [(.call 0 0 [(.lit (.i 10))]), (.call 2 0 [(.lit (.s ⟨#[102]⟩)), (.row [(.call 2 0 [(.lit (.s ⟨#[103]⟩)), (.row [(.call 1 0 [(.lit (.i 0))])])]), (.call 1 0 [(.lit (.i 0))])])]), (.lit (.r []))])]), (.row [(.mk [(.lit (.i 0)), (.call 5 0 [(.lit (.i 4))])]), (.mk [(.lit (.i 1)), (.call 5 0 [(.lit (.i 5))])])])])) (.eq (.call 7 1 [(.call 3 3 [(.call 3 3 [(.call 0 0 [(.lit (.i 10))]), (.call 2 0 [(.lit (.s ⟨#[102]⟩)), (.row [(.call 2 0 [(.lit (.s ⟨#[103]⟩)), (.row [(.call 1 0 [(.lit (.i 0))])])]), (.call 1 0 [(.lit (.i 0))])])]), (.lit (.r []))]), (.call 1 0 [(.lit (.i 1))]), (.call 3 1 [(.call 0 0 [(.lit (.i 10))]), (.call 2 0 [(.lit (.s ⟨#[102]⟩)), (.row [(.call 2 0 [(.lit (.s ⟨#[103]⟩)), (.row [(.call 1 0 [(.lit (.i 0))])])]), (.call 1 0 [(.lit (.i 0))])])]), (.lit (.r []))])]), (.call 4 0 [(.lit (.i 0))])]) (.lit (.i 0)))) (.ok 1 [(.lit (.i 4))])), (.imp (.and (.and (.and (.eq (.call 3 2 [(.call 3 3 [(.call 0 0 [(.lit (.i 10))]), (.call 2 0 [(.lit (.s ⟨#[102]⟩)), (.row [(.call 2 0 [(.lit (.s ⟨#[103]⟩)), (.row [(.call 1 0 [(.lit (.i 0))])])]), (.call 1 0 [(.lit (.i 0))])])]), (.lit (.r []))]), (.call 1 0 [(.lit (.i 1))]), (.call 3 1 [(.call 0 0 [(.lit (.i 10))]), (.call 2 0 [(.lit (.s ⟨#[102]⟩)), (.row [(.call 2 0 [(.lit (.s ⟨#[103]⟩)), (.row [(.call 1 0 [(.lit (.i 0))])])]), (.call 1 0 [(.lit (.i 0))])])]), (.lit (.r []))])]) (.lit (.i 0))) (.eq (.call 3 0 [(.call 3 3 [(.call 0 0 [(.lit (.i 10))]), (.call 2 0 [(.lit (.s ⟨#[102]⟩)), (.row [(.call 2 0 [(.lit (.s ⟨#[103]⟩)), (.row [(.call 1 0 [(.lit (.i 0))])])]), (.call 1 0 [(.lit (.i 0))])])]), (.lit (.r []))]), (.call 1 0 [(.lit (.i 1))]), (.call 3 1 [(.call 0 0 [(.lit (.i 10))]), (.call 2 0 [(.lit (.s ⟨#[102]⟩)), (.row [(.call 2 0 [(.lit (.s ⟨#[103]⟩)), (.row [(.call 1 0 [(.lit (.i 0))])])]), (.call 1 0 [(.lit (.i 0))])])]), (.lit (.r []))])]) (.call 5 0 [(.lit (.i 5))]))) (.call 6 0 [(.call 3 1 [(.call 3 3 [(.call 0 0 [(.lit (.i 10))]), (.call 2 0 [(.lit (.s ⟨#[102]⟩)), (.row [(.call 2 0 [(.lit (.s ⟨#[103]⟩)), (.row [(.call 1 0 [(.lit (.i 0))])])]), (.call 1 0 [(.lit (.i 0))])])]), (.lit (.r []))]), (.call 1 0 [(.lit (.i 1))]), (.call 3 1 [(.call 0 0 [(.lit (.i 10))]), (.call 2 0 [(.lit (.s ⟨#[102]⟩)), (.row [(.call 2 0 [(.lit (.s ⟨#[103]⟩)), (.row [(.call 1 0 [(.lit (.i 0))])])]), (.call 1 0 [(.lit (.i 0))])])]), (.lit (.r []))])]), (.row [(.mk [(.lit (.i 0)), (.call 5 0 [(.lit (.i 4))])]), (.mk [(.lit (.i 1)), (.call 5 0 [(.lit (.i 5))])])])])) (.eq (.call 7 1 [(.call 3 3 [(.call 3 3 [(.call 0 0 [(.lit (.i 10))]), (.call 2 0 [(.lit (.s ⟨#[102]⟩)), (.row [(.call 2 0 [(.lit (.s ⟨#[103]⟩)), (.row [(.call 1 0 [(.lit (.i 0))])])]), (.call 1 0 [(.lit (.i 0))])])]), (.lit (.r []))]), (.call 1 0 [(.lit (.i 1))]), (.call 3 1 [(.call 0 0 [(.lit (.i 10))]), (.call 2 0 [(.lit (.s ⟨#[102]⟩)), (.row [(.call 2 0 [(.lit (.s ⟨#[103]⟩)), (.row [(.call 1 0 [(.lit (.i 0))])])]), (.call 1 0 [(.lit (.i 0))])])]), (.lit (.r []))])]), (.call 4 0 [(.lit (.i 0))])]) (.lit (.i 0)))) (.ok 2 [(.lit (.s ⟨#[103]⟩)), (.row [(.call 1 0 [(.lit (.i 4))])])])), (.imp (.and (.and (.and (.eq (.call 3 2 [(.call 3 3 [(.call 0 0 [(.lit (.i 10))]), (.call 2 0 [(.lit (.s ⟨#[102]⟩)), (.row [(.call 2 0 [(.lit (.s ⟨#[103]⟩)), (.row [(.call 1 0 [(.lit (.i 0))])])]), (.call 1 0 [(.lit (.i 0))])])]), (.lit (.r []))]), (.call 1 0 [(.lit (.i 1))]), (.call 3 1 [(.call 0 0 [(.lit (.i 10))]), (.call 2 0 [(.lit (.s ⟨#[102]⟩)), (.row [(.call 2 0 [(.lit (.s ⟨#[103]⟩)), (.row [(.call 1 0 [(.lit (.i 0))])])]), (.call 1 0 [(.lit (.i 0))])])]), (.lit (.r []))])]) (.lit (.i 0))) (.eq (.call 3 0 [(.call 3 3 [(.call 0 0 [(.lit (.i 10))]), (.call 2 0 [(.lit (.s ⟨#[102]⟩)), (.row [(.call 2 0 [(.lit (.s ⟨#[103]⟩)), (.row [(.call 1 0 [(.lit (.i 0))])])]), (.call 1 0 [(.lit (.i 0))])])]), (.lit (.r []))]), (.call 1 0 [(.lit (.i 1))]), (.call 3 1 [(.call 0 0 [(.lit (.i 10))]), (.call 2 0 [(.lit (.s ⟨#[102]⟩)), (.row [(.call 2 0 [(.lit (.s ⟨#[103]⟩)), (.row [(.call 1 0 [(.lit (.i 0))])])]), (.call 1 0 [(.lit (.i 0))])])]), (.lit (.r []))])]) (.call 5 0 [(.lit (.i 5))]))) (.call 6 0 [(.call 3 1 [(.call 3 3 [(.call 0 0 [(.lit (.i 10))]), (.call 2 0 [(.lit (.s ⟨#[102]⟩)), (.row [(.call 2 0 [(.lit (.s ⟨#[103]⟩)), (.row [(.call 1 0 [(.lit (.i 0))])])]), (.call 1 0 [(.lit (.i 0))])])]), (.lit (.r []))]), (.call 1 0 [(.lit (.i 1))]), (.call 3 1 [(.call 0 0 [(.lit (.i 10))]), (.call 2 0 [(.lit (.s ⟨#[102]⟩)), (.row [(.call 2 0 [(.lit (.s ⟨#[103]⟩)), (.row [(.call 1 0 [(.lit (.i 0))])])]), (.call 1 0 [(.lit (.i 0))])])]), (.lit (.r []))])]), (.row [(.mk [(.lit (.i 0)), (.call 5 0 [(.lit (.i 4))])]), (.mk [(.lit (.i 1)), (.call 5 0 [(.lit (.i 5))])])])])) (.eq (.call 7 1 [(.call 3 3 [(.call 3 3 [(.call 0 0 [(.lit (.i 10))]), (.call 2 0 [(.lit (.s ⟨#[102]⟩)), (.row [(.call 2 0 [(.lit (.s ⟨#[103]⟩)), (.row [(.call 1 0 [(.lit (.i 0))])])]), (.call 1 0 [(.lit (.i 0))])])]), (.lit (.r []))]), (.call 1 0 [(.lit (.i 1))]), (.call 3 1 [(.call 0 0 [(.lit (.i 10))]), (.call 2 0 [(.lit (.s ⟨#[102]⟩)), (.row [(.call 2 0 [(.lit (.s ⟨#[103]⟩)), (.row [(.call 1 0 [(.lit (.i 0))])])]), (.call 1 0 [(.lit (.i 0))])])]), (.lit (.r []))])]), (.call 4 0 [(.lit (.i 0))])]) (.lit (.i 0)))) (.ok 1 [(.lit (.i 4))])), (.imp (.and (.eq (.call 3 2 [(.call 3 3 [(.call 0 0 [(.lit (.i 10))]), (.call 2 0 [(.lit (.s ⟨#[102]⟩)), (.row [(.call 2 0 [(.lit (.s ⟨#[103]⟩)), (.row [(.call 1 0 [(.lit (.i 0))])])]), (.call 1 0 [(.lit (.i 0))])])]), (.lit (.r []))]), (.call 1 0 [(.lit (.i 1))]), (.call 3 1 [(.call 0 0 [(.lit (.i 10))]), (.call 2 0 [(.lit (.s ⟨#[102]⟩)), (.row [(.call 2 0 [(.lit (.s ⟨#[103]⟩)), (.row [(.call 1 0 [(.lit (.i 0))])])]), (.call 1 0 [(.lit (.i 0))])])]), (.lit (.r []))])]) (.lit (.i 0))) (.eq (.call 3 0 [(.call 3 3 [(.call 0 0 [(.lit (.i 10))]), (.call 2 0 [(.lit (.s ⟨#[102]⟩)), (.row [(.call 2 0 [(.lit (.s ⟨#[103]⟩)), (.row [(.call 1 0 [(.lit (.i 0))])])]), (.call 1 0 [(.lit (.i 0))])])]), (.lit (.r []))]), (.call 1 0 [(.lit (.i 1))]), (.call 3 1 [(.call 0 0 [(.lit (.i 10))]), (.call 2 0 [(.lit (.s ⟨#[102]⟩)), (.row [(.call 2 0 [(.lit (.s ⟨#[103]⟩)), (.row [(.call 1 0 [(.lit (.i 0))])])]), (.call 1 0 [(.lit (.i 0))])])]), (.lit (.r []))])]) (.call 5 0 [(.lit (.i 5))]))) (.ok 6 [(.call 3 1 [(.call 3 3 [(.call 0 0 [(.lit (.i 10))]), (.call 2 0 [(.lit (.s ⟨#[102]⟩)), (.row [(.call 2 0 [(.lit (.s ⟨#[103]⟩)), (.row [(.call 1 0 [(.lit (.i 0))])])]), (.call 1 0 [(.lit (.i 0))])])]), (.lit (.r []))]), (.call 1 0 [(.lit (.i 1))]), (.call 3 1 [(.call 0 0 [(.lit (.i 10))]), (.call 2 0 [(.lit (.s ⟨#[102]⟩)), (.row [(.call 2 0 [(.lit (.s ⟨#[103]⟩)), (.row [(.call 1 0 [(.lit (.i 0))])])]), (.call 1 0 [(.lit (.i 0))])])]), (.lit (.r []))])]), (.row [(.mk [(.lit (.i 0)), (.call 5 0 [(.lit (.i 4))])]), (.mk [(.lit (.i 1)), (.call 5 0 [(.lit (.i 5))])])])])), (.imp (.and (.eq (.call 3 2 [(.call 3 3 [(.call 0 0 [(.lit (.i 10))]), (.call 2 0 [(.lit (.s ⟨#[102]⟩)), (.row [(.call 2 0 [(.lit (.s ⟨#[103]⟩)), (.row [(.call 1 0 [(.lit (.i 0))])])]), (.call 1 0 [(.lit (.i 0))])])]), (.lit (.r []))]), (.call 1 0 [(.lit (.i 1))]), (.call 3 1 [(.call 0 0 [(.lit (.i 10))]), (.call 2 0 [(.lit (.s ⟨#[102]⟩)), (.row [(.call 2 0 [(.lit (.s ⟨#[103]⟩)), (.row [(.call 1 0 [(.lit (.i 0))])])]), (.call 1 0 [(.lit (.i 0))])])]), (.lit (.r []))])]) (.lit (.i 0))) (.eq (.call 3 0 [(.call 3 3 [(.call 0 0 [(.lit (.i 10))]), (.call 2 0 [(.lit (.s ⟨#[102]⟩)), (.row [(.call 2 0 [(.lit (.s ⟨#[103]⟩)), (.row [(.call 1 0 [(.lit (.i 0))])])]), (.call 1 0 [(.lit (.i 0))])])]), (.lit (.r []))]), (.call 1 0 [(.lit (.i 1))]), (.call 3 1 [(.call 0 0 [(.lit (.i 10))]), (.call 2 0 [(.lit (.s ⟨#[102]⟩)), (.row [(.call 2 0 [(.lit (.s ⟨#[103]⟩)), (.row [(.call 1 0 [(.lit (.i 0))])])]), (.call 1 0 [(.lit (.i 0))])])]), (.lit (.r []))])]) (.call 5 0 [(.lit (.i 5))]))) (.ok 5 [(.lit (.i 5))])), (.imp (.and (.eq (.call 3 2 [(.call 3 3 [(.call 0 0 [(.lit (.i 10))]), (.call 2 0 [(.lit (.s ⟨#[102]⟩)), (.row [(.call 2 0 [(.lit (.s ⟨#[103]⟩)), (.row [(.call 1 0 [(.lit (.i 0))])])]), (.call 1 0 [(.lit (.i 0))])])]), (.lit (.r []))]), (.call 1 0 [(.lit (.i 1))]), (.call 3 1 [(.call 0 0 [(.lit (.i 10))]), (.call 2 0 [(.lit (.s ⟨#[102]⟩)), (.row [(.call 2 0 [(.lit (.s ⟨#[103]⟩)), (.row [(.call 1 0 [(.lit (.i 0))])])]), (.call 1 0 [(.lit (.i 0))])])]), (.lit (.r []))])]) (.lit (.i 0))) (.eq (.call 3 0 [(.call 3 3 [(.call 0 0 [(.lit (.i 10))]), (.call 2 0 [(.lit (.s ⟨#[102]⟩)), (.row [(.call 2 0 [(.lit (.s ⟨#[103]⟩)), (.row [(.call 1 0 [(.lit (.i 0))])])]), (.call 1 0 [(.lit (.i 0))])])]), (.lit (.r []))]), (.call 1 0 [(.lit (.i 1))]), (.call 3 1 [(.call 0 0 [(.lit (.i 10))]), (.call 2 0 [(.lit (.s ⟨#[102]⟩)), (.row [(.call 2 0 [(.lit (.s ⟨#[103]⟩)), (.row [(.call 1 0 [(.lit (.i 0))])])]), (.call 1 0 [(.lit (.i 0))])])]), (.lit (.r []))])]) (.call 5 0 [(.lit (.i 5))]))) (.ok 5 [(.lit (.i 5))])), (.imp (.and (.eq (.call 3 2 [(.call 3 3 [(.call 0 0 [(.lit (.i 10))]), (.call 2 0 [(.lit (.s ⟨#[102]⟩)), (.row [(.call 2 0 [(.lit (.s ⟨#[103]⟩)), (.row [(.call 1 0 [(.lit (.i 0))])])]), (.call 1 0 [(.lit (.i 0))])])]), (.lit (.r []))]), (.call 1 0 [(.lit (.i 1))]), (.call 3 1 [(.call 0 0 [(.lit (.i 10))]), (.call 2 0 [(.lit (.s ⟨#[102]⟩)), (.row [(.call 2 0 [(.lit (.s ⟨#[103]⟩)), (.row [(.call 1 0 [(.lit (.i 0))])])]), (.call 1 0 [(.lit (.i 0))])])]), (.lit (.r []))])]) (.lit (.i 0))) (.eq (.call 3 0 [(.call 3 3 [(.call 0 0 [(.lit (.i 10))]), (.call 2 0 [(.lit (.s ⟨#[102]⟩)), (.row [(.call 2 0 [(.lit (.s ⟨#[103]⟩)), (.row [(.call 1 0 [(.lit (.i 0))])])]), (.call 1 0 [(.lit (.i 0))])])]), (.lit (.r []))]), (.call 1 0 [(.lit (.i 1))]), (.call 3 1 [(.call 0 0 [(.lit (.i 10))]), (.call 2 0 [(.lit (.s ⟨#[102]⟩)), (.row [(.call 2 0 [(.lit (.s ⟨#[103]⟩)), (.row [(.call 1 0 [(.lit (.i 0))])])]), (.call 1 0 [(.lit (.i 0))])])]), (.lit (.r []))])]) (.call 5 0 [(.lit (.i 5))]))) (.ok 5 [(.lit (.i 4))])), (.imp (.eq (.call 3 2 [(.call 3 3 [(.call 0 0 [(.lit (.i 10))]), (.call 2 0 [(.lit (.s ⟨#[102]⟩)), (.row [(.call 2 0 [(.lit (.s ⟨#[103]⟩)), (.row [(.call 1 0 [(.lit (.i 0))])])]), (.call 1 0 [(.lit (.i 0))])])]), (.lit (.r []))]), (.call 1 0 [(.lit (.i 1))]), (.call 3 1 [(.call 0 0 [(.lit (.i 10))]), (.call 2 0 [(.lit (.s ⟨#[102]⟩)), (.row [(.call 2 0 [(.lit (.s ⟨#[103]⟩)), (.row [(.call 1 0 [(.lit (.i 0))])])]), (.call 1 0 [(.lit (.i 0))])])]), (.lit (.r []))])]) (.lit (.i 0))) (.ok 5 [(.lit (.i 5))]))] (.leaf [(.and (.and (.and (.and (.and (.and (.and (.eq (.call 3 2 [(.call 3 3 [(.call 0 0 [(.lit (.i 10))]), (.call 2 0 [(.lit (.s ⟨#[102]⟩)), (.row [(.call 2 0 [(.lit (.s ⟨#[103]⟩)), (.row [(.call 1 0 [(.lit (.i 0))])])]), (.call 1 0 [(.lit (.i 0))])])]), (.lit (.r []))]), (.call 1 0 [(.lit (.i 1))]), (.call 3 1 [(.call 0 0 [(.lit (.i 10))]), (.call 2 0 [(.lit (.s ⟨#[102]⟩)), (.row [(.call 2 0 [(.lit (.s ⟨#[103]⟩)), (.row [(.call 1 0 [(.lit (.i 0))])])]), (.call 1 0 [(.lit (.i 0))])])]), (.lit (.r []))])]) (.lit (.i 0))) (.eq (.call 3 0 [(.call 3 3 [(.call 0 0 [(.lit (.i 10))]), (.call 2 0 [(.lit (.s ⟨#[102]⟩)), (.row [(.call 2 0 [(.lit (.s ⟨#[103]⟩)), (.row [(.call 1 0 [(.lit (.i 0))])])]), (.call 1 0 [(.lit (.i 0))])])]), (.lit (.r []))]), (.call 1 0 [(.lit (.i 1))]), (.call 3 1 [(.call 0 0 [(.lit (.i 10))]), (.call 2 0 [(.lit (.s ⟨#[102]⟩)), (.row [(.call 2 0 [(.lit (.s ⟨#[103]⟩)), (.row [(.call 1 0 [(.lit (.i 0))])])]), (.call 1 0 [(.lit (.i 0))])])]), (.lit (.r []))])]) (.call 5 0 [(.lit (.i 5))]))) (.call 6 0 [(.call 3 1 [(.call 3 3 [(.call 0 0 [(.lit (.i 10))]), (.call 2 0 [(.lit (.s ⟨#[102]⟩)), (.row [(.call 2 0 [(.lit (.s ⟨#[103]⟩)), (.row [(.call 1 0 [(.lit (.i 0))])])]), (.call 1 0 [(.lit (.i 0))])])]), (.lit (.r []))]), (.call 1 0 [(.lit (.i 1))]), (.call 3 1 [(.call 0 0 [(.lit (.i 10))]), (.call 2 0 [(.lit (.s ⟨#[102]⟩)), (.row [(.call 2 0 [(.lit (.s ⟨#[103]⟩)), (.row [(.call 1 0 [(.lit (.i 0))])])]), (.call 1 0 [(.lit (.i 0))])])]), (.lit (.r []))])]), (.row [(.mk [(.lit (.i 0)), (.call 5 0 [(.lit (.i 4))])]), (.mk [(.lit (.i 1)), (.call 5 0 [(.lit (.i 5))])])])])) (.eq (.call 7 1 [(.call 3 3 [(.call 3 3 [(.call 0 0 [(.lit (.i 10))]), (.call 2 0 [(.lit (.s ⟨#[102]⟩)), (.row [(.call 2 0 [(.lit (.s ⟨#[103]⟩)), (.row [(.call 1 0 [(.lit (.i 0))])])]), (.call 1 0 [(.lit (.i 0))])])]), (.lit (.r []))]), (.call 1 0 [(.lit (.i 1))]), (.call 3 1 [(.call 0 0 [(.lit (.i 10))]), (.call 2 0 [(.lit (.s ⟨#[102]⟩)), (.row [(.call 2 0 [(.lit (.s ⟨#[103]⟩)), (.row [(.call 1 0 [(.lit (.i 0))])])]), (.call 1 0 [(.lit (.i 0))])])]), (.lit (.r []))])]), (.call 4 0 [(.lit (.i 0))])]) (.lit (.i 0)))) (.call 8 0 [(.call 7 0 [(.call 3 3 [(.call 3 3 [(.call 0 0 [(.lit (.i 10))]), (.call 2 0 [(.lit (.s ⟨#[102]⟩)), (.row [(.call 2 0 [(.lit (.s ⟨#[103]⟩)), (.row [(.call 1 0 [(.lit (.i 0))])])]), (.call 1 0 [(.lit (.i 0))])])]), (.lit (.r []))]), (.call 1 0 [(.lit (.i 1))]), (.call 3 1 [(.call 0 0 [(.lit (.i 10))]), (.call 2 0 [(.lit (.s ⟨#[102]⟩)), (.row [(.call 2 0 [(.lit (.s ⟨#[103]⟩)), (.row [(.call 1 0 [(.lit (.i 0))])])]), (.call 1 0 [(.lit (.i 0))])])]), (.lit (.r []))])]), (.call 4 0 [(.lit (.i 0))])]), (.call 2 0 [(.lit (.s ⟨#[102]⟩)), (.row [(.call 2 0 [(.lit (.s ⟨#[103]⟩)), (.row [(.call 1 0 [(.lit (.i 4))])])]), (.call 1 0 [(.lit (.i 4))])])])])) (.eq (.call 9 0 [(.call 3 3 [(.call 3 3 [(.call 0 0 [(.lit (.i 10))]), (.call 2 0 [(.lit (.s ⟨#[102]⟩)), (.row [(.call 2 0 [(.lit (.s ⟨#[103]⟩)), (.row [(.call 1 0 [(.lit (.i 0))])])]), (.call 1 0 [(.lit (.i 0))])])]), (.lit (.r []))]), (.call 1 0 [(.lit (.i 1))]), (.call 3 1 [(.call 0 0 [(.lit (.i 10))]), (.call 2 0 [(.lit (.s ⟨#[102]⟩)), (.row [(.call 2 0 [(.lit (.s ⟨#[103]⟩)), (.row [(.call 1 0 [(.lit (.i 0))])])]), (.call 1 0 [(.lit (.i 0))])])]), (.lit (.r []))])]), (.call 5 0 [(.lit (.i 2))])]) (.call 5 0 [(.lit (.i 4))]))) (.eq (.call 9 0 [(.call 3 3 [(.call 3 3 [(.call 0 0 [(.lit (.i 10))]), (.call 2 0 [(.lit (.s ⟨#[102]⟩)), (.row [(.call 2 0 [(.lit (.s ⟨#[103]⟩)), (.row [(.call 1 0 [(.lit (.i 0))])])]), (.call 1 0 [(.lit (.i 0))])])]), (.lit (.r []))]), (.call 1 0 [(.lit (.i 1))]), (.call 3 1 [(.call 0 0 [(.lit (.i 10))]), (.call 2 0 [(.lit (.s ⟨#[102]⟩)), (.row [(.call 2 0 [(.lit (.s ⟨#[103]⟩)), (.row [(.call 1 0 [(.lit (.i 0))])])]), (.call 1 0 [(.lit (.i 0))])])]), (.lit (.r []))])]), (.call 5 0 [(.lit (.i 1))])]) (.call 4 0 [(.lit (.i 3))]))) (.eq (.get (.fld (.call 3 3 [(.call 3 3 [(.call 0 0 [(.lit (.i 10))]), (.call 2 0 [(.lit (.s ⟨#[102]⟩)), (.row [(.call 2 0 [(.lit (.s ⟨#[103]⟩)), (.row [(.call 1 0 [(.lit (.i 0))])])]), (.call 1 0 [(.lit (.i 0))])])]), (.lit (.r []))]), (.call 1 0 [(.lit (.i 1))]), (.call 3 1 [(.call 0 0 [(.lit (.i 10))]), (.call 2 0 [(.lit (.s ⟨#[102]⟩)), (.row [(.call 2 0 [(.lit (.s ⟨#[103]⟩)), (.row [(.call 1 0 [(.lit (.i 0))])])]), (.call 1 0 [(.lit (.i 0))])])]), (.lit (.r []))])]) 1) (.lit (.i 1))) (.mk [(.lit (.s ⟨#[103]⟩)), (.lit (.i 1))])))]))))))))))
set_option maxRecDepth 100000 in
theorem code_law30_awake (g0 g1 g2 g3 g4 g5 g6 g7 g8 g9 : List D → Option (List D)) : ∀ cd, Try.f14.body = some cd → treeOf Try.prog [(q1m, g0), (q1u, g1), (q1v, g2), (q1i, g3), (q1j, g4), (q1k, g5), (q1n, g6), (q13, g7), (q1d, g8), (q0q, g9)] ann_law30_awake q1r Try.f14 cd = tree_law30_awake := by
  intro cd h
  injection h with h
  subst h
  kernel_rfl
theorem fok_law30_awake {g0 g1 g2 g3 g4 g5 g6 g7 g8 g9 : List D → Option (List D)} {g : List D → Option (List D)} (h0 : FOk q1m g0) (h1 : FOk q1u g1) (h2 : FOk q1v g2) (h3 : FOk q1i g3) (h4 : FOk q1j g4) (h5 : FOk q1k g5) (h6 : FOk q1n g6) (h7 : FOk q13 g7) (h8 : FOk q1d g8) (h9 : FOk q0q g9) (h : ∀ ds outs, WfA q1r.ars ds → g ds = some outs → tree_law30_awake.go (tblS [(q1m, g0), (q1u, g1), (q1v, g2), (q1i, g3), (q1j, g4), (q1k, g5), (q1n, g6), (q13, g7), (q1d, g8), (q0q, g9)]) (fun o => o = outs) ds fun _ _ => False) : FOk q1r g :=
  q0c ann_law30_awake Try.f14 _ (.cons h0 (.cons h1 (.cons h2 (.cons h3 (.cons h4 (.cons h5 (.cons h6 (.cons h7 (.cons h8 (.cons h9 .nil)))))))))) rfl rfl enter_law30_awake (by decide) fun ds outs hw hg => by rw [code_law30_awake g0 g1 g2 g3 g4 g5 g6 g7 g8 g9 _ rfl]; exact h ds outs hw hg

end Go.Proofs.Ytinclokohcommaa


namespace Go.Proofs.Ytinclokohcommaa
open Go.RowKit
set_option linter.unusedVariables false
set_option linter.unusedSimpArgs false

structure Ce where
  t : Int
  n : Int
structure Un where
  at' : Int
  old : Ce
structure Wk where
  ser : Int
  att : Ce
  val : Ce
structure Sy where
  name : ByteArray
  ar : Int
structure So where
  cs : List Ce
  ys : List Sy
  tr : List Un
  wk : List Wk
  ser : Int
  mx : Int

instance : Inhabited Ce := ⟨⟨0, 0⟩⟩
instance : Inhabited Un := ⟨⟨0, default⟩⟩
instance : Inhabited Wk := ⟨⟨0, default, default⟩⟩
instance : Inhabited Sy := ⟨⟨⟨#[]⟩, 0⟩⟩

def eC (c : Ce) : D := .a [.i c.t, .i c.n]
def eU (u : Un) : D := .a [.i u.at', eC u.old]
def eW (w : Wk) : D := .a [.i w.ser, eC w.att, eC w.val]
def eY (y : Sy) : D := .a [.s y.name, .i y.ar]
def eS (s : So) : D := .a [.r (s.cs.map eC), .r (s.ys.map eY), .r (s.tr.map eU), .r (s.wk.map eW), .i s.ser, .i s.mx]
def dC (d : D) : Ce := ⟨(d.fld 0).int, (d.fld 1).int⟩
def dU (d : D) : Un := ⟨(d.fld 0).int, dC (d.fld 1)⟩
def dW (d : D) : Wk := ⟨(d.fld 0).int, dC (d.fld 1), dC (d.fld 2)⟩
def dY (d : D) : Sy := ⟨(d.fld 0).str, (d.fld 1).int⟩
def dS (d : D) : So := ⟨(d.fld 0).rs.map dC, (d.fld 1).rs.map dY, (d.fld 2).rs.map dU, (d.fld 3).rs.map dW, (d.fld 4).int, (d.fld 5).int⟩

theorem dC_eC (c : Ce) : dC (eC c) = c := rfl
theorem dU_eU (c : Un) : dU (eU c) = c := rfl
theorem dW_eW (c : Wk) : dW (eW c) = c := rfl
theorem dY_eY (c : Sy) : dY (eY c) = c := rfl
theorem map_id' {α : Type} {e : α → D} {d : D → α} (h : ∀ a, d (e a) = a) (l : List α) : (l.map e).map d = l := by
  rw [List.map_map]
  have : d ∘ e = id := funext h
  rw [this, List.map_id]
theorem dS_eS (s : So) : dS (eS s) = s := by
  show So.mk ((s.cs.map eC).map dC) ((s.ys.map eY).map dY) ((s.tr.map eU).map dU) ((s.wk.map eW).map dW) s.ser s.mx = s
  rw [map_id' dC_eC, map_id' dY_eY, map_id' dU_eU, map_id' dW_eW]
theorem eC_inj {a b : Ce} (h : eC a = eC b) : a = b := by rw [← dC_eC a, h, dC_eC b]
theorem eU_inj {a b : Un} (h : eU a = eU b) : a = b := by rw [← dU_eU a, h, dU_eU b]
theorem eW_inj {a b : Wk} (h : eW a = eW b) : a = b := by rw [← dW_eW a, h, dW_eW b]
theorem eY_inj {a b : Sy} (h : eY a = eY b) : a = b := by rw [← dY_eY a, h, dY_eY b]
theorem eS_inj {a b : So} (h : eS a = eS b) : a = b := by rw [← dS_eS a, h, dS_eS b]
theorem eC_eq (a b : Ce) : (eC a = eC b) = (a = b) := propext ⟨eC_inj, fun h => h ▸ rfl⟩
theorem eU_eq (a b : Un) : (eU a = eU b) = (a = b) := propext ⟨eU_inj, fun h => h ▸ rfl⟩
theorem eW_eq (a b : Wk) : (eW a = eW b) = (a = b) := propext ⟨eW_inj, fun h => h ▸ rfl⟩
theorem eY_eq (a b : Sy) : (eY a = eY b) = (a = b) := propext ⟨eY_inj, fun h => h ▸ rfl⟩
theorem eS_eq (a b : So) : (eS a = eS b) = (a = b) := propext ⟨eS_inj, fun h => h ▸ rfl⟩
instance : DecidableEq Ce := fun a b => if h : eC a = eC b then .isTrue (eC_inj h) else .isFalse fun e => h (e ▸ rfl)
instance : DecidableEq Un := fun a b => if h : eU a = eU b then .isTrue (eU_inj h) else .isFalse fun e => h (e ▸ rfl)
instance : DecidableEq Wk := fun a b => if h : eW a = eW b then .isTrue (eW_inj h) else .isFalse fun e => h (e ▸ rfl)
instance : DecidableEq Sy := fun a b => if h : eY a = eY b then .isTrue (eY_inj h) else .isFalse fun e => h (e ▸ rfl)
instance : DecidableEq So := fun a b => if h : eS a = eS b then .isTrue (eS_inj h) else .isFalse fun e => h (e ▸ rfl)
theorem Ce.ext' {a b : Ce} (h1 : a.t = b.t) (h2 : a.n = b.n) : a = b := by
  cases a; cases b; cases h1; cases h2; rfl

theorem eC_0 (c : Ce) : (eC c).fld 0 = .i c.t := rfl
theorem eC_1 (c : Ce) : (eC c).fld 1 = .i c.n := rfl
theorem eU_0 (c : Un) : (eU c).fld 0 = .i c.at' := rfl
theorem eU_1 (c : Un) : (eU c).fld 1 = eC c.old := rfl
theorem eW_0 (c : Wk) : (eW c).fld 0 = .i c.ser := rfl
theorem eW_1 (c : Wk) : (eW c).fld 1 = eC c.att := rfl
theorem eW_2 (c : Wk) : (eW c).fld 2 = eC c.val := rfl
theorem eY_0 (c : Sy) : (eY c).fld 0 = .s c.name := rfl
theorem eY_1 (c : Sy) : (eY c).fld 1 = .i c.ar := rfl
theorem eS_0 (s : So) : (eS s).fld 0 = .r (s.cs.map eC) := rfl
theorem eS_1 (s : So) : (eS s).fld 1 = .r (s.ys.map eY) := rfl
theorem eS_2 (s : So) : (eS s).fld 2 = .r (s.tr.map eU) := rfl
theorem eS_3 (s : So) : (eS s).fld 3 = .r (s.wk.map eW) := rfl
theorem eS_4 (s : So) : (eS s).fld 4 = .i s.ser := rfl
theorem eS_5 (s : So) : (eS s).fld 5 = .i s.mx := rfl
abbrev i64 (n : Int) : Prop := -9223372036854775808 ≤ n ∧ n ≤ 9223372036854775807
def Ce.ok (c : Ce) : Prop := i64 c.t ∧ i64 c.n
def Un.ok (c : Un) : Prop := i64 c.at' ∧ c.old.ok
def Wk.ok (c : Wk) : Prop := i64 c.ser ∧ c.att.ok ∧ c.val.ok
def Sy.ok (c : Sy) : Prop := c.name.size ≤ LIM ∧ i64 c.ar
structure So.ok (s : So) : Prop where
  cs : s.cs.length ≤ 8796093021952 ∧ ∀ c ∈ s.cs, c.ok
  ys : s.ys.length ≤ 5864062014634 ∧ ∀ c ∈ s.ys, c.ok
  tr : s.tr.length ≤ 5864062014634 ∧ ∀ c ∈ s.tr, c.ok
  wk : s.wk.length ≤ 3518437208780 ∧ ∀ c ∈ s.wk, c.ok
  ser : i64 s.ser
  mx : i64 s.mx

theorem wfI {d : D} (h : Wf d (.int .i64)) : ∃ n, d = .i n ∧ i64 n := by
  obtain ⟨n, rfl, hn⟩ := h.int
  exact ⟨n, rfl, rng64.1 hn⟩
theorem wfC {d : D} (h : Wf d T_Cell) : ∃ c, d = eC c ∧ c.ok := by
  obtain ⟨ds, rfl, hl⟩ := h.st_of (fs := [.int .i64, .int .i64]) rfl
  obtain ⟨a, b, rfl, ha, hb⟩ := wfL2 hl
  obtain ⟨x, rfl, hx⟩ := wfI ha
  obtain ⟨y, rfl, hy⟩ := wfI hb
  exact ⟨⟨x, y⟩, rfl, hx, hy⟩
theorem wfU {d : D} (h : Wf d T_Undo) : ∃ c, d = eU c ∧ c.ok := by
  obtain ⟨ds, rfl, hl⟩ := h.st_of (fs := [.int .i64, T_Cell]) rfl
  obtain ⟨a, b, rfl, ha, hb⟩ := wfL2 hl
  obtain ⟨x, rfl, hx⟩ := wfI ha
  obtain ⟨y, rfl, hy⟩ := wfC hb
  exact ⟨⟨x, y⟩, rfl, hx, hy⟩
theorem wfW {d : D} (h : Wf d T_Wake) : ∃ c, d = eW c ∧ c.ok := by
  obtain ⟨ds, rfl, hl⟩ := h.st_of (fs := [.int .i64, T_Cell, T_Cell]) rfl
  obtain ⟨a, r, rfl, ha, hr⟩ := wfL_cons hl
  obtain ⟨b, c, rfl, hb, hc⟩ := wfL2 hr
  obtain ⟨x, rfl, hx⟩ := wfI ha
  obtain ⟨y, rfl, hy⟩ := wfC hb
  obtain ⟨z, rfl, hz⟩ := wfC hc
  exact ⟨⟨x, y, z⟩, rfl, hx, hy, hz⟩
theorem wfY {d : D} (h : Wf d T_Symbol) : ∃ c, d = eY c ∧ c.ok := by
  obtain ⟨ds, rfl, hl⟩ := h.st_of (fs := [.str, .int .i64]) rfl
  obtain ⟨a, b, rfl, ha, hb⟩ := wfL2 hl
  obtain ⟨x, rfl, hx⟩ := ha.str
  obtain ⟨y, rfl, hy⟩ := wfI hb
  exact ⟨⟨x, y⟩, rfl, hx, hy⟩
theorem wfCs {d : D} (h : Wf d T_Cells) : ∃ l : List Ce, d = .r (l.map eC) ∧ l.length ≤ 8796093021952 ∧ ∀ c ∈ l, c.ok := by
  obtain ⟨l, rfl, h1, h2⟩ := h.row_of (te := T_Cell) rfl
  obtain ⟨m, rfl, h3⟩ := of_all (e := eC) (P := Ce.ok) fun x hx => wfC (h2 x hx)
  have e : LM T_Cell = 8796093021952 := by kernel_rfl
  rw [e, List.length_map] at h1
  exact ⟨m, rfl, h1, h3⟩
theorem wfUs {d : D} (h : Wf d T_Undos) : ∃ l : List Un, d = .r (l.map eU) ∧ l.length ≤ 5864062014634 ∧ ∀ c ∈ l, c.ok := by
  obtain ⟨l, rfl, h1, h2⟩ := h.row_of (te := T_Undo) rfl
  obtain ⟨m, rfl, h3⟩ := of_all (e := eU) (P := Un.ok) fun x hx => wfU (h2 x hx)
  have e : LM T_Undo = 5864062014634 := by kernel_rfl
  rw [e, List.length_map] at h1
  exact ⟨m, rfl, h1, h3⟩
theorem wfWs {d : D} (h : Wf d T_Wakes) : ∃ l : List Wk, d = .r (l.map eW) ∧ l.length ≤ 3518437208780 ∧ ∀ c ∈ l, c.ok := by
  obtain ⟨l, rfl, h1, h2⟩ := h.row_of (te := T_Wake) rfl
  obtain ⟨m, rfl, h3⟩ := of_all (e := eW) (P := Wk.ok) fun x hx => wfW (h2 x hx)
  have e : LM T_Wake = 3518437208780 := by kernel_rfl
  rw [e, List.length_map] at h1
  exact ⟨m, rfl, h1, h3⟩
theorem wfYs {d : D} (h : Wf d T_Symbols) : ∃ l : List Sy, d = .r (l.map eY) ∧ l.length ≤ 5864062014634 ∧ ∀ c ∈ l, c.ok := by
  obtain ⟨l, rfl, h1, h2⟩ := h.row_of (te := T_Symbol) rfl
  obtain ⟨m, rfl, h3⟩ := of_all (e := eY) (P := Sy.ok) fun x hx => wfY (h2 x hx)
  have e : LM T_Symbol = 5864062014634 := by kernel_rfl
  rw [e, List.length_map] at h1
  exact ⟨m, rfl, h1, h3⟩
theorem wfS {d : D} (h : Wf d T_Store) : ∃ s, d = eS s ∧ s.ok := by
  obtain ⟨ds, rfl, hl⟩ := h.st_of (fs := [T_Cells, T_Symbols, T_Undos, T_Wakes, .int .i64, .int .i64]) rfl
  obtain ⟨d0, r, rfl, h0, hl⟩ := wfL_cons hl
  obtain ⟨d1, r, rfl, h1, hl⟩ := wfL_cons hl
  obtain ⟨d2, r, rfl, h2, hl⟩ := wfL_cons hl
  obtain ⟨d3, r, rfl, h3, hl⟩ := wfL_cons hl
  obtain ⟨d4, d5, rfl, h4, h5⟩ := wfL2 hl
  obtain ⟨cs, rfl, q0⟩ := wfCs h0
  obtain ⟨ys, rfl, q1⟩ := wfYs h1
  obtain ⟨tr, rfl, q2⟩ := wfUs h2
  obtain ⟨wk, rfl, q3⟩ := wfWs h3
  obtain ⟨x, rfl, q4⟩ := wfI h4
  obtain ⟨y, rfl, q5⟩ := wfI h5
  exact ⟨⟨cs, ys, tr, wk, x, y⟩, rfl, q0, q1, q2, q3, q4, q5⟩
end Go.Proofs.Ytinclokohcommaa


namespace Go.Proofs.Ytinclokohcommaa
open Go.RowKit
set_option linter.unusedVariables false
set_option linter.unusedSimpArgs false

inductive Te where
  | mk (k n : Int) (s : ByteArray) (l : List Te)
instance : Inhabited Te := ⟨.mk 0 0 ⟨#[]⟩ []⟩
def Te.k : Te → Int | .mk k _ _ _ => k
def Te.n : Te → Int | .mk _ n _ _ => n
def Te.s : Te → ByteArray | .mk _ _ s _ => s
def Te.l : Te → List Te | .mk _ _ _ l => l

mutual
theorem Te.ind0 {P : Te → Prop} (h : ∀ k n s l, (∀ t ∈ l, P t) → P (.mk k n s l)) : ∀ t, P t
  | .mk k n s l => h k n s l (Te.inds h l)
theorem Te.inds {P : Te → Prop} (h : ∀ k n s l, (∀ t ∈ l, P t) → P (.mk k n s l)) : ∀ (l : List Te), ∀ t ∈ l, P t
  | [], _, ht => by cases ht
  | u :: l, t, ht => by
    exact (List.mem_cons.1 ht).elim (fun e => e ▸ Te.ind0 h u) fun h' => Te.inds h l t h'
end
theorem Te.ind {P : Te → Prop} (h : ∀ k n s l, (∀ t ∈ l, P t) → P (.mk k n s l)) (t : Te) : P t := Te.ind0 h t

mutual
def eT : Te → D
  | .mk k n s l => .a [.i k, .i n, .s s, .r (eTs l)]
def eTs : List Te → List D
  | [] => []
  | t :: l => eT t :: eTs l
end
theorem eTs_map : ∀ l, eTs l = l.map eT
  | [] => rfl
  | t :: l => by rw [eTs, eTs_map l, List.map_cons]
theorem eT_mk (k n : Int) (s : ByteArray) (l : List Te) : eT (.mk k n s l) = .a [.i k, .i n, .s s, .r (l.map eT)] := by rw [eT, eTs_map]
mutual
def dT : D → Te
  | .a [.i k, .i n, .s s, .r l] => .mk k n s (dTs l)
  | _ => .mk 0 0 ⟨#[]⟩ []
def dTs : List D → List Te
  | [] => []
  | d :: l => dT d :: dTs l
end
mutual
theorem dT_eT : ∀ t, dT (eT t) = t
  | .mk k n s l => by simp only [eT, dT, dTs_eTs l]
theorem dTs_eTs : ∀ l, dTs (eTs l) = l
  | [] => rfl
  | t :: l => by simp only [eTs, dTs, dT_eT t, dTs_eTs l]
end
theorem eT_inj {t u : Te} (h : eT t = eT u) : t = u := by rw [← dT_eT t, h, dT_eT u]
theorem eT_eq (t u : Te) : (eT t = eT u) = (t = u) := propext ⟨eT_inj, fun h => h ▸ rfl⟩
theorem eT_0 (t : Te) : (eT t).fld 0 = .i t.k := by cases t; rfl
theorem eT_1 (t : Te) : (eT t).fld 1 = .i t.n := by cases t; rfl
theorem eT_2 (t : Te) : (eT t).fld 2 = .s t.s := by cases t; rfl
theorem eT_3 (t : Te) : (eT t).fld 3 = .r (t.l.map eT) := by cases t; rw [eT_mk]; rfl
theorem eT_snoc (k n : Int) (s : ByteArray) (l : List Te) (x : Te) : D.a ((eT (.mk k n s l)).fs.set 3 (.r (l.map eT ++ [eT x]))) = eT (.mk k n s (l ++ [x])) := by
  rw [eT_mk, eT_mk]
  simp [D.fs]
def zT : Te := .mk 0 0 ⟨#[]⟩ []
theorem eT_z : D.a [.i 0, .i 0, .s ⟨#[]⟩, .r []] = eT zT := rfl

mutual
def szT : Te → Nat
  | .mk _ _ _ l => szTs l + 1
def szTs : List Te → Nat
  | [] => 0
  | t :: l => szT t + szTs l
end
theorem szTs_mem {t : Te} : ∀ {l : List Te}, t ∈ l → szT t ≤ szTs l
  | u :: l, h => by
    rcases List.mem_cons.1 h with rfl | h
    · rw [szTs]; omega
    · have := szTs_mem h; rw [szTs]; omega
theorem szT_arg {t u : Te} (h : u ∈ t.l) : szT u < szT t := by
  cases t
  have := szTs_mem h
  rw [szT]
  exact Nat.lt_succ_of_le this
theorem szTs_app : ∀ (l m : List Te), szTs (l ++ m) = szTs l + szTs m
  | [], m => by simp [szTs]
  | t :: l, m => by rw [List.cons_append, szTs, szTs, szTs_app l m]; omega
theorem szTs_snoc {l : List Te} {k : Nat} (h : k < l.length) : szTs (l.take (k + 1)) = szTs (l.take k) + szT (l.getD k default) := by
  rw [take_snoc h, szTs_app]
  simp [szTs]
theorem szT_l (t : Te) : szT t = szTs t.l + 1 := by cases t; rw [szT]; rfl

mutual
def okT : Te → Prop
  | .mk k n s l => i64 k ∧ i64 n ∧ s.size ≤ LIM ∧ l.length ≤ 2513169434843 ∧ okTs l
def okTs : List Te → Prop
  | [] => True
  | t :: l => okT t ∧ okTs l
end
theorem okTs_iff : ∀ {l : List Te}, okTs l ↔ ∀ t ∈ l, okT t
  | [] => ⟨fun _ t h => (by cases h), fun _ => trivial⟩
  | t :: l => by rw [okTs, okTs_iff]; simp
theorem okT_mk {k n : Int} {s : ByteArray} {l : List Te} : okT (.mk k n s l) ↔ i64 k ∧ i64 n ∧ s.size ≤ LIM ∧ l.length ≤ 2513169434843 ∧ ∀ t ∈ l, okT t := by rw [okT, okTs_iff]
theorem okT.k {t : Te} (h : okT t) : i64 t.k := by cases t; exact (okT_mk.1 h).1
theorem okT.n {t : Te} (h : okT t) : i64 t.n := by cases t; exact (okT_mk.1 h).2.1
theorem okT.s {t : Te} (h : okT t) : t.s.size ≤ LIM := by cases t; exact (okT_mk.1 h).2.2.1
theorem okT.l {t : Te} (h : okT t) : t.l.length ≤ 2513169434843 := by cases t; exact (okT_mk.1 h).2.2.2.1
theorem wfT_all (d : D) : (Wf d T_Term → ∃ t, d = eT t ∧ okT t) ∧ (Wf d T_Terms → ∃ l : List Te, d = .r (l.map eT) ∧ l.length ≤ 2513169434843 ∧ ∀ t ∈ l, okT t) := by
  have noS : ∀ {d : D}, Wf d T_Term → ∃ l, d = .a l := fun h => let ⟨l, e, _⟩ := h.st_of (fs := [.int .i64, .int .i64, .str, T_Terms]) rfl; ⟨l, e⟩
  have noR : ∀ {d : D}, Wf d T_Terms → ∃ l, d = .r l := fun h => let ⟨l, e, _⟩ := h.row_of (te := T_Term) rfl; ⟨l, e⟩
  induction d using D.ind with
  | hu => exact ⟨fun h => (by obtain ⟨_, e⟩ := noS h; cases e), fun h => (by obtain ⟨_, e⟩ := noR h; cases e)⟩
  | hi n => exact ⟨fun h => (by obtain ⟨_, e⟩ := noS h; cases e), fun h => (by obtain ⟨_, e⟩ := noR h; cases e)⟩
  | hb n => exact ⟨fun h => (by obtain ⟨_, e⟩ := noS h; cases e), fun h => (by obtain ⟨_, e⟩ := noR h; cases e)⟩
  | hs n => exact ⟨fun h => (by obtain ⟨_, e⟩ := noS h; cases e), fun h => (by obtain ⟨_, e⟩ := noR h; cases e)⟩
  | hm n => exact ⟨fun h => (by obtain ⟨_, e⟩ := noS h; cases e), fun h => (by obtain ⟨_, e⟩ := noR h; cases e)⟩
  | ha l ih =>
    refine ⟨fun h => ?_, fun h => (by obtain ⟨_, e⟩ := noR h; cases e)⟩
    obtain ⟨ds, e, hl⟩ := h.st_of (fs := [.int .i64, .int .i64, .str, T_Terms]) rfl
    injection e with e
    subst e
    obtain ⟨d0, r, rfl, h0, hl⟩ := wfL_cons hl
    obtain ⟨d1, r, rfl, h1, hl⟩ := wfL_cons hl
    obtain ⟨d2, d3, rfl, h2, h3⟩ := wfL2 hl
    obtain ⟨k, rfl, hk⟩ := wfI h0
    obtain ⟨n, rfl, hn⟩ := wfI h1
    obtain ⟨s, rfl, hs⟩ := h2.str
    obtain ⟨ts, rfl, h4, h5⟩ := (ih d3 (by simp)).2 h3
    exact ⟨.mk k n s ts, (eT_mk _ _ _ _).symm, okT_mk.2 ⟨hk, hn, hs, h4, h5⟩⟩
  | hr l ih =>
    refine ⟨fun h => (by obtain ⟨_, e⟩ := noS h; cases e), fun h => ?_⟩
    obtain ⟨l', e, h1, h2⟩ := h.row_of (te := T_Term) rfl
    injection e with e
    subst e
    obtain ⟨m, rfl, h3⟩ := of_all (e := eT) (P := okT) fun x hx => (ih x hx).1 (h2 x hx)
    have e : LM T_Term = 2513169434843 := by kernel_rfl
    rw [e, List.length_map] at h1
    exact ⟨m, rfl, h1, h3⟩
theorem wfT {d : D} (h : Wf d T_Term) : ∃ t, d = eT t ∧ okT t := (wfT_all d).1 h
def nodeT (t : Te) : Bool :=
  if t.k = 0 then decide (0 ≤ t.n) && (decide (t.n ≤ 1099511627776) && (decide (t.s = ⟨#[]⟩) && decide ((t.l.length : Int) = 0)))
  else if t.k = 1 then decide (t.s = ⟨#[]⟩) && decide ((t.l.length : Int) = 0)
  else if t.k = 2 then decide (t.n = 0) && (decide ((t.s.size : Int) ≤ 100) && decide ((t.l.length : Int) = 0))
  else if t.k = 3 then decide (t.n = 0) && (decide ((t.s.size : Int) ≤ 100) && (decide (1 ≤ (t.l.length : Int)) && decide ((t.l.length : Int) ≤ 8)))
  else false
mutual
def nodesT : Te → Bool
  | .mk k n s l => nodeT (.mk k n s l) && nodesTs l
def nodesTs : List Te → Bool
  | [] => true
  | t :: l => nodesT t && nodesTs l
end
theorem nodesTs_iff : ∀ {l : List Te}, nodesTs l = true ↔ ∀ t ∈ l, nodesT t = true
  | [] => ⟨fun _ t h => (by cases h), fun _ => rfl⟩
  | t :: l => by rw [nodesTs, Bool.and_eq_true, nodesTs_iff]; simp
theorem nodesT_all (t : Te) : nodesT t = (nodeT t && (List.range t.l.length).all fun i => nodesT (t.l.getD i default)) := by
  cases t with
  | mk k n s l =>
    rw [nodesT]
    congr 1
    rw [Bool.eq_iff_iff, nodesTs_iff, List.all_eq_true]
    refine ⟨fun h i hi => h _ (getD_mem (List.mem_range.1 hi)), fun h t ht => ?_⟩
    obtain ⟨i, hi, rfl⟩ := List.getElem_of_mem ht
    have := h i (List.mem_range.2 hi)
    rwa [show (Te.mk k n s l).l.getD i default = l[i] by simp [Te.l, List.getD_eq_getElem?_getD, List.getElem?_eq_getElem hi]] at this
def validT (t : Te) : Bool := decide (szT t ≤ 2000) && nodesT t

mutual
def idT : Te → Te → Bool
  | .mk k n s l, .mk k' n' s' l' => decide (k = k') && (decide (n = n') && (decide (s = s') && idTs l l'))
def idTs : List Te → List Te → Bool
  | [], [] => true
  | t :: l, u :: m => idT t u && idTs l m
  | _, _ => false
end
mutual
theorem idT_iff : ∀ (t u : Te), idT t u = true ↔ t = u
  | .mk k n s l, .mk k' n' s' l' => by simp [idT, idTs_iff l l']
theorem idTs_iff : ∀ (l m : List Te), idTs l m = true ↔ l = m
  | [], [] => by simp [idTs]
  | t :: l, u :: m => by simp [idTs, idT_iff t u, idTs_iff l m]
  | [], _ :: _ => by simp [idTs]
  | _ :: _, [] => by simp [idTs]
end
instance : DecidableEq Te := fun t u => if h : idT t u = true then .isTrue ((idT_iff t u).1 h) else .isFalse fun e => h ((idT_iff t u).2 e)
end Go.Proofs.Ytinclokohcommaa


namespace Go.Proofs.Ytinclokohcommaa
open Go.RowKit
set_option linter.unusedVariables false
set_option linter.unusedSimpArgs false

def mT (ds : List D) : Nat := szT (dT (ds.getD 0 .u))
def gTi (f : Te → Int) : List D → Option (List D)
  | [t] => some [.i (f (dT t))]
  | _ => none
def gTb (f : Te → Bool) : List D → Option (List D)
  | [t] => some [.b (f (dT t))]
  | _ => none
def gTT (f : Te → Te) : List D → Option (List D)
  | [t] => some [eT (f (dT t))]
  | _ => none
theorem Te_l (k n : Int) (s : ByteArray) (l : List Te) : (Te.mk k n s l).l = l := rfl
theorem get_t {l : List Te} {k : Nat} (h : k < l.length) : (D.r (l.map eT)).get (k : Int) = eT (l.getD k default) := get_n eT h
theorem arg_sz {t : Te} {k : Nat} (h : k < t.l.length) : szT (t.l.getD k default) < szT t := szT_arg (getD_mem h)

theorem nodes_iff (t : Te) : nodesT t = true ↔ nodeT t = true ∧ ∀ j, j < t.l.length → nodesT (t.l.getD j default) = true := by
  rw [nodesT_all, Bool.and_eq_true, List.all_eq_true]
  simp
def gSz1 : List D → Option (List D)
  | [t, m] => if 1 ≤ m.int then some [.i (m.int - min (szT (dT t) : Int) m.int)] else none
  | _ => none
theorem ok_term_Size_1 : FOk q0p gSz1 := fok_cut (m := mT) q30 fun N ih => fok_term_Size_1 ih fun ds outs hw hg => by
  obtain ⟨d, r, rfl, hd, e, r', rfl, he, rfl⟩ := hw
  obtain ⟨t, rfl, ht⟩ := wfT hd
  obtain ⟨m, rfl, hm⟩ := wfI he
  simp only [cutM, mT, gSz1, List.getD_cons_zero, dT_eT, int_i, Option.ite_none_right_eq_some, Option.some.injEq] at hg
  obtain ⟨hsz, h1, rfl⟩ := hg
  have hl := ht.l
  rw [q2f, q05]
  refine ⟨by simp only [q05, go_br, q06, q08, allSay, X.says, X.ev, X.evs, evl, tblS, List.getD_cons_zero, List.getD_cons_succ, List.getElem?_cons_zero, List.getElem?_cons_succ, tt_b, int_i, str_s, rs_r, Option.isSome_some, Option.getD_some, decide_eq_true_eq, decide_eq_false_iff_not, dS_eS, dC_eC, dU_eU, dW_eW, dY_eY, eC_0, eC_1, eU_0, eU_1, eW_0, eW_1, eW_2, eY_0, eY_1, eS_0, eS_1, eS_2, eS_3, eS_4, eS_5, List.length_map, i_inj, b_inj, s_inj, eC_eq, eU_eq, eW_eq, eY_eq, eS_eq, rng64, List.take_succ_cons, List.take_zero, List.nil_append, List.cons_append, decide_true, decide_false, Bool.or_true, true_and, and_true, dT_eT, eT_0, eT_1, eT_2, eT_3, eT_eq, eT_z]; omega, ?_⟩
  rw [go_loop]
  refine ⟨fun st => ∃ k : Nat, k ≤ t.l.length ∧ st = [.i k, .i (m - min ((szTs (t.l.take k) : Int) + 1) m)], fun st => t.l.length - (st.getD 0 .u).int.toNat, ⟨0, Nat.zero_le _, by simp [X.evs, X.ev, szTs, evl, D.int]; omega⟩, ?_⟩
  rintro st - ⟨k, hk, rfl⟩
  rw [go_br]
  refine ⟨fun hlt => ?_, fun hlt => ?_⟩
  · simp only [q05, go_br, q06, q08, allSay, X.says, X.ev, X.evs, evl, tblS, List.getD_cons_zero, List.getD_cons_succ, List.getElem?_cons_zero, List.getElem?_cons_succ, tt_b, int_i, str_s, rs_r, Option.isSome_some, Option.getD_some, decide_eq_true_eq, decide_eq_false_iff_not, dS_eS, dC_eC, dU_eU, dW_eW, dY_eY, eC_0, eC_1, eU_0, eU_1, eW_0, eW_1, eW_2, eY_0, eY_1, eS_0, eS_1, eS_2, eS_3, eS_4, eS_5, List.length_map, i_inj, b_inj, s_inj, eC_eq, eU_eq, eW_eq, eY_eq, eS_eq, rng64, List.take_succ_cons, List.take_zero, List.nil_append, List.cons_append, decide_true, decide_false, Bool.or_true, true_and, and_true, dT_eT, eT_0, eT_1, eT_2, eT_3, eT_eq, eT_z, Bool.and_eq_true] at hlt
    obtain ⟨hkl, hlm⟩ := hlt
    have hkl' : k < t.l.length := by omega
    have ha := arg_sz hkl'
    have hs := szTs_snoc hkl'
    have hmn : 1 ≤ m - min ((szTs (t.l.take k) : Int) + 1) m := by omega
    simp only [q05, go_br, q06, q08, allSay, X.says, X.ev, X.evs, evl, tblS, List.getD_cons_zero, List.getD_cons_succ, List.getElem?_cons_zero, List.getElem?_cons_succ, tt_b, int_i, str_s, rs_r, Option.isSome_some, Option.getD_some, decide_eq_true_eq, decide_eq_false_iff_not, dS_eS, dC_eC, dU_eU, dW_eW, dY_eY, eC_0, eC_1, eU_0, eU_1, eW_0, eW_1, eW_2, eY_0, eY_1, eS_0, eS_1, eS_2, eS_3, eS_4, eS_5, List.length_map, i_inj, b_inj, s_inj, eC_eq, eU_eq, eW_eq, eY_eq, eS_eq, rng64, List.take_succ_cons, List.take_zero, List.nil_append, List.cons_append, decide_true, decide_false, Bool.or_true, true_and, and_true, dT_eT, eT_0, eT_1, eT_2, eT_3, eT_eq, eT_z, get_t hkl', cutM, mT, gSz1, if_pos hmn, if_pos (show szT (t.l.getD k default) < N by omega)]
    refine ⟨⟨by omega, by omega⟩, ⟨by omega, by omega⟩, ?_⟩
    rw [updB, if_pos rfl]
    refine ⟨⟨k + 1, by omega, ?_⟩, ?_⟩
    · rw [hs]
      simp
      omega
    · simp [D.int]
      omega
  · simp only [q05, go_br, q06, q08, allSay, X.says, X.ev, X.evs, evl, tblS, List.getD_cons_zero, List.getD_cons_succ, List.getElem?_cons_zero, List.getElem?_cons_succ, tt_b, int_i, str_s, rs_r, Option.isSome_some, Option.getD_some, decide_eq_true_eq, decide_eq_false_iff_not, dS_eS, dC_eC, dU_eU, dW_eW, dY_eY, eC_0, eC_1, eU_0, eU_1, eW_0, eW_1, eW_2, eY_0, eY_1, eS_0, eS_1, eS_2, eS_3, eS_4, eS_5, List.length_map, i_inj, b_inj, s_inj, eC_eq, eU_eq, eW_eq, eY_eq, eS_eq, rng64, List.take_succ_cons, List.take_zero, List.nil_append, List.cons_append, decide_true, decide_false, Bool.or_true, true_and, and_true, dT_eT, eT_0, eT_1, eT_2, eT_3, eT_eq, eT_z, Bool.and_eq_false_iff] at hlt
    simp only [q05, go_br, q06, q08, allSay, X.says, X.ev, X.evs, evl, tblS, List.getD_cons_zero, List.getD_cons_succ, List.getElem?_cons_zero, List.getElem?_cons_succ, tt_b, int_i, str_s, rs_r, Option.isSome_some, Option.getD_some, decide_eq_true_eq, decide_eq_false_iff_not, dS_eS, dC_eC, dU_eU, dW_eW, dY_eY, eC_0, eC_1, eU_0, eU_1, eW_0, eW_1, eW_2, eY_0, eY_1, eS_0, eS_1, eS_2, eS_3, eS_4, eS_5, List.length_map, i_inj, b_inj, s_inj, eC_eq, eU_eq, eW_eq, eY_eq, eS_eq, rng64, List.take_succ_cons, List.take_zero, List.nil_append, List.cons_append, decide_true, decide_false, Bool.or_true, true_and, and_true, dT_eT, eT_0, eT_1, eT_2, eT_3, eT_eq, eT_z]
    have hz := szT_l t
    have : m - min ((szTs (t.l.take k) : Int) + 1) m = m - min (szT t : Int) m := by
      rcases hlt with h | h
      · have : k = t.l.length := by omega
        subst this
        rw [List.take_length]
        omega
      · have h2 := szTs_app (t.l.take k) (t.l.drop k)
        rw [List.take_append_drop] at h2
        omega
    rw [this]
theorem ok_term_Size : FOk q19 (gTi fun t => min (szT t : Int) 2001) := fok_term_Size ok_term_Size_1 fun ds outs hw hg => by
  obtain ⟨d, r, rfl, hd, rfl⟩ := hw
  obtain ⟨t, rfl, ht⟩ := wfT hd
  simp only [gTi, dT_eT, Option.some.injEq] at hg
  subst hg
  simp [q2t, q05, go_br, q06, q08, allSay, X.says, X.ev, X.evs, evl, tblS, List.getD_cons_zero, List.getD_cons_succ, List.getElem?_cons_zero, List.getElem?_cons_succ, tt_b, int_i, str_s, rs_r, Option.isSome_some, Option.getD_some, decide_eq_true_eq, decide_eq_false_iff_not, dS_eS, dC_eC, dU_eU, dW_eW, dY_eY, eC_0, eC_1, eU_0, eU_1, eW_0, eW_1, eW_2, eY_0, eY_1, eS_0, eS_1, eS_2, eS_3, eS_4, eS_5, List.length_map, i_inj, b_inj, s_inj, eC_eq, eU_eq, eW_eq, eY_eq, eS_eq, rng64, List.take_succ_cons, List.take_zero, List.nil_append, List.cons_append, decide_true, decide_false, Bool.or_true, true_and, and_true, dT_eT, eT_0, eT_1, eT_2, eT_3, eT_eq, eT_z, gSz1]
  omega
theorem ok_term_fits : FOk q0m (gTb nodesT) := fok_cut (m := mT) q3h fun N ih => fok_term_fits ih fun ds outs hw hg => by
  obtain ⟨d, r, rfl, hd, rfl⟩ := hw
  obtain ⟨t, rfl, ht⟩ := wfT hd
  simp only [cutM, mT, gTb, List.getD_cons_zero, dT_eT, int_i, Option.ite_none_right_eq_some, Option.some.injEq] at hg
  obtain ⟨hsz, rfl⟩ := hg
  have hl := ht.l
  have key : ∀ (x : X), x.ev (evl (tblS [(q0m, cutM mT N (gTb nodesT))]) [eT t]) = .b (nodeT t) → Tree.go (tblS [(q0m, cutM mT N (gTb nodesT))]) (fun o => o = [D.b (nodesT t)]) (.loop 12 1 [x, (.lit (.i 0))] (.br (.and (.lt (.tok 2) (.len (.fld (.tok 0) 3))) (.tok 1)) (.need [(.le (.lit (.i 0)) (.tok 2)), (.lt (.tok 2) (.len (.fld (.tok 0) 3))), (.ok 0 [(.get (.fld (.tok 0) 3) (.tok 2))])] (.need [(.rng .i64 (.add (.tok 2) (.lit (.i 1))))] (.back 12 [(.call 0 0 [(.get (.fld (.tok 0) 3) (.tok 2))]), (.add (.tok 2) (.lit (.i 1)))]))) (.leaf [(.tok 1)]))) [eT t] fun _ _ => False := by
    intro x hx
    rw [go_loop]
    refine ⟨fun st => ∃ (k : Nat) (v : Bool), k ≤ t.l.length ∧ st = [.b v, .i k] ∧ (v = true ↔ nodeT t = true ∧ ∀ j, j < k → nodesT (t.l.getD j default) = true), fun st => t.l.length - (st.getD 1 .u).int.toNat, ⟨0, nodeT t, Nat.zero_le _, by simp only [X.evs, hx, X.ev]; rfl, by simp⟩, ?_⟩
    rintro st - ⟨k, v, hk, rfl, hv⟩
    rw [go_br]
    refine ⟨fun hlt => ?_, fun hlt => ?_⟩
    · simp only [q05, go_br, q06, q08, allSay, X.says, X.ev, X.evs, evl, tblS, List.getD_cons_zero, List.getD_cons_succ, List.getElem?_cons_zero, List.getElem?_cons_succ, tt_b, int_i, str_s, rs_r, Option.isSome_some, Option.getD_some, decide_eq_true_eq, decide_eq_false_iff_not, dS_eS, dC_eC, dU_eU, dW_eW, dY_eY, eC_0, eC_1, eU_0, eU_1, eW_0, eW_1, eW_2, eY_0, eY_1, eS_0, eS_1, eS_2, eS_3, eS_4, eS_5, List.length_map, i_inj, b_inj, s_inj, eC_eq, eU_eq, eW_eq, eY_eq, eS_eq, rng64, List.take_succ_cons, List.take_zero, List.nil_append, List.cons_append, decide_true, decide_false, Bool.or_true, true_and, and_true, dT_eT, eT_0, eT_1, eT_2, eT_3, eT_eq, eT_z, Bool.and_eq_true] at hlt
      obtain ⟨hlt, rfl⟩ := hlt
      have hkl' : k < t.l.length := by omega
      have ha := arg_sz hkl'
      simp only [q05, go_br, q06, q08, allSay, X.says, X.ev, X.evs, evl, tblS, List.getD_cons_zero, List.getD_cons_succ, List.getElem?_cons_zero, List.getElem?_cons_succ, tt_b, int_i, str_s, rs_r, Option.isSome_some, Option.getD_some, decide_eq_true_eq, decide_eq_false_iff_not, dS_eS, dC_eC, dU_eU, dW_eW, dY_eY, eC_0, eC_1, eU_0, eU_1, eW_0, eW_1, eW_2, eY_0, eY_1, eS_0, eS_1, eS_2, eS_3, eS_4, eS_5, List.length_map, i_inj, b_inj, s_inj, eC_eq, eU_eq, eW_eq, eY_eq, eS_eq, rng64, List.take_succ_cons, List.take_zero, List.nil_append, List.cons_append, decide_true, decide_false, Bool.or_true, true_and, and_true, dT_eT, eT_0, eT_1, eT_2, eT_3, eT_eq, eT_z, get_t hkl', cutM, mT, gTb, if_pos (show szT (t.l.getD k default) < N by omega)]
      refine ⟨⟨by omega, by omega⟩, ⟨by omega, by omega⟩, ?_⟩
      rw [updB, if_pos rfl]
      have hv' := hv.1 rfl
      refine ⟨⟨k + 1, _, by omega, rfl, ⟨fun h => ⟨hv'.1, upto_succ hv'.2 h⟩, fun h => h.2 k (Nat.lt_succ_self _)⟩⟩, ?_⟩
      simp [D.int]
      omega
    · simp only [q05, go_br, q06, q08, allSay, X.says, X.ev, X.evs, evl, tblS, List.getD_cons_zero, List.getD_cons_succ, List.getElem?_cons_zero, List.getElem?_cons_succ, tt_b, int_i, str_s, rs_r, Option.isSome_some, Option.getD_some, decide_eq_true_eq, decide_eq_false_iff_not, dS_eS, dC_eC, dU_eU, dW_eW, dY_eY, eC_0, eC_1, eU_0, eU_1, eW_0, eW_1, eW_2, eY_0, eY_1, eS_0, eS_1, eS_2, eS_3, eS_4, eS_5, List.length_map, i_inj, b_inj, s_inj, eC_eq, eU_eq, eW_eq, eY_eq, eS_eq, rng64, List.take_succ_cons, List.take_zero, List.nil_append, List.cons_append, decide_true, decide_false, Bool.or_true, true_and, and_true, dT_eT, eT_0, eT_1, eT_2, eT_3, eT_eq, eT_z, Bool.and_eq_false_iff] at hlt
      simp only [q05, go_br, q06, q08, allSay, X.says, X.ev, X.evs, evl, tblS, List.getD_cons_zero, List.getD_cons_succ, List.getElem?_cons_zero, List.getElem?_cons_succ, tt_b, int_i, str_s, rs_r, Option.isSome_some, Option.getD_some, decide_eq_true_eq, decide_eq_false_iff_not, dS_eS, dC_eC, dU_eU, dW_eW, dY_eY, eC_0, eC_1, eU_0, eU_1, eW_0, eW_1, eW_2, eY_0, eY_1, eS_0, eS_1, eS_2, eS_3, eS_4, eS_5, List.length_map, i_inj, b_inj, s_inj, eC_eq, eU_eq, eW_eq, eY_eq, eS_eq, rng64, List.take_succ_cons, List.take_zero, List.nil_append, List.cons_append, decide_true, decide_false, Bool.or_true, true_and, and_true, dT_eT, eT_0, eT_1, eT_2, eT_3, eT_eq, eT_z]
      rw [show v = nodesT t from ?_]
      cases hvv : v with
      | false =>
        cases hh : nodesT t with
        | false => rfl
        | true =>
          have h2 := (nodes_iff t).1 hh
          rw [hv.2 ⟨h2.1, fun j hj => h2.2 j (by omega)⟩] at hvv
          cases hvv
      | true =>
        have : k = t.l.length := by
          rcases hlt with h | h
          · omega
          · rw [hvv] at h; cases h
        subst this
        exact ((nodes_iff t).2 (hv.1 hvv)).symm
  rw [q2s]
  simp only [go_br]
  have e0 : ∀ z : Int, (X.eq (.fld (.tok 0) 0) (.lit (.i z))).ev (evl (tblS [(q0m, cutM mT N (gTb nodesT))]) [eT t]) = .b (decide (t.k = z)) := fun z => by
    simp only [q05, go_br, q06, q08, allSay, X.says, X.ev, X.evs, evl, tblS, List.getD_cons_zero, List.getD_cons_succ, List.getElem?_cons_zero, List.getElem?_cons_succ, tt_b, int_i, str_s, rs_r, Option.isSome_some, Option.getD_some, decide_eq_true_eq, decide_eq_false_iff_not, dS_eS, dC_eC, dU_eU, dW_eW, dY_eY, eC_0, eC_1, eU_0, eU_1, eW_0, eW_1, eW_2, eY_0, eY_1, eS_0, eS_1, eS_2, eS_3, eS_4, eS_5, List.length_map, i_inj, b_inj, s_inj, eC_eq, eU_eq, eW_eq, eY_eq, eS_eq, rng64, List.take_succ_cons, List.take_zero, List.nil_append, List.cons_append, decide_true, decide_false, Bool.or_true, true_and, and_true, dT_eT, eT_0, eT_1, eT_2, eT_3, eT_eq, eT_z]
  simp only [e0, tt_b, decide_eq_true_eq, decide_eq_false_iff_not]
  refine ⟨fun h => key _ ?_, fun h0 => ⟨fun h => key _ ?_, fun h1 => ⟨fun h => key _ ?_, fun h2 => ⟨fun h => key _ ?_, fun h3 => key _ ?_⟩⟩⟩⟩
  all_goals simp only [q05, go_br, q06, q08, allSay, X.says, X.ev, X.evs, evl, tblS, List.getD_cons_zero, List.getD_cons_succ, List.getElem?_cons_zero, List.getElem?_cons_succ, tt_b, int_i, str_s, rs_r, Option.isSome_some, Option.getD_some, decide_eq_true_eq, decide_eq_false_iff_not, dS_eS, dC_eC, dU_eU, dW_eW, dY_eY, eC_0, eC_1, eU_0, eU_1, eW_0, eW_1, eW_2, eY_0, eY_1, eS_0, eS_1, eS_2, eS_3, eS_4, eS_5, List.length_map, i_inj, b_inj, s_inj, eC_eq, eU_eq, eW_eq, eY_eq, eS_eq, rng64, List.take_succ_cons, List.take_zero, List.nil_append, List.cons_append, decide_true, decide_false, Bool.or_true, true_and, and_true, dT_eT, eT_0, eT_1, eT_2, eT_3, eT_eq, eT_z, nodeT]
  · simp [h, Bool.and_assoc]
  · simp [h, Bool.and_assoc]
  · simp [h, Bool.and_assoc]
  · have e8 : decide (0 < (t.l.length : Int)) = decide (1 ≤ (t.l.length : Int)) := rfl
    rw [e8]
    simp [h, Bool.and_assoc]
  · simp [h0, h1, h2, h3]
theorem ok_term_Valid : FOk q0k (gTb validT) := fok_term_Valid ok_term_Size ok_term_fits fun ds outs hw hg => by
  obtain ⟨d, r, rfl, hd, rfl⟩ := hw
  obtain ⟨t, rfl, ht⟩ := wfT hd
  simp only [gTb, dT_eT, Option.some.injEq] at hg
  subst hg
  have e : decide (min (szT t : Int) 2001 ≤ 2000) = decide (szT t ≤ 2000) := by rw [decide_eq_decide]; omega
  simp [q2k, q05, go_br, q06, q08, allSay, X.says, X.ev, X.evs, evl, tblS, List.getD_cons_zero, List.getD_cons_succ, List.getElem?_cons_zero, List.getElem?_cons_succ, tt_b, int_i, str_s, rs_r, Option.isSome_some, Option.getD_some, decide_eq_true_eq, decide_eq_false_iff_not, dS_eS, dC_eC, dU_eU, dW_eW, dY_eY, eC_0, eC_1, eU_0, eU_1, eW_0, eW_1, eW_2, eY_0, eY_1, eS_0, eS_1, eS_2, eS_3, eS_4, eS_5, List.length_map, i_inj, b_inj, s_inj, eC_eq, eU_eq, eW_eq, eY_eq, eS_eq, rng64, List.take_succ_cons, List.take_zero, List.nil_append, List.cons_append, decide_true, decide_false, Bool.or_true, true_and, and_true, dT_eT, eT_0, eT_1, eT_2, eT_3, eT_eq, eT_z, gTi, gTb, validT, e]
theorem ok_term_Clone_1 : FOk q10 (gTT id) := fok_term_Clone_1 fun ds outs hw hg => by
  obtain ⟨d, r, rfl, hd, rfl⟩ := hw
  obtain ⟨t, rfl, ht⟩ := wfT hd
  simp only [gTT, dT_eT, Option.some.injEq] at hg
  subst hg
  simp only [q26, q05, go_br, q06, q08, allSay, X.says, X.ev, X.evs, evl, tblS, List.getD_cons_zero, List.getD_cons_succ, List.getElem?_cons_zero, List.getElem?_cons_succ, tt_b, int_i, str_s, rs_r, Option.isSome_some, Option.getD_some, decide_eq_true_eq, decide_eq_false_iff_not, dS_eS, dC_eC, dU_eU, dW_eW, dY_eY, eC_0, eC_1, eU_0, eU_1, eW_0, eW_1, eW_2, eY_0, eY_1, eS_0, eS_1, eS_2, eS_3, eS_4, eS_5, List.length_map, i_inj, b_inj, s_inj, eC_eq, eU_eq, eW_eq, eY_eq, eS_eq, rng64, List.take_succ_cons, List.take_zero, List.nil_append, List.cons_append, decide_true, decide_false, Bool.or_true, true_and, and_true, dT_eT, eT_0, eT_1, eT_2, eT_3, eT_eq, eT_z, id]
theorem ok_term_apply : FOk q0v (gTT id) := fok_cut (m := mT) q39 fun N ih => fok_term_apply ok_term_Clone_1 ih fun ds outs hw hg => by
  obtain ⟨d, r, rfl, hd, rfl⟩ := hw
  obtain ⟨t, rfl, ht⟩ := wfT hd
  simp only [cutM, mT, gTT, List.getD_cons_zero, dT_eT, int_i, Option.ite_none_right_eq_some, Option.some.injEq] at hg
  obtain ⟨hsz, rfl⟩ := hg
  have hl := ht.l
  rw [q2l, go_br]
  refine ⟨fun h => ?_, fun h => ?_⟩
  · simp only [q05, go_br, q06, q08, allSay, X.says, X.ev, X.evs, evl, tblS, List.getD_cons_zero, List.getD_cons_succ, List.getElem?_cons_zero, List.getElem?_cons_succ, tt_b, int_i, str_s, rs_r, Option.isSome_some, Option.getD_some, decide_eq_true_eq, decide_eq_false_iff_not, dS_eS, dC_eC, dU_eU, dW_eW, dY_eY, eC_0, eC_1, eU_0, eU_1, eW_0, eW_1, eW_2, eY_0, eY_1, eS_0, eS_1, eS_2, eS_3, eS_4, eS_5, List.length_map, i_inj, b_inj, s_inj, eC_eq, eU_eq, eW_eq, eY_eq, eS_eq, rng64, List.take_succ_cons, List.take_zero, List.nil_append, List.cons_append, decide_true, decide_false, Bool.or_true, true_and, and_true, dT_eT, eT_0, eT_1, eT_2, eT_3, eT_eq, eT_z, gTT, id]
  rw [go_loop]
  refine ⟨fun st => ∃ k : Nat, k ≤ t.l.length ∧ st = [.i k, eT (.mk t.k t.n t.s (t.l.take k))], fun st => t.l.length - (st.getD 0 .u).int.toNat, ⟨0, Nat.zero_le _, by simp only [X.evs, X.ev, evl, List.getD_cons_zero, eT_0, eT_1, eT_2, eT_mk]; rfl⟩, ?_⟩
  rintro st - ⟨k, hk, rfl⟩
  rw [go_br]
  refine ⟨fun hlt => ?_, fun hlt => ?_⟩
  · simp only [q05, go_br, q06, q08, allSay, X.says, X.ev, X.evs, evl, tblS, List.getD_cons_zero, List.getD_cons_succ, List.getElem?_cons_zero, List.getElem?_cons_succ, tt_b, int_i, str_s, rs_r, Option.isSome_some, Option.getD_some, decide_eq_true_eq, decide_eq_false_iff_not, dS_eS, dC_eC, dU_eU, dW_eW, dY_eY, eC_0, eC_1, eU_0, eU_1, eW_0, eW_1, eW_2, eY_0, eY_1, eS_0, eS_1, eS_2, eS_3, eS_4, eS_5, List.length_map, i_inj, b_inj, s_inj, eC_eq, eU_eq, eW_eq, eY_eq, eS_eq, rng64, List.take_succ_cons, List.take_zero, List.nil_append, List.cons_append, decide_true, decide_false, Bool.or_true, true_and, and_true, dT_eT, eT_0, eT_1, eT_2, eT_3, eT_eq, eT_z] at hlt
    have hkl' : k < t.l.length := by omega
    have ha := arg_sz hkl'
    simp only [q05, go_br, q06, q08, allSay, X.says, X.ev, X.evs, evl, tblS, List.getD_cons_zero, List.getD_cons_succ, List.getElem?_cons_zero, List.getElem?_cons_succ, tt_b, int_i, str_s, rs_r, Option.isSome_some, Option.getD_some, decide_eq_true_eq, decide_eq_false_iff_not, dS_eS, dC_eC, dU_eU, dW_eW, dY_eY, eC_0, eC_1, eU_0, eU_1, eW_0, eW_1, eW_2, eY_0, eY_1, eS_0, eS_1, eS_2, eS_3, eS_4, eS_5, List.length_map, i_inj, b_inj, s_inj, eC_eq, eU_eq, eW_eq, eY_eq, eS_eq, rng64, List.take_succ_cons, List.take_zero, List.nil_append, List.cons_append, decide_true, decide_false, Bool.or_true, true_and, and_true, dT_eT, eT_0, eT_1, eT_2, eT_3, eT_eq, eT_z, get_t hkl', cutM, mT, gTT, if_pos (show szT (t.l.getD k default) < N by omega), id, Te_l, List.length_take]
    refine ⟨⟨by omega, by omega⟩, by omega, ⟨by omega, by omega⟩, ?_⟩
    rw [updB, if_pos rfl]
    refine ⟨⟨k + 1, by omega, ?_⟩, ?_⟩
    · rw [take_snoc hkl', eT_snoc]
      rfl
    · simp [D.int]
      omega
  · simp only [q05, go_br, q06, q08, allSay, X.says, X.ev, X.evs, evl, tblS, List.getD_cons_zero, List.getD_cons_succ, List.getElem?_cons_zero, List.getElem?_cons_succ, tt_b, int_i, str_s, rs_r, Option.isSome_some, Option.getD_some, decide_eq_true_eq, decide_eq_false_iff_not, dS_eS, dC_eC, dU_eU, dW_eW, dY_eY, eC_0, eC_1, eU_0, eU_1, eW_0, eW_1, eW_2, eY_0, eY_1, eS_0, eS_1, eS_2, eS_3, eS_4, eS_5, List.length_map, i_inj, b_inj, s_inj, eC_eq, eU_eq, eW_eq, eY_eq, eS_eq, rng64, List.take_succ_cons, List.take_zero, List.nil_append, List.cons_append, decide_true, decide_false, Bool.or_true, true_and, and_true, dT_eT, eT_0, eT_1, eT_2, eT_3, eT_eq, eT_z] at hlt ⊢
    have : k = t.l.length := by omega
    subst this
    rw [List.take_length]
    cases t
    rfl
theorem ok_term_Clone : FOk q14 (gTT fun t => if validT t then t else zT) := fok_term_Clone ok_term_Valid ok_term_apply fun ds outs hw hg => by
  obtain ⟨d, r, rfl, hd, rfl⟩ := hw
  obtain ⟨t, rfl, ht⟩ := wfT hd
  simp only [gTT, dT_eT, Option.some.injEq] at hg
  subst hg
  simp only [q2j, q05, go_br, q06, q08, allSay, X.says, X.ev, X.evs, evl, tblS, List.getD_cons_zero, List.getD_cons_succ, List.getElem?_cons_zero, List.getElem?_cons_succ, tt_b, int_i, str_s, rs_r, Option.isSome_some, Option.getD_some, decide_eq_true_eq, decide_eq_false_iff_not, dS_eS, dC_eC, dU_eU, dW_eW, dY_eY, eC_0, eC_1, eU_0, eU_1, eW_0, eW_1, eW_2, eY_0, eY_1, eS_0, eS_1, eS_2, eS_3, eS_4, eS_5, List.length_map, i_inj, b_inj, s_inj, eC_eq, eU_eq, eW_eq, eY_eq, eS_eq, rng64, List.take_succ_cons, List.take_zero, List.nil_append, List.cons_append, decide_true, decide_false, Bool.or_true, true_and, and_true, dT_eT, eT_0, eT_1, eT_2, eT_3, eT_eq, eT_z, gTb, gTT, id]
  cases validT t <;> simp
def gSt (f : ByteArray → Te) : List D → Option (List D)
  | [s] => some [eT (f s.str)]
  | _ => none
def atomT (s : ByteArray) : Te := if s.size ≤ 100 then .mk 2 0 s [] else zT
theorem atomT_ok {s : ByteArray} (h : s.size ≤ 100) : atomT s = .mk 2 0 s [] := if_pos h
theorem ok_term_Atom : FOk q1a (gSt atomT) := fok_term_Atom ok_term_Clone fun ds outs hw hg => by
  obtain ⟨d, r, rfl, hd, rfl⟩ := hw
  obtain ⟨s, rfl, hs⟩ := hd.str
  simp only [gSt, str_s, Option.some.injEq] at hg
  subst hg
  have e : D.a ((D.a ([D.i 0, .i 0, .s ⟨#[]⟩, .r []].set 0 (.i 2))).fs.set 2 (.s s)) = eT (.mk 2 0 s []) := rfl
  simp only [q2r, q05, go_br, q06, q08, allSay, X.says, X.ev, X.evs, evl, tblS, List.getD_cons_zero, List.getD_cons_succ, List.getElem?_cons_zero, List.getElem?_cons_succ, tt_b, int_i, str_s, rs_r, Option.isSome_some, Option.getD_some, decide_eq_true_eq, decide_eq_false_iff_not, dS_eS, dC_eC, dU_eU, dW_eW, dY_eY, eC_0, eC_1, eU_0, eU_1, eW_0, eW_1, eW_2, eY_0, eY_1, eS_0, eS_1, eS_2, eS_3, eS_4, eS_5, List.length_map, i_inj, b_inj, s_inj, eC_eq, eU_eq, eW_eq, eY_eq, eS_eq, rng64, List.take_succ_cons, List.take_zero, List.nil_append, List.cons_append, decide_true, decide_false, Bool.or_true, true_and, and_true, dT_eT, eT_0, eT_1, eT_2, eT_3, eT_eq, eT_z, gTT, fs_a]
  have e2 : D.a (((eT zT).fs.set 0 (.i 2)).set 2 (.s s)) = eT (.mk 2 0 s []) := rfl
  simp only [e2]
  have : validT (.mk 2 0 s []) = decide (s.size ≤ 100) := by
    rw [Bool.eq_iff_iff]
    simp [validT, szT, szTs, nodesT, nodesTs, nodeT, Te.k, Te.n, Te.s, Te.l]
    exact Iff.trans decide_eq_true_iff (Int.ofNat_le (n := 100))
  simp only [dT_eT, this, atomT, decide_eq_true_eq]
def gIt (f : Int → Te) : List D → Option (List D)
  | [n] => some [eT (f n.int)]
  | _ => none
theorem ok_term_Int : FOk q1l (gIt fun n => .mk 1 n ⟨#[]⟩ []) := fok_term_Int fun ds outs hw hg => by
  obtain ⟨d, r, rfl, hd, rfl⟩ := hw
  obtain ⟨n, rfl, hn⟩ := wfI hd
  simp only [gIt, int_i, Option.some.injEq] at hg
  subst hg
  simp only [q32, q05, go_br, q06, q08, allSay, X.says, X.ev, X.evs, evl, tblS, List.getD_cons_zero, List.getD_cons_succ, List.getElem?_cons_zero, List.getElem?_cons_succ, tt_b, int_i, str_s, rs_r, Option.isSome_some, Option.getD_some, decide_eq_true_eq, decide_eq_false_iff_not, dS_eS, dC_eC, dU_eU, dW_eW, dY_eY, eC_0, eC_1, eU_0, eU_1, eW_0, eW_1, eW_2, eY_0, eY_1, eS_0, eS_1, eS_2, eS_3, eS_4, eS_5, List.length_map, i_inj, b_inj, s_inj, eC_eq, eU_eq, eW_eq, eY_eq, eS_eq, rng64, List.take_succ_cons, List.take_zero, List.nil_append, List.cons_append, decide_true, decide_false, Bool.or_true, true_and, and_true, dT_eT, eT_0, eT_1, eT_2, eT_3, eT_eq, eT_z]
  rfl
end Go.Proofs.Ytinclokohcommaa


namespace Go.Proofs.Ytinclokohcommaa
open Go.RowKit
set_option linter.unusedVariables false
set_option linter.unusedSimpArgs false

mutual
/-- The variables in the order of their first occurrence, behind those given. -/
def varsT (vs : List Int) : Te → List Int
  | .mk k n s l => varsTs (if k = 0 ∧ n ∉ vs then vs ++ [n] else vs) l
def varsTs (vs : List Int) : List Te → List Int
  | [] => vs
  | t :: l => varsTs (varsT vs t) l
end
section
variable {f g : Int → Int}
end

end Go.Proofs.Ytinclokohcommaa


namespace Go.Proofs.Ytinclokohcommaa
open Go.RowKit
set_option linter.unusedVariables false
set_option maxRecDepth 100000

def q0l : Ct := ⟨80, [.val (.row 72)], [(.bool, false)], [], none⟩
theorem q4c (args : Array Value) (w : World) : (callFunc q0l.f args).run Try.prog w = .ok (.enter q0l.f args) w := by kernel_rfl
def q31 : Ann := ⟨[0, 2, 3, 5, 8, 12, 13, 14, 15, 36], [(5, ⟨[(2, .bool, false), (14, .int .i64, false), (3, .map 72 4, false)], [], [15, 16, 17, 5, 18, 19, 20, 21, 22, 23, 24, 25, 26, 27, 28, 29, 30, 31, 32, 33, 34, 35, 36, 37, 38, 39, 11], []⟩)]⟩
def q22 : Tree := (.br (.lt (.lit (.i 1048576)) (.len (.tok 0))) (.leaf [(.lit (.b .false))]) (.loop 5 1 [(.lit (.b .false)), (.lit (.i 0)), (.lit (.mp []))] (.br (.lt (.tok 2) (.len (.tok 0))) (.need [(.le (.lit (.i 0)) (.tok 2)), (.lt (.tok 2) (.len (.tok 0)))] (.br (.or (.or (.or (.lt (.lit (.i 100)) (.slen (.fld (.get (.tok 0) (.tok 2)) 0))) (.lt (.fld (.get (.tok 0) (.tok 2)) 1) (.lit (.i 0)))) (.lt (.lit (.i 8)) (.fld (.get (.tok 0) (.tok 2)) 1))) (.fn 0 [(.tok 3), (.get (.tok 0) (.tok 2)), (.lit (.b .false))])) (.leaf [(.lit (.b .false))]) (.need [(.rng .i64 (.add (.tok 2) (.lit (.i 1))))] (.back 5 [(.tok 1), (.add (.tok 2) (.lit (.i 1))), (.fn 2 [(.tok 3), (.get (.tok 0) (.tok 2)), (.lit (.b .true))])])))) (.leaf [(.lit (.b .true))]))))
set_option maxRecDepth 100000 in
theorem code_cells_validSymbols : ∀ cd, Try.f80.body = some cd → treeOf Try.prog [] q31 q0l Try.f80 cd = q22 := by
  intro cd h
  injection h with h
  subst h
  kernel_rfl
theorem fok_cells_validSymbols {g : List D → Option (List D)}  (h : ∀ ds outs, WfA q0l.ars ds → g ds = some outs → q22.go (tblS []) (fun o => o = outs) ds fun _ _ => False) : FOk q0l g :=
  q0c q31 Try.f80 _ .nil rfl rfl q4c (by decide) fun ds outs hw hg => by rw [code_cells_validSymbols  _ rfl]; exact h ds outs hw hg

def q0z : Ct := ⟨108, [.val (.st 26), .val (.int .i64)], [(.bool, false)], [], none⟩
theorem enter_cells_group (args : Array Value) (w : World) : (callFunc q0z.f args).run Try.prog w = .ok (.enter q0z.f args) w := by kernel_rfl
def ann_cells_group : Ann := ⟨[0, 1, 2, 4, 5, 6, 11], []⟩
def q3b : Tree := (.need [(.rng .i64 (.add (.tok 1) (.lit (.i 1)))), (.ok 0 [(.tok 0), (.add (.tok 1) (.lit (.i 1)))])] (.br (.not (.eq (.call 0 0 [(.tok 0), (.add (.tok 1) (.lit (.i 1)))]) (.lit (.i 1)))) (.leaf [(.lit (.b .false))]) (.need [(.ok 0 [(.tok 0), (.add (.tok 1) (.lit (.i 2)))]), (.rng .i64 (.add (.tok 1) (.lit (.i 2)))), (.le (.lit (.i 0)) (.add (.tok 1) (.lit (.i 1)))), (.lt (.add (.tok 1) (.lit (.i 1))) (.len (.fld (.tok 0) 0))), (.rng .i64 (.add (.tok 1) (.lit (.i 1))))] (.leaf [(.and (.and (.and (.and (.le (.lit (.i 1)) (.fld (.get (.fld (.tok 0) 0) (.add (.tok 1) (.lit (.i 1)))) 1)) (.le (.fld (.get (.fld (.tok 0) 0) (.add (.tok 1) (.lit (.i 1)))) 1) (.fld (.tok 0) 4))) (.le (.lit (.i 0)) (.call 0 0 [(.tok 0), (.add (.tok 1) (.lit (.i 2)))]))) (.not (.eq (.call 0 0 [(.tok 0), (.add (.tok 1) (.lit (.i 2)))]) (.lit (.i 4))))) (.not (.eq (.call 0 0 [(.tok 0), (.add (.tok 1) (.lit (.i 2)))]) (.lit (.i 5)))))]))))
set_option maxRecDepth 100000 in
theorem code_cells_group (g0 : List D → Option (List D)) : ∀ cd, Try.f108.body = some cd → treeOf Try.prog [(q0a, g0)] ann_cells_group q0z Try.f108 cd = q3b := by
  intro cd h
  injection h with h
  subst h
  kernel_rfl
theorem fok_cells_group {g0 : List D → Option (List D)} {g : List D → Option (List D)} (h0 : FOk q0a g0) (h : ∀ ds outs, WfA q0z.ars ds → g ds = some outs → q3b.go (tblS [(q0a, g0)]) (fun o => o = outs) ds fun _ _ => False) : FOk q0z g :=
  q0c ann_cells_group Try.f108 _ (.cons h0 .nil) rfl rfl enter_cells_group (by decide) fun ds outs hw hg => by rw [code_cells_group g0 _ rfl]; exact h ds outs hw hg

def q1b : Ct := ⟨81, [.val (.st 26), .val (.int .i64)], [(.bool, false)], [], none⟩
theorem enter_cells_fits (args : Array Value) (w : World) : (callFunc q1b.f args).run Try.prog w = .ok (.enter q1b.f args) w := by kernel_rfl
def ann_cells_fits : Ann := ⟨[0, 1, 2, 4, 5, 6, 7, 8, 15, 16, 23, 30, 41, 42], [(8, ⟨[(4, .bool, false), (7, .int .i64, false)], [], [26, 27, 28, 29, 30, 33, 34, 35, 8, 36, 37, 38, 39, 40, 41, 31, 32], []⟩)]⟩
def q3i : Tree := (.need [(.le (.lit (.i 0)) (.tok 1)), (.lt (.tok 1) (.len (.fld (.tok 0) 0)))] (.br (.eq (.fld (.get (.fld (.tok 0) 0) (.tok 1)) 0) (.lit (.i 4))) (.need [(.ok 0 [(.tok 0), (.fld (.get (.fld (.tok 0) 0) (.tok 1)) 1)])] (.br (.lt (.call 0 0 [(.tok 0), (.fld (.get (.fld (.tok 0) 0) (.tok 1)) 1)]) (.lit (.i 1))) (.leaf [(.lit (.b .false))]) (.need [(.rng .i64 (.add (.tok 1) (.lit (.i 1))))] (.loop 8 2 [(.lit (.b .false)), (.add (.tok 1) (.lit (.i 1)))] (.need [(.rng .i64 (.add (.tok 1) (.call 0 0 [(.tok 0), (.fld (.get (.fld (.tok 0) 0) (.tok 1)) 1)])))] (.br (.le (.tok 3) (.add (.tok 1) (.call 0 0 [(.tok 0), (.fld (.get (.fld (.tok 0) 0) (.tok 1)) 1)]))) (.need [(.ok 1 [(.tok 0), (.tok 3)])] (.br (.or (.lt (.call 1 0 [(.tok 0), (.tok 3)]) (.lit (.i 0))) (.eq (.call 1 0 [(.tok 0), (.tok 3)]) (.lit (.i 4)))) (.leaf [(.lit (.b .false))]) (.need [(.rng .i64 (.add (.tok 3) (.lit (.i 1))))] (.back 8 [(.tok 2), (.add (.tok 3) (.lit (.i 1)))])))) (.leaf [(.lit (.b .true))]))))))) (.br (.eq (.fld (.get (.fld (.tok 0) 0) (.tok 1)) 0) (.lit (.i 5))) (.need [(.imp (.eq (.fld (.get (.fld (.tok 0) 0) (.tok 1)) 1) (.tok 1)) (.ok 2 [(.tok 0), (.tok 1)]))] (.leaf [(.and (.eq (.fld (.get (.fld (.tok 0) 0) (.tok 1)) 1) (.tok 1)) (.call 2 0 [(.tok 0), (.tok 1)]))])) (.need [(.ok 3 [(.tok 0), (.get (.fld (.tok 0) 0) (.tok 1))])] (.leaf [(.call 3 0 [(.tok 0), (.get (.fld (.tok 0) 0) (.tok 1))])])))))
set_option maxRecDepth 100000 in
theorem code_cells_fits (g0 g1 g2 g3 : List D → Option (List D)) : ∀ cd, Try.f81.body = some cd → treeOf Try.prog [(q0i, g0), (q0a, g1), (q0z, g2), (q02, g3)] ann_cells_fits q1b Try.f81 cd = q3i := by
  intro cd h
  injection h with h
  subst h
  kernel_rfl
theorem fok_cells_fits {g0 g1 g2 g3 : List D → Option (List D)} {g : List D → Option (List D)} (h0 : FOk q0i g0) (h1 : FOk q0a g1) (h2 : FOk q0z g2) (h3 : FOk q02 g3) (h : ∀ ds outs, WfA q1b.ars ds → g ds = some outs → q3i.go (tblS [(q0i, g0), (q0a, g1), (q0z, g2), (q02, g3)]) (fun o => o = outs) ds fun _ _ => False) : FOk q1b g :=
  q0c ann_cells_fits Try.f81 _ (.cons h0 (.cons h1 (.cons h2 (.cons h3 .nil)))) rfl rfl enter_cells_fits (by decide) fun ds outs hw hg => by rw [code_cells_fits g0 g1 g2 g3 _ rfl]; exact h ds outs hw hg

def q12 : Ct := ⟨82, [.val (.st 26)], [(.bool, false)], [], none⟩
theorem enter_cells_acyclic (args : Array Value) (w : World) : (callFunc q12.f args).run Try.prog w = .ok (.enter q12.f args) w := by kernel_rfl
def ann_cells_acyclic : Ann := ⟨[0, 1, 2, 3, 4, 5, 6, 7, 9, 16, 17, 18, 25, 46, 53, 54, 55, 56, 57], [(3, ⟨[(2, .bool, false), (17, .int .i64, false), (3, .row 3, false)], [], [18, 19, 4, 5, 20, 6, 21, 22, 23, 24, 25, 26, 27, 28, 29, 30, 31, 32, 33, 34, 35, 36, 37, 7, 38, 39, 40, 41, 42, 43, 44, 45, 46, 47, 48, 49, 50, 51, 52, 53, 54, 55, 56, 57, 58, 59, 9, 60, 61, 62, 63, 64, 13], []⟩),
  (7, ⟨[(5, .row 3, false), (6, .int .i64, false), (2, .bool, false), (3, .row 3, false)], [], [21, 22, 23, 24, 25, 26, 27, 28, 29, 30, 31, 32, 33, 34, 35, 36, 37, 7, 38, 39, 40, 41, 42, 43, 44, 45, 46, 47, 48, 49, 50, 51, 52, 53, 13, 60], []⟩),
  (16, ⟨[(56, .int .i64, false), (3, .row 3, false)], [], [57, 58, 59, 9, 60, 61, 62, 63, 13, 21, 26, 49], []⟩)]⟩
def q2o : Tree := (.need [(.le (.lit (.i 0)) (.len (.fld (.tok 0) 0))), (.le (.len (.fld (.tok 0) 0)) (.lit (.i 16777216)))] (.loop 3 1 [(.lit (.b .false)), (.lit (.i 0)), (.rep (.len (.fld (.tok 0) 0)) (.lit (.i 0)))] (.br (.lt (.tok 2) (.len (.fld (.tok 0) 0))) (.loop 7 4 [(.lit (.r [])), (.tok 2), (.tok 1), (.tok 3)] (.need [(.le (.lit (.i 0)) (.tok 5)), (.lt (.tok 5) (.len (.tok 7)))] (.br (.eq (.get (.tok 7) (.tok 5)) (.lit (.i 0))) (.need [(.le (.lit (.i 0)) (.tok 5)), (.lt (.tok 5) (.len (.tok 7)))] (.need [(.le (.add (.len (.tok 4)) (.lit (.i 1))) (.lit (.i 17592186043904)))] (.need [(.le (.lit (.i 0)) (.tok 5)), (.lt (.tok 5) (.len (.fld (.tok 0) 0)))] (.br (.or (.not (.eq (.fld (.get (.fld (.tok 0) 0) (.tok 5)) 0) (.lit (.i 0)))) (.eq (.fld (.get (.fld (.tok 0) 0) (.tok 5)) 1) (.tok 5))) (.loop 16 8 [(.lit (.i 0)), (.put (.tok 7) (.tok 5) (.lit (.i 1)))] (.br (.lt (.tok 8) (.len (.app (.tok 4) (.row [(.tok 5)])))) (.need [(.le (.lit (.i 0)) (.tok 8)), (.lt (.tok 8) (.len (.app (.tok 4) (.row [(.tok 5)]))))] (.need [(.le (.lit (.i 0)) (.get (.app (.tok 4) (.row [(.tok 5)])) (.tok 8))), (.lt (.get (.app (.tok 4) (.row [(.tok 5)])) (.tok 8)) (.len (.tok 9)))] (.need [(.rng .i64 (.add (.tok 8) (.lit (.i 1))))] (.back 16 [(.add (.tok 8) (.lit (.i 1))), (.put (.tok 9) (.get (.app (.tok 4) (.row [(.tok 5)])) (.tok 8)) (.lit (.i 2)))])))) (.need [(.rng .i64 (.add (.tok 2) (.lit (.i 1))))] (.back 3 [(.tok 6), (.add (.tok 2) (.lit (.i 1))), (.tok 9)])))) (.need [(.le (.lit (.i 0)) (.fld (.get (.fld (.tok 0) 0) (.tok 5)) 1)), (.lt (.fld (.get (.fld (.tok 0) 0) (.tok 5)) 1) (.len (.put (.tok 7) (.tok 5) (.lit (.i 1)))))] (.br (.eq (.get (.put (.tok 7) (.tok 5) (.lit (.i 1))) (.fld (.get (.fld (.tok 0) 0) (.tok 5)) 1)) (.lit (.i 1))) (.leaf [(.lit (.b .false))]) (.back 7 [(.app (.tok 4) (.row [(.tok 5)])), (.fld (.get (.fld (.tok 0) 0) (.tok 5)) 1), (.tok 6), (.put (.tok 7) (.tok 5) (.lit (.i 1)))]))))))) (.loop 16 8 [(.lit (.i 0)), (.tok 7)] (.br (.lt (.tok 8) (.len (.tok 4))) (.need [(.le (.lit (.i 0)) (.tok 8)), (.lt (.tok 8) (.len (.tok 4)))] (.need [(.le (.lit (.i 0)) (.get (.tok 4) (.tok 8))), (.lt (.get (.tok 4) (.tok 8)) (.len (.tok 9)))] (.need [(.rng .i64 (.add (.tok 8) (.lit (.i 1))))] (.back 16 [(.add (.tok 8) (.lit (.i 1))), (.put (.tok 9) (.get (.tok 4) (.tok 8)) (.lit (.i 2)))])))) (.need [(.rng .i64 (.add (.tok 2) (.lit (.i 1))))] (.back 3 [(.tok 6), (.add (.tok 2) (.lit (.i 1))), (.tok 9)]))))))) (.leaf [(.lit (.b .true))]))))
set_option maxRecDepth 100000 in
theorem code_cells_acyclic : ∀ cd, Try.f82.body = some cd → treeOf Try.prog [] ann_cells_acyclic q12 Try.f82 cd = q2o := by
  intro cd h
  injection h with h
  subst h
  kernel_rfl
theorem fok_cells_acyclic {g : List D → Option (List D)}  (h : ∀ ds outs, WfA q12.ars ds → g ds = some outs → q2o.go (tblS []) (fun o => o = outs) ds fun _ _ => False) : FOk q12 g :=
  q0c ann_cells_acyclic Try.f82 _ .nil rfl rfl enter_cells_acyclic (by decide) fun ds outs hw hg => by rw [code_cells_acyclic  _ rfl]; exact h ds outs hw hg

def q0w : Ct := ⟨83, [.val (.st 26), .val (.st 79)], [(.bool, false)], [], none⟩
theorem enter_cells_validUndo (args : Array Value) (w : World) : (callFunc q0w.f args).run Try.prog w = .ok (.enter q0w.f args) w := by kernel_rfl
def q3s : Ann := ⟨[0, 1, 2, 3, 4, 5, 11, 14, 15, 22, 41], []⟩
def q29 : Tree := (.need [(.ok 0 [(.tok 0), (.fld (.tok 1) 0)])] (.br (.lt (.call 0 0 [(.tok 0), (.fld (.tok 1) 0)]) (.lit (.i 0))) (.leaf [(.lit (.b .false))]) (.br (.eq (.fld (.fld (.tok 1) 1) 0) (.lit (.i 0))) (.leaf [(.eq (.fld (.fld (.tok 1) 1) 1) (.fld (.tok 1) 0))]) (.br (.eq (.fld (.fld (.tok 1) 1) 0) (.lit (.i 5))) (.need [(.imp (.eq (.fld (.fld (.tok 1) 1) 1) (.fld (.tok 1) 0)) (.ok 1 [(.tok 0), (.fld (.tok 1) 0)])), (.imp (.and (.eq (.fld (.fld (.tok 1) 1) 1) (.fld (.tok 1) 0)) (.call 1 0 [(.tok 0), (.fld (.tok 1) 0)])) (.rng .i64 (.sub (.fld (.tok 1) 0) (.lit (.i 1))))), (.imp (.and (.eq (.fld (.fld (.tok 1) 1) 1) (.fld (.tok 1) 0)) (.call 1 0 [(.tok 0), (.fld (.tok 1) 0)])) (.ok 0 [(.tok 0), (.sub (.fld (.tok 1) 0) (.lit (.i 1)))]))] (.leaf [(.and (.and (.eq (.fld (.fld (.tok 1) 1) 1) (.fld (.tok 1) 0)) (.call 1 0 [(.tok 0), (.fld (.tok 1) 0)])) (.not (.eq (.call 0 0 [(.tok 0), (.sub (.fld (.tok 1) 0) (.lit (.i 1)))]) (.lit (.i 5)))))])) (.br (.eq (.fld (.fld (.tok 1) 1) 0) (.lit (.i 1))) (.br (.eq (.fld (.fld (.tok 1) 1) 0) (.lit (.i 1))) (.need [(.ok 2 [(.tok 0), (.fld (.tok 1) 1)])] (.leaf [(.call 2 0 [(.tok 0), (.fld (.tok 1) 1)])])) (.leaf [(.lit (.b .false))])) (.br (.eq (.fld (.fld (.tok 1) 1) 0) (.lit (.i 2))) (.br (.eq (.fld (.fld (.tok 1) 1) 0) (.lit (.i 2))) (.need [(.ok 2 [(.tok 0), (.fld (.tok 1) 1)])] (.leaf [(.call 2 0 [(.tok 0), (.fld (.tok 1) 1)])])) (.leaf [(.lit (.b .false))])) (.br (.eq (.fld (.fld (.tok 1) 1) 0) (.lit (.i 3))) (.need [(.ok 2 [(.tok 0), (.fld (.tok 1) 1)])] (.leaf [(.call 2 0 [(.tok 0), (.fld (.tok 1) 1)])])) (.leaf [(.lit (.b .false))]))))))))
set_option maxRecDepth 100000 in
theorem code_cells_validUndo (g0 g1 g2 : List D → Option (List D)) : ∀ cd, Try.f83.body = some cd → treeOf Try.prog [(q0a, g0), (q0z, g1), (q02, g2)] q3s q0w Try.f83 cd = q29 := by
  intro cd h
  injection h with h
  subst h
  kernel_rfl
theorem fok_cells_validUndo {g0 g1 g2 : List D → Option (List D)} {g : List D → Option (List D)} (h0 : FOk q0a g0) (h1 : FOk q0z g1) (h2 : FOk q02 g2) (h : ∀ ds outs, WfA q0w.ars ds → g ds = some outs → q29.go (tblS [(q0a, g0), (q0z, g1), (q02, g2)]) (fun o => o = outs) ds fun _ _ => False) : FOk q0w g :=
  q0c q3s Try.f83 _ (.cons h0 (.cons h1 (.cons h2 .nil))) rfl rfl enter_cells_validUndo (by decide) fun ds outs hw hg => by rw [code_cells_validUndo g0 g1 g2 _ rfl]; exact h ds outs hw hg

def q1t : Ct := ⟨37, [.val (.st 26)], [(.bool, false)], [], none⟩
theorem enter_cells_Valid (args : Array Value) (w : World) : (callFunc q1t.f args).run Try.prog w = .ok (.enter q1t.f args) w := by kernel_rfl
def ann_cells_Valid : Ann := ⟨[0, 1, 2, 3, 5, 7, 34, 37, 38, 39, 44, 48, 50, 51, 52, 53, 59, 62, 63, 64, 65, 91], [(4, ⟨[(2, .bool, false), (38, .int .i64, false)], [], [39, 40, 3, 41, 42, 43, 44, 45], []⟩),
  (12, ⟨[(2, .bool, false), (52, .int .i64, false)], [], [53, 54, 55, 5, 56, 57, 58, 59, 60], []⟩),
  (18, ⟨[(2, .bool, false), (64, .int .i64, false)], [], [65, 66, 67, 7, 68, 69, 70, 71, 72, 73, 74, 75, 76, 77, 78, 79, 80, 81, 82, 83, 84, 85, 86, 87, 88, 89, 90, 91, 92], []⟩)]⟩
def q35 : Tree := (.need [(.imp (.not (.or (.or (.or (.lt (.fld (.tok 0) 5) (.lit (.i 1))) (.lt (.lit (.i 1048576)) (.fld (.tok 0) 5))) (.lt (.fld (.tok 0) 5) (.len (.fld (.tok 0) 0)))) (.lt (.fld (.tok 0) 4) (.lit (.i 0))))) (.ok 0 [(.fld (.tok 0) 1)]))] (.br (.or (.or (.or (.or (.lt (.fld (.tok 0) 5) (.lit (.i 1))) (.lt (.lit (.i 1048576)) (.fld (.tok 0) 5))) (.lt (.fld (.tok 0) 5) (.len (.fld (.tok 0) 0)))) (.lt (.fld (.tok 0) 4) (.lit (.i 0)))) (.not (.call 0 0 [(.fld (.tok 0) 1)]))) (.leaf [(.lit (.b .false))]) (.loop 4 1 [(.lit (.b .false)), (.lit (.i 0))] (.br (.lt (.tok 2) (.len (.fld (.tok 0) 0))) (.need [(.ok 1 [(.tok 0), (.tok 2)])] (.br (.not (.call 1 0 [(.tok 0), (.tok 2)])) (.leaf [(.lit (.b .false))]) (.need [(.rng .i64 (.add (.tok 2) (.lit (.i 1))))] (.back 4 [(.tok 1), (.add (.tok 2) (.lit (.i 1)))])))) (.need [(.ok 2 [(.tok 0)])] (.br (.not (.call 2 0 [(.tok 0)])) (.leaf [(.lit (.b .false))]) (.loop 12 3 [(.tok 1), (.lit (.i 0))] (.br (.lt (.tok 4) (.len (.fld (.tok 0) 2))) (.need [(.le (.lit (.i 0)) (.tok 4)), (.lt (.tok 4) (.len (.fld (.tok 0) 2)))] (.need [(.ok 3 [(.tok 0), (.get (.fld (.tok 0) 2) (.tok 4))])] (.br (.not (.call 3 0 [(.tok 0), (.get (.fld (.tok 0) 2) (.tok 4))])) (.leaf [(.lit (.b .false))]) (.need [(.rng .i64 (.add (.tok 4) (.lit (.i 1))))] (.back 12 [(.tok 3), (.add (.tok 4) (.lit (.i 1)))]))))) (.loop 18 5 [(.tok 3), (.lit (.i 0))] (.br (.lt (.tok 6) (.len (.fld (.tok 0) 3))) (.need [(.le (.lit (.i 0)) (.tok 6)), (.lt (.tok 6) (.len (.fld (.tok 0) 3)))] (.need [(.imp (.not (.or (.lt (.fld (.get (.fld (.tok 0) 3) (.tok 6)) 0) (.lit (.i 1))) (.lt (.fld (.tok 0) 4) (.fld (.get (.fld (.tok 0) 3) (.tok 6)) 0)))) (.ok 4 [(.tok 0), (.fld (.get (.fld (.tok 0) 3) (.tok 6)) 1)])), (.imp (.not (.or (.or (.lt (.fld (.get (.fld (.tok 0) 3) (.tok 6)) 0) (.lit (.i 1))) (.lt (.fld (.tok 0) 4) (.fld (.get (.fld (.tok 0) 3) (.tok 6)) 0))) (.not (.call 4 0 [(.tok 0), (.fld (.get (.fld (.tok 0) 3) (.tok 6)) 1)])))) (.ok 4 [(.tok 0), (.fld (.get (.fld (.tok 0) 3) (.tok 6)) 2)]))] (.br (.or (.or (.or (.lt (.fld (.get (.fld (.tok 0) 3) (.tok 6)) 0) (.lit (.i 1))) (.lt (.fld (.tok 0) 4) (.fld (.get (.fld (.tok 0) 3) (.tok 6)) 0))) (.not (.call 4 0 [(.tok 0), (.fld (.get (.fld (.tok 0) 3) (.tok 6)) 1)]))) (.not (.call 4 0 [(.tok 0), (.fld (.get (.fld (.tok 0) 3) (.tok 6)) 2)]))) (.leaf [(.lit (.b .false))]) (.need [(.rng .i64 (.add (.tok 6) (.lit (.i 1))))] (.back 18 [(.tok 5), (.add (.tok 6) (.lit (.i 1)))]))))) (.leaf [(.lit (.b .true))])))))))))))
set_option maxRecDepth 100000 in
theorem code_cells_Valid (g0 g1 g2 g3 g4 : List D → Option (List D)) : ∀ cd, Try.f37.body = some cd → treeOf Try.prog [(q0l, g0), (q1b, g1), (q12, g2), (q0w, g3), (q02, g4)] ann_cells_Valid q1t Try.f37 cd = q35 := by
  intro cd h
  injection h with h
  subst h
  kernel_rfl
theorem fok_cells_Valid {g0 g1 g2 g3 g4 : List D → Option (List D)} {g : List D → Option (List D)} (h0 : FOk q0l g0) (h1 : FOk q1b g1) (h2 : FOk q12 g2) (h3 : FOk q0w g3) (h4 : FOk q02 g4) (h : ∀ ds outs, WfA q1t.ars ds → g ds = some outs → q35.go (tblS [(q0l, g0), (q1b, g1), (q12, g2), (q0w, g3), (q02, g4)]) (fun o => o = outs) ds fun _ _ => False) : FOk q1t g :=
  q0c ann_cells_Valid Try.f37 _ (.cons h0 (.cons h1 (.cons h2 (.cons h3 (.cons h4 .nil))))) rfl rfl enter_cells_Valid (by decide) fun ds outs hw hg => by rw [code_cells_Valid g0 g1 g2 g3 g4 _ rfl]; exact h ds outs hw hg

end Go.Proofs.Ytinclokohcommaa


namespace Go.Proofs.Ytinclokohcommaa
open Go.RowKit
set_option linter.unusedVariables false
set_option linter.unusedSimpArgs false

def cellAt (s : So) (i : Int) : Ce := s.cs.getD i.toNat default
def inS (s : So) (i : Int) : Bool := decide (0 ≤ i) && decide (i < s.cs.length)
def tagS (s : So) (i : Int) : Int := if inS s i then (cellAt s i).t else -1
def arS (s : So) (n : Int) : Int := if 0 ≤ n ∧ n < s.ys.length then (s.ys.getD n.toNat default).ar else -1
def vcR (s : So) (c : Ce) : Bool := if c.t = 0 then inS s c.n && !decide (tagS s c.n = 4) else if c.t = 1 then true else if c.t = 2 then decide (arS s c.n = 0) else if c.t = 3 then decide (tagS s c.n = 4) else if c.t = 5 then decide (tagS s c.n = 5) else false
def vcP (s : So) (c : Ce) : Bool := if c.t = 0 then decide (0 ≤ tagS s c.n) && !decide (tagS s c.n = 4) else if c.t = 1 then true else if c.t = 2 then decide (arS s c.n = 0) else if c.t = 3 then decide (tagS s c.n = 4) else if c.t = 5 then decide (tagS s c.n = 5) else false
def groupS (s : So) (i : Int) : Bool := decide (tagS s (i + 1) = 1) && (decide (1 ≤ (cellAt s (i + 1)).n) && (decide ((cellAt s (i + 1)).n ≤ s.ser) && (decide (0 ≤ tagS s (i + 2)) && (!decide (tagS s (i + 2) = 4) && !decide (tagS s (i + 2) = 5)))))

def gSIi (f : So → Int → Int) : List D → Option (List D)
  | [s, i] => some [.i (f (dS s) i.int)]
  | _ => none
def gSIb (f : So → Int → Bool) : List D → Option (List D)
  | [s, i] => some [.b (f (dS s) i.int)]
  | _ => none
def gSIbP (q : So → Int → Bool) (f : So → Int → Bool) : List D → Option (List D)
  | [s, i] => if q (dS s) i.int then some [.b (f (dS s) i.int)] else none
  | _ => none
def gSCb (f : So → Ce → Bool) : List D → Option (List D)
  | [s, c] => some [.b (f (dS s) (dC c))]
  | _ => none
def gSUb (f : So → Un → Bool) : List D → Option (List D)
  | [s, c] => some [.b (f (dS s) (dU c))]
  | _ => none
def gSb (f : So → Bool) : List D → Option (List D)
  | [s] => some [.b (f (dS s))]
  | _ => none
def gSbP (q : So → Bool) (f : So → Bool) : List D → Option (List D)
  | [s] => if q (dS s) then some [.b (f (dS s))] else none
  | _ => none

theorem inS_iff {s : So} {i : Int} : inS s i = true ↔ 0 ≤ i ∧ i < s.cs.length := by simp [inS]
theorem cell_get {s : So} {i : Int} (h : inS s i = true) : (D.r (s.cs.map eC)).get i = eC (cellAt s i) := get_r eC (inS_iff.1 h).1 (inS_iff.1 h).2
theorem So.ok.cell {s : So} (hs : s.ok) {i : Int} (h : inS s i = true) : (cellAt s i).ok := hs.cs.2 _ (getD_mem (by have := inS_iff.1 h; omega))
theorem tagS_in {s : So} {i : Int} (h : inS s i = true) : tagS s i = (cellAt s i).t := if_pos h
theorem tagS_out {s : So} {i : Int} (h : inS s i = false) : tagS s i = -1 := if_neg (by rw [h]; decide)

theorem q27 : FOk q0a (gSIi tagS) := fok_cells_tag fun ds outs hw hg => by
  obtain ⟨d, r, rfl, hd, e, r', rfl, he, rfl⟩ := hw
  obtain ⟨s, rfl, hs⟩ := wfS hd
  obtain ⟨i, rfl, hi⟩ := wfI he
  simp only [gSIi, dS_eS, int_i, Option.some.injEq] at hg
  subst hg
  simp only [q2v, Tree.go, allSay, X.says, X.ev, X.evs, evl, tblS, List.getD_cons_zero, List.getD_cons_succ, List.getElem?_cons_zero, List.getElem?_cons_succ, tt_b, int_i, str_s, rs_r, Option.isSome_some, Option.getD_some, decide_eq_true_eq, decide_eq_false_iff_not, dS_eS, dC_eC, dU_eU, dW_eW, dY_eY, eC_0, eC_1, eU_0, eU_1, eW_0, eW_1, eW_2, eY_0, eY_1, eS_0, eS_1, eS_2, eS_3, eS_4, eS_5, List.length_map, i_inj, b_inj, s_inj, eC_eq, eU_eq, eW_eq, eY_eq, eS_eq, rng64, List.take_succ_cons, List.take_zero, List.nil_append, List.cons_append, decide_true, decide_false, Bool.or_true, true_and, and_true, true_and]
  cases h : inS s i with
  | false =>
    have h' : ¬ (0 ≤ i ∧ i < s.cs.length) := fun q => by rw [inS_iff.2 q] at h; cases h
    have h2 : i < 0 ∨ (s.cs.length : Int) ≤ i := by omega
    simp [tagS_out h]
    omega
  | true =>
    have h' := inS_iff.1 h
    have h1 : ¬ i < 0 := by omega
    have h2 : ¬ (s.cs.length : Int) ≤ i := by omega
    simp [cell_get h, eC_0, tagS_in h, h', h1, h2]
theorem ar_get {s : So} {i : Int} (h : 0 ≤ i ∧ i < s.ys.length) : (D.r (s.ys.map eY)).get i = eY (s.ys.getD i.toNat default) := get_r eY h.1 h.2
theorem q40 : FOk q0i (gSIi arS) := fok_cells_arity fun ds outs hw hg => by
  obtain ⟨d, r, rfl, hd, e, r', rfl, he, rfl⟩ := hw
  obtain ⟨s, rfl, hs⟩ := wfS hd
  obtain ⟨i, rfl, hi⟩ := wfI he
  simp only [gSIi, dS_eS, int_i, Option.some.injEq] at hg
  subst hg
  simp only [q2a, Tree.go, allSay, X.says, X.ev, X.evs, evl, tblS, List.getD_cons_zero, List.getD_cons_succ, List.getElem?_cons_zero, List.getElem?_cons_succ, tt_b, int_i, str_s, rs_r, Option.isSome_some, Option.getD_some, decide_eq_true_eq, decide_eq_false_iff_not, dS_eS, dC_eC, dU_eU, dW_eW, dY_eY, eC_0, eC_1, eU_0, eU_1, eW_0, eW_1, eW_2, eY_0, eY_1, eS_0, eS_1, eS_2, eS_3, eS_4, eS_5, List.length_map, i_inj, b_inj, s_inj, eC_eq, eU_eq, eW_eq, eY_eq, eS_eq, rng64, List.take_succ_cons, List.take_zero, List.nil_append, List.cons_append, decide_true, decide_false, Bool.or_true, true_and, and_true, true_and]
  by_cases h : 0 ≤ i ∧ i < s.ys.length
  · have h1 : ¬ i < 0 := by omega
    have h2 : ¬ (s.ys.length : Int) ≤ i := by omega
    simp [ar_get h, eY_1, arS, h, h1, h2]
  · simp [arS, h]
theorem q1p : FOk q02 (gSCb vcP) := q3v q40 q27 fun ds outs hw hg => by
  obtain ⟨d, r, rfl, hd, e, r', rfl, he, rfl⟩ := hw
  obtain ⟨s, rfl, hs⟩ := wfS hd
  obtain ⟨c, rfl, hc⟩ := wfC he
  simp only [gSCb, dS_eS, dC_eC, Option.some.injEq] at hg
  subst hg
  simp only [q21, Tree.go, allSay, X.says, X.ev, X.evs, evl, tblS, List.getD_cons_zero, List.getD_cons_succ, List.getElem?_cons_zero, List.getElem?_cons_succ, tt_b, int_i, str_s, rs_r, Option.isSome_some, Option.getD_some, decide_eq_true_eq, decide_eq_false_iff_not, dS_eS, dC_eC, dU_eU, dW_eW, dY_eY, eC_0, eC_1, eU_0, eU_1, eW_0, eW_1, eW_2, eY_0, eY_1, eS_0, eS_1, eS_2, eS_3, eS_4, eS_5, List.length_map, i_inj, b_inj, s_inj, eC_eq, eU_eq, eW_eq, eY_eq, eS_eq, rng64, List.take_succ_cons, List.take_zero, List.nil_append, List.cons_append, decide_true, decide_false, Bool.or_true, true_and, and_true, gSIi, vcP, true_and]
  by_cases h0 : c.t = 0
  · simp [h0]
  · by_cases h1 : c.t = 1
    · simp [h1]
    · by_cases h2 : c.t = 2
      · simp [h2]
      · by_cases h3 : c.t = 3
        · simp [h3]
        · by_cases h5 : c.t = 5
          · simp [h5]
          · simp [h0, h1, h2, h3, h5]
theorem tag_in {s : So} {i : Int} (h : tagS s i = 1) : inS s i = true := by
  cases hi : inS s i with
  | true => rfl
  | false => rw [tagS_out hi] at h; cases h
theorem ok_cells_group : FOk q0z (gSIbP inS groupS) := fok_cells_group q27 fun ds outs hw hg => by
  obtain ⟨d, r, rfl, hd, e, r', rfl, he, rfl⟩ := hw
  obtain ⟨s, rfl, hs⟩ := wfS hd
  obtain ⟨i, rfl, hi⟩ := wfI he
  simp only [gSIbP, dS_eS, int_i, Option.ite_none_right_eq_some, Option.some.injEq] at hg
  obtain ⟨hin, rfl⟩ := hg
  have h1 := inS_iff.1 hin
  have hl := hs.cs.1
  have r1 : i64 (i + 1) := ⟨by omega, by omega⟩
  have r2 : i64 (i + 2) := ⟨by omega, by omega⟩
  simp only [q3b, Tree.go, allSay, X.says, X.ev, X.evs, evl, tblS, List.getD_cons_zero, List.getD_cons_succ, List.getElem?_cons_zero, List.getElem?_cons_succ, tt_b, int_i, str_s, rs_r, Option.isSome_some, Option.getD_some, decide_eq_true_eq, decide_eq_false_iff_not, dS_eS, dC_eC, dU_eU, dW_eW, dY_eY, eC_0, eC_1, eU_0, eU_1, eW_0, eW_1, eW_2, eY_0, eY_1, eS_0, eS_1, eS_2, eS_3, eS_4, eS_5, List.length_map, i_inj, b_inj, s_inj, eC_eq, eU_eq, eW_eq, eY_eq, eS_eq, rng64, List.take_succ_cons, List.take_zero, List.nil_append, List.cons_append, decide_true, decide_false, Bool.or_true, true_and, and_true, gSIi, true_and, groupS, r1, r2]
  by_cases ht : tagS s (i + 1) = 1
  · have h2 := tag_in ht
    have h3 := inS_iff.1 h2
    simp [ht, cell_get h2, eC_1, h3.1, h3.2, int_i, Bool.and_assoc, rng64, r1.1, r1.2]
  · simp [ht]
end Go.Proofs.Ytinclokohcommaa


namespace Go.Proofs.Ytinclokohcommaa
open Go.RowKit
set_option linter.unusedVariables false
set_option linter.unusedSimpArgs false

theorem mfind_mset {k k' v : D} : ∀ {l : List D}, mfind k (mset k' v l) = if k' = k then some v else mfind k l
  | [] => by simp [mset, mfind, D.fld, D.fs]
  | p :: l => by
    unfold mset
    split
    · rename_i h
      by_cases hk : k' = k
      · simp [mfind, D.fld, D.fs, hk]
      · have : ¬ (p.fld 0 = k) := fun e => hk (h.symm.trans e)
        simp [mfind, D.fld, D.fs, hk, this]
        intro e
        exact absurd e this
    · rename_i h
      unfold mfind
      by_cases hk : p.fld 0 = k
      · have : ¬ (k' = k) := fun e => h (hk.trans e.symm)
        simp [hk, this]
      · simp only [if_neg hk]
        exact mfind_mset

def okY (y : Sy) : Bool := decide (y.name.size ≤ 100) && (decide (0 ≤ y.ar) && decide (y.ar ≤ 8))
def symAt (l : List Sy) (k : Nat) : Bool := okY (l.getD k default) && !decide (l.getD k default ∈ l.take k)
def symsB (l : List Sy) : Bool := decide (l.length ≤ 1048576) && (List.range l.length).all (symAt l)
def gYsb (f : List Sy → Bool) : List D → Option (List D)
  | [l] => some [.b (f (l.rs.map dY))]
  | _ => none

def Seen (x : D) (l : List Sy) (k : Nat) (L : List D) : Prop := ∀ y, mfind (eY y) L = if y ∈ l.take k then some x else none
theorem Seen.nil {x : D} {l : List Sy} : Seen x l 0 [] := fun y => by simp [mfind]
theorem Seen.put {x : D} {l : List Sy} {k : Nat} {L : List D} (h : Seen x l k L) (hk : k < l.length) : Seen x l (k + 1) (mset (eY (l.getD k default)) x L) := fun y => by
  rw [mfind_mset, take_snoc hk, h y]
  generalize l.getD k default = z
  by_cases hy : y = z
  · subst hy; simp
  · have : ¬ (z = y) := fun e => hy e.symm
    simp [eY_eq, this, hy]

theorem ok_cells_validSymbols : FOk q0l (gYsb symsB) := fok_cells_validSymbols fun ds outs hw hg => by
  obtain ⟨d, r, rfl, hd, rfl⟩ := hw
  obtain ⟨l, rfl, hl, hok⟩ := wfYs hd
  simp only [gYsb, rs_r, map_id' dY_eY, Option.some.injEq] at hg
  subst hg
  simp only [q22, Tree.go, allSay, X.says, X.ev, X.evs, evl, tblS, List.getD_cons_zero, List.getD_cons_succ, List.getElem?_cons_zero, List.getElem?_cons_succ, tt_b, int_i, str_s, rs_r, Option.isSome_some, Option.getD_some, decide_eq_true_eq, decide_eq_false_iff_not, dS_eS, dC_eC, dU_eU, dW_eW, dY_eY, eC_0, eC_1, eU_0, eU_1, eW_0, eW_1, eW_2, eY_0, eY_1, eS_0, eS_1, eS_2, eS_3, eS_4, eS_5, List.length_map, i_inj, b_inj, s_inj, eC_eq, eU_eq, eW_eq, eY_eq, eS_eq, rng64, List.take_succ_cons, List.take_zero, List.nil_append, List.cons_append, decide_true, decide_false, Bool.or_true, true_and, and_true, symsB]
  refine ⟨fun h => ?_, fun h => ?_⟩
  · have : ¬ (l.length ≤ 1048576) := by omega
    simp [this]
  · have h0 : l.length ≤ 1048576 := by omega
    refine ⟨fun st => ∃ (k : Nat) (L : List D), k ≤ l.length ∧ st = [.b false, .i k, .mp L] ∧ (∀ j, j < k → symAt l j = true) ∧ Seen (.b true) l k L, fun st => l.length - (st.getD 1 .u).int.toNat, ⟨0, [], Nat.zero_le _, rfl, (fun j hj => absurd hj (Nat.not_lt_zero _)), Seen.nil⟩, ?_⟩
    rintro st - ⟨k, L, hk, rfl, hP, hL⟩
    simp only [Tree.go, allSay, X.says, X.ev, X.evs, evl, tblS, List.getD_cons_zero, List.getD_cons_succ, List.getElem?_cons_zero, List.getElem?_cons_succ, tt_b, int_i, str_s, rs_r, Option.isSome_some, Option.getD_some, decide_eq_true_eq, decide_eq_false_iff_not, dS_eS, dC_eC, dU_eU, dW_eW, dY_eY, eC_0, eC_1, eU_0, eU_1, eW_0, eW_1, eW_2, eY_0, eY_1, eS_0, eS_1, eS_2, eS_3, eS_4, eS_5, List.length_map, i_inj, b_inj, s_inj, eC_eq, eU_eq, eW_eq, eY_eq, eS_eq, rng64, List.take_succ_cons, List.take_zero, List.nil_append, List.cons_append, decide_true, decide_false, Bool.or_true, true_and, and_true]
    refine ⟨fun hlt => ?_, fun hlt => ?_⟩
    · have hkl : k < l.length := by omega
      have hp : (0 : Int) ≤ k := by omega
      simp only [hlt, hp, get_n eY hkl, eY_0, eY_1, str_s, int_i, true_and, Bool.or_true, decide_true, and_true, Int.toNat_natCast, fnD, ms_mp, hL (l.getD k default)]
      have hr : i64 ((k : Int) + 1) := ⟨by omega, by omega⟩
      have e : ((if l.getD k default ∈ l.take k then some (D.b true) else none).getD (.b false)).tt = decide (l.getD k default ∈ l.take k) := by
        by_cases hm : l.getD k default ∈ l.take k
        · rw [if_pos hm, decide_eq_true hm]; rfl
        · rw [if_neg hm, decide_eq_false hm]; rfl
      rw [e]
      refine ⟨fun hb => ?_, fun hb => ⟨hr, ?_⟩⟩
      · have : symAt l k = false := by
          simp only [symAt, okY]
          generalize l.getD k default = z at hb ⊢
          by_cases hm : z ∈ l.take k
          · simp [hm]
          · simp [hm] at hb ⊢
            intro h1 h2
            omega
        rw [all_not hkl this]
        simp
      · have hs : symAt l k = true := by
          simp only [symAt, okY]
          generalize l.getD k default = z at hb ⊢
          by_cases hm : z ∈ l.take k
          · simp [hm] at hb
          · simp [hm] at hb ⊢
            omega
        rw [updB, if_pos rfl]
        refine ⟨⟨k + 1, _, hkl, ?_, upto_succ hP hs, hL.put hkl⟩, ?_⟩
        · simp
        · simp [D.int]
          omega
    · have : k = l.length := by omega
      subst this
      rw [all_yes hP]
      simp [h0]
end Go.Proofs.Ytinclokohcommaa


namespace Go.Proofs.Ytinclokohcommaa
open Go.RowKit
set_option linter.unusedVariables false
set_option linter.unusedSimpArgs false

theorem symsB_ar {s : So} (h : symsB s.ys = true) (n : Int) : -1 ≤ arS s n ∧ arS s n ≤ 8 := by
  unfold arS
  split
  · rename_i hn
    simp only [symsB, Bool.and_eq_true] at h
    have := all_of h.2 (k := n.toNat) (by omega)
    simp only [symAt, okY, Bool.and_eq_true, decide_eq_true_eq] at this
    omega
  · omega
def endsN (s : So) : Nat → Int → Bool
  | 0, _ => false
  | k + 1, n => if tagS s n = 0 ∧ ¬ (cellAt s n).n = n then endsN s k (cellAt s n).n else true
def endsB (s : So) (n : Int) : Bool := endsN s (s.cs.length + 1) n

theorem tag_in' {s : So} {i : Int} {t : Int} (ht : t ≠ -1) (h : tagS s i = t) : inS s i = true := by
  cases hi : inS s i with
  | true => rfl
  | false => rw [tagS_out hi] at h; exact absurd h.symm ht

def cellR (s : So) (i : Int) : Bool :=
  if (cellAt s i).t = 4 then decide (1 ≤ arS s (cellAt s i).n) && (inS s (i + arS s (cellAt s i).n) && (List.range (arS s (cellAt s i).n).toNat).all fun j => !decide (tagS s (i + ((j : Int) + 1)) = 4))
  else vcR s (cellAt s i) && (endsB s i && (!decide ((cellAt s i).t = 5) || (decide ((cellAt s i).n = i) && groupS s i)))
def cellQ (s : So) (i : Int) : Bool := inS s i && symsB s.ys

def fitsP (s : So) (i : Int) : Bool :=
  if (cellAt s i).t = 4 then decide (1 ≤ arS s (cellAt s i).n) && (List.range (arS s (cellAt s i).n).toNat).all fun j => decide (0 ≤ tagS s (i + ((j : Int) + 1))) && !decide (tagS s (i + ((j : Int) + 1)) = 4)
  else if (cellAt s i).t = 5 then decide ((cellAt s i).n = i) && groupS s i else vcP s (cellAt s i)
theorem ok_cells_fits : FOk q1b (gSIbP cellQ fitsP) := fok_cells_fits q40 q27 ok_cells_group q1p fun ds outs hw hg => by
  obtain ⟨d, r, rfl, hd, e, r', rfl, he, rfl⟩ := hw
  obtain ⟨s, rfl, hs⟩ := wfS hd
  obtain ⟨i, rfl, hi⟩ := wfI he
  simp only [gSIbP, dS_eS, int_i, Option.ite_none_right_eq_some, Option.some.injEq, cellQ, Bool.and_eq_true] at hg
  obtain ⟨⟨hin, hy⟩, rfl⟩ := hg
  have h1 := inS_iff.1 hin
  have hl := hs.cs.1
  obtain ⟨ha, hb⟩ := symsB_ar hy (cellAt s i).n
  simp only [q3i, Tree.go, allSay, X.says, X.ev, X.evs, evl, tblS, List.getD_cons_zero, List.getD_cons_succ, List.getElem?_cons_zero, List.getElem?_cons_succ, tt_b, int_i, str_s, rs_r, Option.isSome_some, Option.getD_some, decide_eq_true_eq, decide_eq_false_iff_not, dS_eS, dC_eC, dU_eU, dW_eW, dY_eY, eC_0, eC_1, eU_0, eU_1, eW_0, eW_1, eW_2, eY_0, eY_1, eS_0, eS_1, eS_2, eS_3, eS_4, eS_5, List.length_map, i_inj, b_inj, s_inj, eC_eq, eU_eq, eW_eq, eY_eq, eS_eq, rng64, List.take_succ_cons, List.take_zero, List.nil_append, List.cons_append, decide_true, decide_false, Bool.or_true, true_and, and_true, gSIi, gSIb, gSCb, gSIbP, cell_get hin, h1.1, h1.2, hin, if_true]
  unfold fitsP
  generalize arS s (cellAt s i).n = K at ha hb ⊢
  refine ⟨fun h4 => ?_, fun h4 => ?_⟩
  · have hr : i64 (i + K) := ⟨by omega, by omega⟩
    have hr1 : i64 (i + 1) := ⟨by omega, by omega⟩
    simp only [h4, hr, hr1, if_true]
    refine ⟨fun hx => ?_, fun hx => ⟨⟨trivial, trivial⟩, ?_⟩⟩
    · have : ¬ (1 ≤ K) := by omega
      simp [this]
    · have hk : 1 ≤ K := by omega
      simp only [hk]
      refine ⟨fun st => ∃ (j : Nat), (j : Int) ≤ K ∧ st = [.b false, .i (i + ((j : Int) + 1))] ∧ ∀ m : Nat, m < j → (decide (0 ≤ tagS s (i + ((m : Int) + 1))) && !decide (tagS s (i + ((m : Int) + 1)) = 4)) = true, fun st => (i + K + 1 - (st.getD 1 .u).int).toNat, ⟨0, by omega, by simp, fun m hm => absurd hm (Nat.not_lt_zero _)⟩, ?_⟩
      rintro st - ⟨j, hj, rfl, hP⟩
      simp only [Tree.go, allSay, X.says, X.ev, X.evs, evl, tblS, List.getD_cons_zero, List.getD_cons_succ, List.getElem?_cons_zero, List.getElem?_cons_succ, tt_b, int_i, str_s, rs_r, Option.isSome_some, Option.getD_some, decide_eq_true_eq, decide_eq_false_iff_not, dS_eS, dC_eC, dU_eU, dW_eW, dY_eY, eC_0, eC_1, eU_0, eU_1, eW_0, eW_1, eW_2, eY_0, eY_1, eS_0, eS_1, eS_2, eS_3, eS_4, eS_5, List.length_map, i_inj, b_inj, s_inj, eC_eq, eU_eq, eW_eq, eY_eq, eS_eq, rng64, List.take_succ_cons, List.take_zero, List.nil_append, List.cons_append, decide_true, decide_false, Bool.or_true, true_and, and_true, gSIi]
      refine ⟨fun hlt => ?_, fun hlt => ?_⟩
      · have hr3 : i64 ((i + ((j : Int) + 1)) + 1) := ⟨by omega, by omega⟩
        refine ⟨fun hx => ?_, fun hx => ⟨hr3, ?_⟩⟩
        · have hx' : tagS s (i + ((j : Int) + 1)) < 0 ∨ tagS s (i + ((j : Int) + 1)) = 4 := by simpa using hx
          rw [all_not (k := j) (by omega)]
          · simp
          · rcases hx' with h | h
            · have : ¬ (0 ≤ tagS s (i + ((j : Int) + 1))) := by omega
              simp [this]
            · simp [h]
        · have hx' : ¬ tagS s (i + ((j : Int) + 1)) < 0 ∧ ¬ tagS s (i + ((j : Int) + 1)) = 4 := by simpa using hx
          rw [updB, if_pos rfl]
          refine ⟨⟨j + 1, by omega, by simp; omega, upto_succ hP (by simp [hx'.2]; omega)⟩, ?_⟩
          simp [D.int]
          omega
      · have : j = K.toNat := by omega
        subst this
        rw [all_yes hP]
        simp
  · simp only [h4, if_false]
    refine ⟨fun hx => ?_, fun hx => ?_⟩
    · simp [hx]
    · simp [hx]

def oldB (vc : So → Ce → Bool) (rg : So → Int → Bool) (s : So) (u : Un) : Bool :=
  rg s u.at' && if u.old.t = 0 then decide (u.old.n = u.at') else if u.old.t = 5 then decide (u.old.n = u.at') && (groupS s u.at' && !decide (tagS s (u.at' - 1) = 5)) else if u.old.t = 1 ∨ u.old.t = 2 ∨ u.old.t = 3 then vc s u.old else false
def oldR : So → Un → Bool := oldB vcR inS
def oldP : So → Un → Bool := oldB vcP fun s i => decide (0 ≤ tagS s i)
theorem ok_cells_validUndo : FOk q0w (gSUb oldP) := fok_cells_validUndo q27 ok_cells_group q1p fun ds outs hw hg => by
  obtain ⟨d, r, rfl, hd, e, r', rfl, he, rfl⟩ := hw
  obtain ⟨s, rfl, hs⟩ := wfS hd
  obtain ⟨u, rfl, hu⟩ := wfU he
  simp only [gSUb, dS_eS, dU_eU, Option.some.injEq] at hg
  subst hg
  have hl := hs.cs.1
  simp only [q29, Tree.go, allSay, X.says, X.ev, X.evs, evl, tblS, List.getD_cons_zero, List.getD_cons_succ, List.getElem?_cons_zero, List.getElem?_cons_succ, tt_b, int_i, str_s, rs_r, Option.isSome_some, Option.getD_some, decide_eq_true_eq, decide_eq_false_iff_not, dS_eS, dC_eC, dU_eU, dW_eW, dY_eY, eC_0, eC_1, eU_0, eU_1, eW_0, eW_1, eW_2, eY_0, eY_1, eS_0, eS_1, eS_2, eS_3, eS_4, eS_5, List.length_map, i_inj, b_inj, s_inj, eC_eq, eU_eq, eW_eq, eY_eq, eS_eq, rng64, List.take_succ_cons, List.take_zero, List.nil_append, List.cons_append, decide_true, decide_false, Bool.or_true, true_and, and_true, gSIi, gSIb, gSCb, gSIbP, oldP, oldB]
  by_cases ht : 0 ≤ tagS s u.at'
  · have ht' : ¬ (tagS s u.at' < 0) := by omega
    have hin : inS s u.at' = true := by
      cases hin : inS s u.at' with
      | true => rfl
      | false => rw [tagS_out hin] at ht; omega
    have h1 := inS_iff.1 hin
    have hr : i64 (u.at' - 1) := ⟨by omega, by omega⟩
    simp only [hr, hin, ht, ht', if_true]
    by_cases h0 : u.old.t = 0
    · simp [h0]
    · by_cases h5 : u.old.t = 5
      · simp [h5, Bool.and_assoc, tt_b, rng64, hr.1, hr.2]
      · by_cases h2 : u.old.t = 1
        · simp [h2]
        · by_cases h3 : u.old.t = 2
          · simp [h3]
          · by_cases h4 : u.old.t = 3
            · simp [h4]
            · simp [h0, h5, h2, h3, h4]
  · have ht' : tagS s u.at' < 0 := by omega
    simp [ht, ht']
end Go.Proofs.Ytinclokohcommaa


namespace Go.Proofs.Ytinclokohcommaa
open Go.RowKit
set_option linter.unusedVariables false
set_option linter.unusedSimpArgs false

section
variable {s : So}

def Ns (s : So) (n : Int) : Prop := tagS s n = 0 ∧ ¬ (cellAt s n).n = n
abbrev nx (s : So) (n : Int) : Int := (cellAt s n).n
theorem endsN_ns {k : Nat} {n : Int} (h : Ns s n) : endsN s (k + 1) n = endsN s k (nx s n) := if_pos h
theorem endsN_st {k : Nat} {n : Int} (h : ¬ Ns s n) : endsN s (k + 1) n = true := if_neg h
theorem Ns.inS {n : Int} (h : Ns s n) : inS s n = true := tag_in' (by decide) h.1
theorem endsN_up {k : Nat} : ∀ {n : Int}, endsN s k n = true → endsN s (k + 1) n = true := by
  induction k with
  | zero => intro n h; cases h
  | succ k ih =>
    intro n h
    by_cases hn : Ns s n
    · rw [endsN_ns hn] at h ⊢
      exact ih h
    · exact endsN_st hn
theorem endsN_le {k j : Nat} (hk : k ≤ j) {n : Int} (h : endsN s k n = true) : endsN s j n = true := by
  obtain ⟨d, rfl⟩ := Nat.exists_eq_add_of_le hk
  clear hk
  induction d with
  | zero => exact h
  | succ d ih => exact endsN_up ih
def En (s : So) (n : Int) : Prop := ∃ k, endsN s k n = true
theorem En.st {n : Int} (h : ¬ Ns s n) : En s n := ⟨1, endsN_st h⟩
theorem En.ns {n : Int} (h : Ns s n) (he : En s (nx s n)) : En s n := let ⟨k, hk⟩ := he; ⟨k + 1, (endsN_ns h).trans hk⟩

theorem nodup_lt : ∀ (n : Nat) (l : List Nat), l.Nodup → (∀ x ∈ l, x < n) → l.length ≤ n
  | 0, [], _, _ => Nat.le_refl _
  | 0, x :: l, _, h => absurd (h x List.mem_cons_self) (Nat.not_lt_zero _)
  | n + 1, l, hn, h => by
    have h1 := nodup_lt n (l.erase n) (hn.erase n) fun x hx => by
      have h2 := (hn.mem_erase_iff).1 hx
      have := h x h2.2
      have := h2.1
      omega
    have h2 := List.length_erase (a := n) (l := l)
    split at h2 <;> omega

theorem rank_list : ∀ (k : Nat) (n : Int), endsN s (k + 1) n = true → endsN s k n = false → ∃ l : List Int, l.length = k ∧ l.Nodup ∧ (∀ x ∈ l, inS s x = true) ∧ ∀ x ∈ l, ∃ j, j ≤ k ∧ endsN s (j + 1) x = true
  | 0, n, _, _ => ⟨[], rfl, List.nodup_nil, (fun x hx => by cases hx), fun x hx => by cases hx⟩
  | k + 1, n, h1, h2 => by
    have hn : Ns s n := Classical.byContradiction fun hn => by rw [endsN_st hn] at h2; cases h2
    rw [endsN_ns hn] at h1 h2
    obtain ⟨l, e1, e2, e3, e4⟩ := rank_list k _ h1 h2
    refine ⟨n :: l, by simp [e1], ?_, fun x hx => ?_, fun x hx => ?_⟩
    · refine List.nodup_cons.2 ⟨fun hm => ?_, e2⟩
      obtain ⟨j, hj, he⟩ := e4 n hm
      rw [endsN_ns hn] at he
      rw [endsN_le hj he] at h2
      cases h2
    · rcases List.mem_cons.1 hx with rfl | hx
      · exact hn.inS
      · exact e3 x hx
    · rcases List.mem_cons.1 hx with rfl | hx
      · exact ⟨k + 1, Nat.le_refl _, by rw [endsN_ns hn]; exact h1⟩
      · obtain ⟨j, hj, he⟩ := e4 x hx
        exact ⟨j, by omega, he⟩
theorem En.ends {n : Int} (h : En s n) : endsB s n = true := by
  obtain ⟨k, hk⟩ := h
  induction k with
  | zero => cases hk
  | succ k ih =>
    cases hk' : endsN s k n with
    | true => exact ih hk'
    | false =>
      obtain ⟨l, e1, e2, e3, -⟩ := rank_list k n hk hk'
      have h1 := nodup_lt s.cs.length (l.map Int.toNat) ?_ ?_
      · rw [List.length_map, e1] at h1
        exact endsN_le (by omega) hk
      · refine List.Pairwise.map _ (fun a b h => h) ?_
        refine List.Pairwise.imp_of_mem (R := fun a b => a ≠ b) (fun {a b} ha hb hab e => hab ?_) e2
        have h1 := inS_iff.1 (e3 a ha)
        have h2 := inS_iff.1 (e3 b hb)
        omega
      · intro x hx
        obtain ⟨a, ha, rfl⟩ := List.mem_map.1 hx
        have h1 := inS_iff.1 (e3 a ha)
        omega

def Ch (s : So) : List Int → Int → Prop
  | [], _ => True
  | q :: l, a => Ns s q ∧ nx s q = l.headD a ∧ Ch s l a
theorem Ch.snoc : ∀ {l : List Int} {a b : Int}, Ch s l a → Ns s a → nx s a = b → Ch s (l ++ [a]) b
  | [], a, b, _, h1, h2 => ⟨h1, h2, trivial⟩
  | q :: l, a, b, ⟨g1, g2, g3⟩, h1, h2 => ⟨g1, by cases l <;> exact g2, Ch.snoc g3 h1 h2⟩
theorem Ch.en : ∀ {l : List Int} {a : Int}, Ch s l a → En s a → ∀ q ∈ l, En s q
  | [], a, _, _, q, hq => by cases hq
  | q :: l, a, ⟨g1, g2, g3⟩, he, x, hx => by
    have ih := Ch.en g3 he
    rcases List.mem_cons.1 hx with rfl | hx
    · refine En.ns g1 ?_
      rw [g2]
      cases l with
      | nil => exact he
      | cons y l => exact ih y List.mem_cons_self
    · exact ih x hx
theorem Ch.next : ∀ {l : List Int} {a : Int}, Ch s l a → ∀ q ∈ l, Ns s q ∧ (nx s q ∈ l ∨ nx s q = a)
  | [], a, _, q, hq => by cases hq
  | q :: l, a, ⟨g1, g2, g3⟩, x, hx => by
    rcases List.mem_cons.1 hx with rfl | hx
    · refine ⟨g1, ?_⟩
      rw [g2]
      cases l with
      | nil => exact .inr rfl
      | cons y l => exact .inl (by simp)
    · obtain ⟨h1, h2⟩ := Ch.next g3 x hx
      exact ⟨h1, h2.imp (List.mem_cons_of_mem _) id⟩
theorem closed_no {Q : List Int} (h : ∀ q ∈ Q, Ns s q ∧ nx s q ∈ Q) : ∀ (k : Nat) (q : Int), q ∈ Q → endsN s k q = false
  | 0, q, _ => rfl
  | k + 1, q, hq => by
    rw [endsN_ns (h q hq).1]
    exact closed_no h k _ (h q hq).2

def acyP (s : So) : Bool := (List.range s.cs.length).all fun i => endsB s (i : Nat)
def acyQ (s : So) : Bool := decide (s.cs.length ≤ 16777216) && (List.range s.cs.length).all fun i => !decide ((cellAt s (i : Nat)).t = 0) || inS s (cellAt s (i : Nat)).n

structure Mk0 (s : So) (m : List Int) : Prop where
  len : m.length = s.cs.length
  en : ∀ j : Nat, m.getD j 0 = 2 → En s j
theorem marks_get {m : List Int} {i : Int} (h0 : 0 ≤ i) (h : i < m.length) : (D.r (m.map D.i)).get i = .i (m.getD i.toNat 0) := by
  have : i.toNat < m.length := by omega
  simp [D.get, D.rs, List.getD_eq_getElem?_getD, this]
theorem marks_set {m : List Int} {k : Nat} {x : Int} : (m.map D.i).set k (.i x) = (m.set k x).map D.i := by simp
theorem getD_set {m : List Int} {k j : Nat} {x : Int} (hk : k < m.length) : (m.set k x).getD j 0 = if k = j then x else m.getD j 0 := by
  simp only [List.getD_eq_getElem?_getD, List.getElem?_set, hk]
  split <;> simp_all
end
end Go.Proofs.Ytinclokohcommaa


namespace Go.Proofs.Ytinclokohcommaa
open Go.RowKit
set_option linter.unusedVariables false
set_option linter.unusedSimpArgs false

def markT (P M : X) : Tree := .loop 16 8 [(.lit (.i 0)), M] (.br (.lt (.tok 8) (.len P)) (.need [(.le (.lit (.i 0)) (.tok 8)), (.lt (.tok 8) (.len P))] (.need [(.le (.lit (.i 0)) (.get P (.tok 8))), (.lt (.get P (.tok 8)) (.len (.tok 9)))] (.need [(.rng .i64 (.add (.tok 8) (.lit (.i 1))))] (.back 16 [(.add (.tok 8) (.lit (.i 1))), (.put (.tok 9) (.get P (.tok 8)) (.lit (.i 2)))])))) (.need [(.rng .i64 (.add (.tok 2) (.lit (.i 1))))] (.back 3 [(.tok 6), (.add (.tok 2) (.lit (.i 1))), (.tok 9)])))

theorem take_mem_snoc {l : List Int} {k : Nat} (h : k < l.length) (x : Int) : x ∈ l.take (k + 1) ↔ x ∈ l.take k ∨ x = l.getD k default := by
  rw [take_snoc h]
  simp

theorem mark_ok {S : Nat → List D → Option (List D)} {R : List D → Prop} {L : List D} {B : Nat → List D → Prop} {P M : X} {l m : List Int} {i : Nat} (hL : L.length = 8) (hP : ∀ e, P.ev (evl S (L ++ e)) = .r (l.map D.i)) (hM : M.ev (evl S L) = .r (m.map D.i))
    (h2 : L.getD 2 .u = .i i) (hi : i64 ((i : Int) + 1)) (hl : ∀ x ∈ l, 0 ≤ x ∧ x < m.length) (hll : l.length ≤ 16777216)
    (hB : ∀ f : List Int, f.length = m.length → (∀ j : Nat, j < m.length → f.getD j 0 = if (j : Int) ∈ l then 2 else m.getD j 0) → B 3 [L.getD 6 .u, .i ((i : Int) + 1), .r (f.map D.i)]) : (markT P M).go S R L B := by
  unfold markT
  rw [go_loop]
  have hM' : (evl S L) = ⟨fun k => L.getD k .u, S⟩ := rfl
  refine ⟨fun st => ∃ (k : Nat) (f : List Int), k ≤ l.length ∧ st = [.i k, .r (f.map D.i)] ∧ f.length = m.length ∧ ∀ j : Nat, j < m.length → f.getD j 0 = if (j : Int) ∈ l.take k then 2 else m.getD j 0, fun st => l.length - (st.getD 0 .u).int.toNat, ⟨0, m, Nat.zero_le _, by simp [X.evs, X.ev, hM], rfl, fun j _ => by simp⟩, ?_⟩
  rintro st - ⟨k, f, hk, rfl, hfl, hf⟩
  rw [List.take_of_length_le (by omega)]
  have t : ∀ j, j < 8 → (L ++ [D.i k, D.r (f.map D.i)]).getD j .u = L.getD j .u := fun j hj => by
    simp only [List.getD_eq_getElem?_getD]
    rw [List.getElem?_append_left (by omega)]
  have t8 : (L ++ [D.i k, D.r (f.map D.i)]).getD 8 .u = .i k := by
    simp only [List.getD_eq_getElem?_getD]
    rw [List.getElem?_append_right (by omega), hL]
    rfl
  have t9 : (L ++ [D.i k, D.r (f.map D.i)]).getD 9 .u = .r (f.map D.i) := by
    simp only [List.getD_eq_getElem?_getD]
    rw [List.getElem?_append_right (by omega), hL]
    rfl
  have hP' := hP [D.i k, D.r (f.map D.i)]
  have e2 : (L ++ [D.i k, D.r (f.map D.i)]).getD 2 .u = .i i := (t 2 (by omega)).trans h2
  have e6 := t 6 (by omega)
  generalize hg : evl S (L ++ [D.i k, D.r (f.map D.i)]) = g at hP'
  have hE : ∀ n, g.E n = (L ++ [D.i k, D.r (f.map D.i)]).getD n .u := fun n => by rw [← hg]; rfl
  simp only [q05, go_br, q08, allSay, X.says, hg, X.evs, X.ev, hP', hE, t8, t9, e2, e6, int_i, rs_r, tt_b, List.length_map, decide_eq_true_eq, decide_eq_false_iff_not, and_true]
  refine ⟨fun hlt => ?_, fun hlt => ?_⟩
  · have hkl : k < l.length := by omega
    have hm := getD_mem hkl
    have hr := hl _ hm
    have hget : (D.r (l.map D.i)).get (k : Int) = .i (l.getD k default) := get_n D.i hkl
    rw [hget]
    generalize hx : l.getD k default = x at hm hr
    simp only [int_i]
    refine ⟨⟨by omega, hlt⟩, ⟨hr.1, by omega⟩, rng64.2 ⟨by omega, by omega⟩, ?_⟩
    rw [updB, if_pos rfl]
    refine ⟨⟨k + 1, f.set x.toNat 2, hkl, by simp, by simp [hfl], fun j hj => ?_⟩, ?_⟩
    · rw [getD_set (by omega), hf j hj]
      by_cases hjx : x.toNat = j
      · have : (j : Int) ∈ l.take (k + 1) := (take_mem_snoc hkl _).2 (.inr (by omega))
        rw [if_pos hjx, if_pos this]
      · rw [if_neg hjx]
        by_cases hm2 : (j : Int) ∈ l.take k
        · rw [if_pos hm2, if_pos ((take_mem_snoc hkl _).2 (.inl hm2))]
        · rw [if_neg hm2, if_neg fun h => ?_]
          rcases (take_mem_snoc hkl _).1 h with h | h
          · exact hm2 h
          · omega
    · simp [D.int]
      omega
  · have : k = l.length := by omega
    subst this
    refine ⟨rng64.2 hi, ?_⟩
    rw [updB, if_neg (by decide)]
    rw [List.take_length] at hf
    exact hB f hfl hf

instance {s : So} {n : Int} : Decidable (Ns s n) := inferInstanceAs (Decidable (_ ∧ _))

theorem ok_cells_acyclic : FOk q12 (gSbP acyQ acyP) := fok_cells_acyclic fun ds outs hw hg => by
  obtain ⟨d, r, rfl, hd, rfl⟩ := hw
  obtain ⟨s, rfl, hs⟩ := wfS hd
  simp only [gSbP, dS_eS, Option.ite_none_right_eq_some, Option.some.injEq, acyQ, Bool.and_eq_true, decide_eq_true_eq] at hg
  obtain ⟨⟨hlen, hrf⟩, rfl⟩ := hg
  have hrange : ∀ n : Int, Ns s n → inS s (nx s n) = true := fun n hn => by
    have h1 := inS_iff.1 hn.inS
    have h2 := all_of hrf (k := n.toNat) (by omega)
    have e : ((n.toNat : Nat) : Int) = n := by omega
    have h0 : (cellAt s n).t = 0 := by rw [← tagS_in hn.inS]; exact hn.1
    rw [e] at h2
    simpa [h0] using h2
  rw [q2o, q05]
  refine ⟨by simp only [q05, go_br, q06, q08, allSay, X.says, X.ev, X.evs, evl, tblS, List.getD_cons_zero, List.getD_cons_succ, List.getElem?_cons_zero, List.getElem?_cons_succ, tt_b, int_i, str_s, rs_r, Option.isSome_some, Option.getD_some, decide_eq_true_eq, decide_eq_false_iff_not, dS_eS, dC_eC, dU_eU, dW_eW, dY_eY, eC_0, eC_1, eU_0, eU_1, eW_0, eW_1, eW_2, eY_0, eY_1, eS_0, eS_1, eS_2, eS_3, eS_4, eS_5, List.length_map, i_inj, b_inj, s_inj, eC_eq, eU_eq, eW_eq, eY_eq, eS_eq, rng64, List.take_succ_cons, List.take_zero, List.nil_append, List.cons_append, decide_true, decide_false, Bool.or_true, true_and, and_true]; omega, ?_⟩
  rw [go_loop]
  refine ⟨fun st => ∃ (i : Nat) (m : List Int), i ≤ s.cs.length ∧ st = [.b false, .i i, .r (m.map D.i)] ∧ Mk0 s m ∧ (∀ j : Nat, j < s.cs.length → m.getD j 0 = 0 ∨ m.getD j 0 = 2) ∧ ∀ j : Nat, j < i → En s j, fun st => s.cs.length - (st.getD 1 .u).int.toNat,
    ⟨0, List.replicate s.cs.length 0, Nat.zero_le _, by simp [X.evs, X.ev, evl, eS_0, D.int, D.rs], ⟨by simp, fun j hj => ?_⟩, fun j hj => ?_, fun j hj => absurd hj (Nat.not_lt_zero _)⟩, ?_⟩
  · exfalso
    simp only [List.getD_eq_getElem?_getD, List.getElem?_replicate] at hj
    split at hj <;> simp at hj
  · left
    simp [List.getD_eq_getElem?_getD, List.getElem?_replicate, hj]
  rintro st - ⟨i, m, hi, rfl, hm, hm02, hdone⟩
  rw [go_br]
  refine ⟨fun hlt => ?_, fun hlt => ?_⟩
  · have hil : i < s.cs.length := by simpa [X.ev, evl, eS_0, D.int, D.rs, D.tt] using hlt
    rw [go_loop]
    refine ⟨fun st => ∃ (l : List Int) (a : Int) (f : List Int), st = [.r (l.map D.i), .i a, .b false, .r (f.map D.i)] ∧ inS s a = true ∧ f.length = s.cs.length ∧ Ch s l a ∧ l.headD a = (i : Int) ∧ (∀ x ∈ l, inS s x = true) ∧ l.length ≤ s.cs.length - f.count 0 ∧ ¬ f.getD a.toNat 0 = 1 ∧
      ∀ j : Nat, j < s.cs.length → f.getD j 0 = if (j : Int) ∈ l then 1 else m.getD j 0, fun st => ((st.getD 3 .u).rs.map D.int).count 0, ⟨[], i, m, by simp [X.evs, X.ev, evl], inS_iff.2 ⟨by omega, by omega⟩, hm.len, trivial, rfl, (fun x hx => by cases hx), Nat.zero_le _, ?_, fun j hj => by simp⟩, ?_⟩
    · have := hm02 i hil
      simp only [Int.toNat_natCast]
      omega
    rintro st - ⟨l, a, f, rfl, hin, hfl, hch, hhd, hl, hll, hna, hf⟩
    have ha := inS_iff.1 hin
    have hfa : (f.getD a.toNat 0) = if a ∈ l then 1 else m.getD a.toNat 0 := by
      have := hf a.toNat (by omega)
      rwa [show ((a.toNat : Nat) : Int) = a by omega] at this
    have hal : a ∉ l := fun h => hna (by rw [hfa, if_pos h])
    rw [if_neg hal] at hfa
    have hmark : (D.r (f.map D.i)).get a = .i (f.getD a.toNat 0) := marks_get ha.1 (by omega)
    rw [q05]
    refine ⟨by simp only [q05, go_br, q06, q08, allSay, X.says, X.ev, X.evs, evl, tblS, List.getD_cons_zero, List.getD_cons_succ, List.getElem?_cons_zero, List.getElem?_cons_succ, tt_b, int_i, str_s, rs_r, Option.isSome_some, Option.getD_some, decide_eq_true_eq, decide_eq_false_iff_not, dS_eS, dC_eC, dU_eU, dW_eW, dY_eY, eC_0, eC_1, eU_0, eU_1, eW_0, eW_1, eW_2, eY_0, eY_1, eS_0, eS_1, eS_2, eS_3, eS_4, eS_5, List.length_map, i_inj, b_inj, s_inj, eC_eq, eU_eq, eW_eq, eY_eq, eS_eq, rng64, List.take_succ_cons, List.take_zero, List.nil_append, List.cons_append, decide_true, decide_false, Bool.or_true, true_and, and_true]; omega, ?_⟩
    rw [go_br]
    -- what the marks are when a path is done
    have finish : ∀ (p : List Int), (∀ x ∈ p, inS s x = true) → (∀ x ∈ p, En s x) → En s i → (∀ x ∈ l, x ∈ p) → ∀ (f' : List Int), f'.length = s.cs.length → (∀ j : Nat, j < s.cs.length → f'.getD j 0 = if (j : Int) ∈ p then 2 else m.getD j 0) →
        updB (fun x x_1 => False) 3 (fun st' => (∃ (i : Nat) (m : List Int), i ≤ s.cs.length ∧ st' = [.b false, .i i, .r (m.map D.i)] ∧ Mk0 s m ∧ (∀ j : Nat, j < s.cs.length → m.getD j 0 = 0 ∨ m.getD j 0 = 2) ∧ ∀ j : Nat, j < i → En s j) ∧ s.cs.length - (st'.getD 1 .u).int.toNat < s.cs.length - (([D.b false, D.i i, D.r (m.map D.i)] : List D).getD 1 .u).int.toNat) 3 [.b false, .i ((i : Int) + 1), .r (f'.map D.i)] := by
      intro p hp1 hp2 hei hlp f' hf1 hf2
      rw [updB, if_pos rfl]
      refine ⟨⟨i + 1, f', hil, by simp, ⟨hf1, fun j hj => ?_⟩, fun j hj => ?_, fun j hj => ?_⟩, ?_⟩
      · by_cases hjl : j < s.cs.length
        · rw [hf2 j hjl] at hj
          split at hj
          · rename_i hjp; exact hp2 _ hjp
          · exact hm.en j hj
        · rw [List.getD_eq_getElem?_getD, List.getElem?_eq_none (by omega)] at hj
          cases hj
      · rw [hf2 j hj]
        split
        · exact .inr rfl
        · exact hm02 j hj
      · rcases Nat.lt_succ_iff_lt_or_eq.1 hj with h | h
        · exact hdone j h
        · rw [h]; exact hei
      · simp [D.int]
        omega
    have hend : En s a → En s i := fun he => by
      cases l with
      | nil => rw [← hhd]; exact he
      | cons y l => rw [← hhd]; exact hch.en he y List.mem_cons_self
    refine ⟨fun hz => ?_, fun hz => ?_⟩
    · -- an unknown cell
      have hz' : f.getD a.toNat 0 = 0 := by
        simp only [q05, go_br, q06, q08, allSay, X.says, X.ev, X.evs, evl, tblS, List.getD_cons_zero, List.getD_cons_succ, List.getElem?_cons_zero, List.getElem?_cons_succ, tt_b, int_i, str_s, rs_r, Option.isSome_some, Option.getD_some, decide_eq_true_eq, decide_eq_false_iff_not, dS_eS, dC_eC, dU_eU, dW_eW, dY_eY, eC_0, eC_1, eU_0, eU_1, eW_0, eW_1, eW_2, eY_0, eY_1, eS_0, eS_1, eS_2, eS_3, eS_4, eS_5, List.length_map, i_inj, b_inj, s_inj, eC_eq, eU_eq, eW_eq, eY_eq, eS_eq, rng64, List.take_succ_cons, List.take_zero, List.nil_append, List.cons_append, decide_true, decide_false, Bool.or_true, true_and, and_true, hmark] at hz
        exact hz
      have hc0 : 0 < f.count 0 := List.count_pos_iff.2 (by
        rw [List.getD_eq_getElem?_getD, List.getElem?_eq_getElem (by omega)] at hz'
        have : f[a.toNat] = 0 := hz'
        exact List.mem_iff_getElem.2 ⟨a.toNat, by omega, this⟩)
      have hcl : f.count 0 ≤ f.length := List.count_le_length
      have hset : (f.set a.toNat 1).count 0 = f.count 0 - 1 := by
        rw [List.count_set (by omega)]
        have : f[a.toNat]'(by omega) = 0 := by
          rw [List.getD_eq_getElem?_getD, List.getElem?_eq_getElem (by omega)] at hz'
          exact hz'
        simp [this]
      rw [q05, q05, q05]
      refine ⟨by simp only [q05, go_br, q06, q08, allSay, X.says, X.ev, X.evs, evl, tblS, List.getD_cons_zero, List.getD_cons_succ, List.getElem?_cons_zero, List.getElem?_cons_succ, tt_b, int_i, str_s, rs_r, Option.isSome_some, Option.getD_some, decide_eq_true_eq, decide_eq_false_iff_not, dS_eS, dC_eC, dU_eU, dW_eW, dY_eY, eC_0, eC_1, eU_0, eU_1, eW_0, eW_1, eW_2, eY_0, eY_1, eS_0, eS_1, eS_2, eS_3, eS_4, eS_5, List.length_map, i_inj, b_inj, s_inj, eC_eq, eU_eq, eW_eq, eY_eq, eS_eq, rng64, List.take_succ_cons, List.take_zero, List.nil_append, List.cons_append, decide_true, decide_false, Bool.or_true, true_and, and_true]; omega, by simp only [q05, go_br, q06, q08, allSay, X.says, X.ev, X.evs, evl, tblS, List.getD_cons_zero, List.getD_cons_succ, List.getElem?_cons_zero, List.getElem?_cons_succ, tt_b, int_i, str_s, rs_r, Option.isSome_some, Option.getD_some, decide_eq_true_eq, decide_eq_false_iff_not, dS_eS, dC_eC, dU_eU, dW_eW, dY_eY, eC_0, eC_1, eU_0, eU_1, eW_0, eW_1, eW_2, eY_0, eY_1, eS_0, eS_1, eS_2, eS_3, eS_4, eS_5, List.length_map, i_inj, b_inj, s_inj, eC_eq, eU_eq, eW_eq, eY_eq, eS_eq, rng64, List.take_succ_cons, List.take_zero, List.nil_append, List.cons_append, decide_true, decide_false, Bool.or_true, true_and, and_true]; omega, by simp only [q05, go_br, q06, q08, allSay, X.says, X.ev, X.evs, evl, tblS, List.getD_cons_zero, List.getD_cons_succ, List.getElem?_cons_zero, List.getElem?_cons_succ, tt_b, int_i, str_s, rs_r, Option.isSome_some, Option.getD_some, decide_eq_true_eq, decide_eq_false_iff_not, dS_eS, dC_eC, dU_eU, dW_eW, dY_eY, eC_0, eC_1, eU_0, eU_1, eW_0, eW_1, eW_2, eY_0, eY_1, eS_0, eS_1, eS_2, eS_3, eS_4, eS_5, List.length_map, i_inj, b_inj, s_inj, eC_eq, eU_eq, eW_eq, eY_eq, eS_eq, rng64, List.take_succ_cons, List.take_zero, List.nil_append, List.cons_append, decide_true, decide_false, Bool.or_true, true_and, and_true]; omega, ?_⟩
      rw [go_br]
      have hcond : (X.ev (evl (tblS []) ([eS s, D.b false, D.i i, D.r (m.map D.i)] ++ [D.r (l.map D.i), D.i a, D.b false, D.r (f.map D.i)])) ((.or (.not (.eq (.fld (.get (.fld (.tok 0) 0) (.tok 5)) 0) (.lit (.i 0)))) (.eq (.fld (.get (.fld (.tok 0) 0) (.tok 5)) 1) (.tok 5))))).tt = !decide (Ns s a) := by
        simp only [q05, go_br, q06, q08, allSay, X.says, X.ev, X.evs, evl, tblS, List.getD_cons_zero, List.getD_cons_succ, List.getElem?_cons_zero, List.getElem?_cons_succ, tt_b, int_i, str_s, rs_r, Option.isSome_some, Option.getD_some, decide_eq_true_eq, decide_eq_false_iff_not, dS_eS, dC_eC, dU_eU, dW_eW, dY_eY, eC_0, eC_1, eU_0, eU_1, eW_0, eW_1, eW_2, eY_0, eY_1, eS_0, eS_1, eS_2, eS_3, eS_4, eS_5, List.length_map, i_inj, b_inj, s_inj, eC_eq, eU_eq, eW_eq, eY_eq, eS_eq, rng64, List.take_succ_cons, List.take_zero, List.nil_append, List.cons_append, decide_true, decide_false, Bool.or_true, true_and, and_true, cell_get hin, Ns, tagS_in hin]
        by_cases h0 : (cellAt s a).t = 0 <;> simp [h0]
      refine ⟨fun hst => ?_, fun hst => ?_⟩
      · have hns : ¬ Ns s a := by
          have := hcond.symm.trans hst
          simpa using this
        have hea := En.st hns
        refine mark_ok (P := .app (.tok 4) (.row [.tok 5])) (l := l ++ [a]) (m := f.set a.toNat 1) (i := i) rfl (fun e => by simp [X.ev, X.evs, evl, D.rs]) (by simp [X.ev, evl, D.rs, D.int]) rfl ⟨by omega, by omega⟩ (fun x hx => ?_) (by simp; omega) fun f' hf1 hf2 => ?_
        · rcases List.mem_append.1 hx with hx | hx
          · have := inS_iff.1 (hl x hx); simp; omega
          · obtain rfl : x = a := by simpa using hx
            simp; omega
        · refine finish (l ++ [a]) (fun x hx => ?_) (fun x hx => ?_) (hend hea) (fun x hx => List.mem_append_left _ hx) f' (by simpa [hfl] using hf1) fun j hj => ?_
          · rcases List.mem_append.1 hx with hx | hx
            · exact hl x hx
            · obtain rfl : x = a := by simpa using hx
              exact hin
          · rcases List.mem_append.1 hx with hx | hx
            · exact hch.en hea x hx
            · obtain rfl : x = a := by simpa using hx
              exact hea
          · rw [hf2 j (by simp; omega)]
            by_cases hjm : (j : Int) ∈ l ++ [a]
            · rw [if_pos hjm, if_pos hjm]
            · rw [if_neg hjm, if_neg hjm, getD_set (by omega), if_neg, hf j hj, if_neg fun h => hjm (List.mem_append_left _ h)]
              intro e
              exact hjm (List.mem_append_right _ (by simp; omega))
      · have hns : Ns s a := by
          have := hcond.symm.trans hst
          simpa using this
        have hin2 : inS s (cellAt s a).n = true := hrange a hns
        have hb := inS_iff.1 hin2
        have hgb : (D.r ((f.set a.toNat 1).map D.i)).get ((cellAt s a).n) = .i ((f.set a.toNat 1).getD ((cellAt s a).n).toNat 0) := marks_get hb.1 (by simp; omega)
        have hput : D.r ((f.map D.i).set a.toNat (.i 1)) = D.r ((f.set a.toNat 1).map D.i) := by rw [marks_set]
        rw [q05]
        refine ⟨by simp only [q05, go_br, q06, q08, allSay, X.says, X.ev, X.evs, evl, tblS, List.getD_cons_zero, List.getD_cons_succ, List.getElem?_cons_zero, List.getElem?_cons_succ, tt_b, int_i, str_s, rs_r, Option.isSome_some, Option.getD_some, decide_eq_true_eq, decide_eq_false_iff_not, dS_eS, dC_eC, dU_eU, dW_eW, dY_eY, eC_0, eC_1, eU_0, eU_1, eW_0, eW_1, eW_2, eY_0, eY_1, eS_0, eS_1, eS_2, eS_3, eS_4, eS_5, List.length_map, i_inj, b_inj, s_inj, eC_eq, eU_eq, eW_eq, eY_eq, eS_eq, rng64, List.take_succ_cons, List.take_zero, List.nil_append, List.cons_append, decide_true, decide_false, Bool.or_true, true_and, and_true, cell_get hin, List.length_set]; omega, ?_⟩
        rw [go_br]
        simp only [q05, go_br, q06, q08, allSay, X.says, X.ev, X.evs, evl, tblS, List.getD_cons_zero, List.getD_cons_succ, List.getElem?_cons_zero, List.getElem?_cons_succ, tt_b, int_i, str_s, rs_r, Option.isSome_some, Option.getD_some, decide_eq_true_eq, decide_eq_false_iff_not, dS_eS, dC_eC, dU_eU, dW_eW, dY_eY, eC_0, eC_1, eU_0, eU_1, eW_0, eW_1, eW_2, eY_0, eY_1, eS_0, eS_1, eS_2, eS_3, eS_4, eS_5, List.length_map, i_inj, b_inj, s_inj, eC_eq, eU_eq, eW_eq, eY_eq, eS_eq, rng64, List.take_succ_cons, List.take_zero, List.nil_append, List.cons_append, decide_true, decide_false, Bool.or_true, true_and, and_true, cell_get hin, hput, hgb]
        have hf' : ∀ j : Nat, j < s.cs.length → (f.set a.toNat 1).getD j 0 = if (j : Int) ∈ l ++ [a] then 1 else m.getD j 0 := fun j hj => by
          rw [getD_set (by omega), hf j hj]
          by_cases hja : a.toNat = j
          · rw [if_pos hja, if_pos (List.mem_append_right _ (by simp; omega))]
          · rw [if_neg hja]
            by_cases hjl : (j : Int) ∈ l
            · rw [if_pos hjl, if_pos (List.mem_append_left _ hjl)]
            · rw [if_neg hjl, if_neg fun h => ?_]
              rcases List.mem_append.1 h with h | h
              · exact hjl h
              · simp at h; omega
        refine ⟨fun hact => ?_, fun hact => ?_⟩
        · have hmem : (cellAt s a).n ∈ l ++ [a] := by
            rw [hf' _ (by omega), show ((((cellAt s a).n).toNat : Nat) : Int) = (cellAt s a).n by omega] at hact
            split at hact
            · assumption
            · have := hm02 ((cellAt s a).n).toNat (by omega)
              omega
          have hcl := closed_no (s := s) (Q := l ++ [a]) fun q hq => by
            rcases List.mem_append.1 hq with hq | hq
            · obtain ⟨g1, g2⟩ := hch.next q hq
              refine ⟨g1, g2.elim (List.mem_append_left _) fun e => List.mem_append_right _ (by simp [e])⟩
            · obtain rfl : q = a := by simpa using hq
              exact ⟨hns, hmem⟩
          have : acyP s = false := all_not hil (hcl _ _ (by
            rw [← hhd]
            cases l <;> simp))
          rw [this]
        · rw [updB, if_pos rfl]
          refine ⟨⟨l ++ [a], (cellAt s a).n, f.set a.toNat 1, by simp, hin2, by simp [hfl], hch.snoc hns rfl, by cases l <;> simpa using hhd, fun x hx => ?_, ?_, hact, hf'⟩, ?_⟩
          · rcases List.mem_append.1 hx with hx | hx
            · exact hl x hx
            · obtain rfl : x = a := by simpa using hx
              exact hin
          · rw [hset]
            simp
            omega
          · show List.count 0 (((f.set a.toNat 1).map D.i).map D.int) < List.count 0 ((f.map D.i).map D.int)
            rw [map_id' int_i, map_id' int_i, hset]
            omega
    · -- a cell that is done
      have hz' : ¬ f.getD a.toNat 0 = 0 := by
        simp only [q05, go_br, q06, q08, allSay, X.says, X.ev, X.evs, evl, tblS, List.getD_cons_zero, List.getD_cons_succ, List.getElem?_cons_zero, List.getElem?_cons_succ, tt_b, int_i, str_s, rs_r, Option.isSome_some, Option.getD_some, decide_eq_true_eq, decide_eq_false_iff_not, dS_eS, dC_eC, dU_eU, dW_eW, dY_eY, eC_0, eC_1, eU_0, eU_1, eW_0, eW_1, eW_2, eY_0, eY_1, eS_0, eS_1, eS_2, eS_3, eS_4, eS_5, List.length_map, i_inj, b_inj, s_inj, eC_eq, eU_eq, eW_eq, eY_eq, eS_eq, rng64, List.take_succ_cons, List.take_zero, List.nil_append, List.cons_append, decide_true, decide_false, Bool.or_true, true_and, and_true, hmark] at hz
        exact hz
      have hea : En s a := by
        have h2 : m.getD a.toNat 0 = 2 := by
          have := hm02 a.toNat (by omega)
          omega
        have := hm.en _ h2
        rwa [show ((a.toNat : Nat) : Int) = a by omega] at this
      refine mark_ok (P := .tok 4) (l := l) (m := f) (i := i) rfl (fun e => by simp [X.ev, evl]) (by simp [X.ev, evl]) rfl ⟨by omega, by omega⟩ (fun x hx => ?_) (by omega) fun f' hf1 hf2 => ?_
      · have := inS_iff.1 (hl x hx); omega
      · refine finish l hl (hch.en hea) (hend hea) (fun x hx => hx) f' (by omega) fun j hj => ?_
        rw [hf2 j (by omega)]
        by_cases hjm : (j : Int) ∈ l
        · rw [if_pos hjm, if_pos hjm]
        · rw [if_neg hjm, if_neg hjm, hf j hj, if_neg hjm]
  · have : i = s.cs.length := by
      have : ¬ (i < s.cs.length) := by simpa [X.ev, evl, eS_0, D.int, D.rs, D.tt] using hlt
      omega
    subst this
    have : acyP s = true := all_yes fun j hj => (hdone j hj).ends
    rw [this]
    rfl
end Go.Proofs.Ytinclokohcommaa

