/-
  Lemmas of the walk and plain laws, put together. No condition.
-/
import Derived.ChangeArms
import Derived.OpenShut
import Derived.ProofKit
import Derived.SizedLaws
import Derived.Test.YtcjapglipkmbhaaRows
import Derived.Test.YtcjapglipkmbhaaZc
namespace Go.Proofs.Ytcjapglipkmbhaa
open Go.RowKit
set_option linter.unusedVariables false

def ct_ref30_Clone : Ct := ⟨10, [.val (.st 26)], [(.st 26, true)]⟩
theorem enter_ref30_Clone (args : Array Value) (w : World) : (callFunc ct_ref30_Clone.f args).run Try.prog w = .ok (.enter ct_ref30_Clone.f args) w := by kernel_rfl
def ann_ref30_Clone : Ann := ⟨[0, 1, 2, 3], []⟩
def tree_ref30_Clone : Tree := (.need [(.le (.len (.fld (.tok 0) 0)) (.lit (.i 34359738368)))] (.need [(.le (.len (.fld (.tok 0) 1)) (.lit (.i 34359738368)))] (.need [(.le (.len (.fld (.tok 0) 2)) (.lit (.i 34359738368)))] (.need [(.le (.len (.fld (.tok 0) 3)) (.lit (.i 34359738368)))] (.leaf [(.set (.set (.set (.set (.tok 0) 0 (.app (.lit (.r [])) (.fld (.tok 0) 0))) 1 (.app (.lit (.r [])) (.fld (.tok 0) 1))) 2 (.app (.lit (.r [])) (.fld (.tok 0) 2))) 3 (.app (.lit (.r [])) (.fld (.tok 0) 3)))])))))
set_option maxRecDepth 100000 in
theorem code_ref30_Clone : ∀ cd, Try.f10.body = some cd → treeOf Try.prog [] ann_ref30_Clone ct_ref30_Clone Try.f10 cd = tree_ref30_Clone := by
  intro cd h
  injection h with h
  subst h
  kernel_rfl
theorem fok_ref30_Clone {g : List D → Option (List D)}  (h : ∀ ds outs, WfA ct_ref30_Clone.ar ds → g ds = some outs → tree_ref30_Clone.go (tblS []) (fun o => o = outs) ds fun _ _ => False) : FOk ct_ref30_Clone g :=
  fok_of ann_ref30_Clone Try.f10 _ .nil rfl rfl enter_ref30_Clone (by decide) fun ds outs hw hg => by rw [code_ref30_Clone  _ rfl]; exact h ds outs hw hg

def ct_ref30_Valid : Ct := ⟨11, [.val (.st 26)], [(.bool, false)]⟩
theorem enter_ref30_Valid (args : Array Value) (w : World) : (callFunc ct_ref30_Valid.f args).run Try.prog w = .ok (.enter ct_ref30_Valid.f args) w := by kernel_rfl
def ct_ref30_symbols : Ct := ⟨26, [.val (.row 59)], [(.bool, false)]⟩
theorem enter_ref30_symbols (args : Array Value) (w : World) : (callFunc ct_ref30_symbols.f args).run Try.prog w = .ok (.enter ct_ref30_symbols.f args) w := by kernel_rfl
def ct_ref30_cell : Ct := ⟨27, [.val (.st 26), .val (.int .i64)], [(.bool, false)]⟩
theorem enter_ref30_cell (args : Array Value) (w : World) : (callFunc ct_ref30_cell.f args).run Try.prog w = .ok (.enter ct_ref30_cell.f args) w := by kernel_rfl
def ct_ref30_old : Ct := ⟨28, [.val (.st 26), .val (.st 44)], [(.bool, false)]⟩
theorem enter_ref30_old (args : Array Value) (w : World) : (callFunc ct_ref30_old.f args).run Try.prog w = .ok (.enter ct_ref30_old.f args) w := by kernel_rfl
def ann_ref30_Valid : Ann := ⟨[0, 1, 2, 3, 4, 5, 6, 33, 38, 44, 49, 59, 64, 95], [(4, ⟨[(2, .bool, false), (3, .int .i64, false)], [], [34, 35, 36, 37, 38, 41, 42, 43, 44, 39, 40], []⟩),
  (9, ⟨[(2, .bool, false), (4, .int .i64, false)], [], [45, 46, 47, 48, 49, 52, 53, 54, 55, 56, 57, 58, 59, 50, 51], []⟩),
  (14, ⟨[(2, .bool, false), (5, .int .i64, false)], [], [60, 61, 62, 63, 64, 67, 68, 69, 70, 71, 6, 72, 73, 74, 75, 76, 77, 78, 79, 80, 81, 82, 83, 84, 85, 86, 87, 88, 89, 90, 91, 92, 93, 94, 95, 65, 66], []⟩)]⟩
def tree_ref30_Valid : Tree := (.need [(.imp (.not (.or (.or (.or (.lt (.fld (.tok 0) 5) (.lit (.i 1))) (.lt (.lit (.i 1048576)) (.fld (.tok 0) 5))) (.lt (.fld (.tok 0) 5) (.len (.fld (.tok 0) 0)))) (.lt (.fld (.tok 0) 4) (.lit (.i 0))))) (.ok 0 [(.fld (.tok 0) 1)]))] (.br (.or (.or (.or (.or (.lt (.fld (.tok 0) 5) (.lit (.i 1))) (.lt (.lit (.i 1048576)) (.fld (.tok 0) 5))) (.lt (.fld (.tok 0) 5) (.len (.fld (.tok 0) 0)))) (.lt (.fld (.tok 0) 4) (.lit (.i 0)))) (.not (.call 0 0 [(.fld (.tok 0) 1)]))) (.leaf [(.lit (.b .false))]) (.loop 4 1 [(.lit (.b .false)), (.lit (.i 0))] (.br (.lt (.tok 2) (.len (.fld (.tok 0) 0))) (.need [(.ok 1 [(.tok 0), (.tok 2)])] (.br (.not (.call 1 0 [(.tok 0), (.tok 2)])) (.leaf [(.lit (.b .false))]) (.need [(.rng .i64 (.add (.tok 2) (.lit (.i 1))))] (.back 4 [(.tok 1), (.add (.tok 2) (.lit (.i 1)))])))) (.loop 9 3 [(.tok 1), (.lit (.i 0))] (.br (.lt (.tok 4) (.len (.fld (.tok 0) 2))) (.need [(.ok 2 [(.tok 0), (.get (.fld (.tok 0) 2) (.tok 4))]), (.le (.lit (.i 0)) (.tok 4)), (.lt (.tok 4) (.len (.fld (.tok 0) 2)))] (.br (.not (.call 2 0 [(.tok 0), (.get (.fld (.tok 0) 2) (.tok 4))])) (.leaf [(.lit (.b .false))]) (.need [(.rng .i64 (.add (.tok 4) (.lit (.i 1))))] (.back 9 [(.tok 3), (.add (.tok 4) (.lit (.i 1)))])))) (.loop 14 5 [(.tok 3), (.lit (.i 0))] (.br (.lt (.tok 6) (.len (.fld (.tok 0) 3))) (.need [(.le (.lit (.i 0)) (.tok 6)), (.lt (.tok 6) (.len (.fld (.tok 0) 3)))] (.need [(.imp (.not (.or (.lt (.fld (.get (.fld (.tok 0) 3) (.tok 6)) 0) (.lit (.i 1))) (.lt (.fld (.tok 0) 4) (.fld (.get (.fld (.tok 0) 3) (.tok 6)) 0)))) (.ok 3 [(.tok 0), (.fld (.get (.fld (.tok 0) 3) (.tok 6)) 1)])), (.imp (.not (.or (.or (.lt (.fld (.get (.fld (.tok 0) 3) (.tok 6)) 0) (.lit (.i 1))) (.lt (.fld (.tok 0) 4) (.fld (.get (.fld (.tok 0) 3) (.tok 6)) 0))) (.not (.call 3 0 [(.tok 0), (.fld (.get (.fld (.tok 0) 3) (.tok 6)) 1)])))) (.ok 3 [(.tok 0), (.fld (.get (.fld (.tok 0) 3) (.tok 6)) 2)]))] (.br (.or (.or (.or (.lt (.fld (.get (.fld (.tok 0) 3) (.tok 6)) 0) (.lit (.i 1))) (.lt (.fld (.tok 0) 4) (.fld (.get (.fld (.tok 0) 3) (.tok 6)) 0))) (.not (.call 3 0 [(.tok 0), (.fld (.get (.fld (.tok 0) 3) (.tok 6)) 1)]))) (.not (.call 3 0 [(.tok 0), (.fld (.get (.fld (.tok 0) 3) (.tok 6)) 2)]))) (.leaf [(.lit (.b .false))]) (.need [(.rng .i64 (.add (.tok 6) (.lit (.i 1))))] (.back 14 [(.tok 5), (.add (.tok 6) (.lit (.i 1)))]))))) (.leaf [(.lit (.b .true))])))))))))
set_option maxRecDepth 100000 in
theorem code_ref30_Valid (g0 g1 g2 g3 : List D → Option (List D)) : ∀ cd, Try.f11.body = some cd → treeOf Try.prog [(ct_ref30_symbols, g0), (ct_ref30_cell, g1), (ct_ref30_old, g2), (ct_ref30_ValidCell, g3)] ann_ref30_Valid ct_ref30_Valid Try.f11 cd = tree_ref30_Valid := by
  intro cd h
  injection h with h
  subst h
  kernel_rfl
theorem fok_ref30_Valid {g0 g1 g2 g3 : List D → Option (List D)} {g : List D → Option (List D)} (h0 : FOk ct_ref30_symbols g0) (h1 : FOk ct_ref30_cell g1) (h2 : FOk ct_ref30_old g2) (h3 : FOk ct_ref30_ValidCell g3) (h : ∀ ds outs, WfA ct_ref30_Valid.ar ds → g ds = some outs → tree_ref30_Valid.go (tblS [(ct_ref30_symbols, g0), (ct_ref30_cell, g1), (ct_ref30_old, g2), (ct_ref30_ValidCell, g3)]) (fun o => o = outs) ds fun _ _ => False) : FOk ct_ref30_Valid g :=
  fok_of ann_ref30_Valid Try.f11 _ (.cons h0 (.cons h1 (.cons h2 (.cons h3 .nil)))) rfl rfl enter_ref30_Valid (by decide) fun ds outs hw hg => by rw [code_ref30_Valid g0 g1 g2 g3 _ rfl]; exact h ds outs hw hg

def ct_ref30_Same : Ct := ⟨15, [.val (.st 26), .val (.st 26)], [(.bool, false)]⟩
theorem enter_ref30_Same (args : Array Value) (w : World) : (callFunc ct_ref30_Same.f args).run Try.prog w = .ok (.enter ct_ref30_Same.f args) w := by kernel_rfl
def ann_ref30_Same : Ann := ⟨[0, 1, 2, 3, 4, 5, 6, 7, 8, 56, 61, 74, 79, 92, 97, 110, 115, 128], [(4, ⟨[(4, .bool, false), (5, .int .i64, false)], [], [57, 58, 59, 60, 61, 64, 65, 66, 67, 68, 69, 70, 71, 72, 73, 74, 62, 63], []⟩),
  (9, ⟨[(4, .bool, false), (6, .int .i64, false)], [], [75, 76, 77, 78, 79, 82, 83, 84, 85, 86, 87, 88, 89, 90, 91, 92, 80, 81], []⟩),
  (14, ⟨[(4, .bool, false), (7, .int .i64, false)], [], [93, 94, 95, 96, 97, 100, 101, 102, 103, 104, 105, 106, 107, 108, 109, 110, 98, 99], []⟩),
  (19, ⟨[(4, .bool, false), (8, .int .i64, false)], [], [111, 112, 113, 114, 115, 118, 119, 120, 121, 122, 123, 124, 125, 126, 127, 128, 116, 117], []⟩)]⟩
def tree_ref30_Same : Tree := (.br (.or (.or (.or (.or (.or (.not (.eq (.len (.fld (.tok 0) 0)) (.len (.fld (.tok 1) 0)))) (.not (.eq (.len (.fld (.tok 0) 1)) (.len (.fld (.tok 1) 1))))) (.not (.eq (.len (.fld (.tok 0) 2)) (.len (.fld (.tok 1) 2))))) (.not (.eq (.len (.fld (.tok 0) 3)) (.len (.fld (.tok 1) 3))))) (.not (.eq (.fld (.tok 0) 4) (.fld (.tok 1) 4)))) (.not (.eq (.fld (.tok 0) 5) (.fld (.tok 1) 5)))) (.leaf [(.lit (.b .false))]) (.loop 4 2 [(.lit (.b .false)), (.lit (.i 0))] (.br (.lt (.tok 3) (.len (.fld (.tok 0) 0))) (.need [(.le (.lit (.i 0)) (.tok 3)), (.lt (.tok 3) (.len (.fld (.tok 1) 0))), (.le (.lit (.i 0)) (.tok 3)), (.lt (.tok 3) (.len (.fld (.tok 0) 0)))] (.br (.not (.eq (.get (.fld (.tok 0) 0) (.tok 3)) (.get (.fld (.tok 1) 0) (.tok 3)))) (.leaf [(.lit (.b .false))]) (.need [(.rng .i64 (.add (.tok 3) (.lit (.i 1))))] (.back 4 [(.tok 2), (.add (.tok 3) (.lit (.i 1)))])))) (.loop 9 4 [(.tok 2), (.lit (.i 0))] (.br (.lt (.tok 5) (.len (.fld (.tok 0) 1))) (.need [(.le (.lit (.i 0)) (.tok 5)), (.lt (.tok 5) (.len (.fld (.tok 1) 1))), (.le (.lit (.i 0)) (.tok 5)), (.lt (.tok 5) (.len (.fld (.tok 0) 1)))] (.br (.not (.eq (.get (.fld (.tok 0) 1) (.tok 5)) (.get (.fld (.tok 1) 1) (.tok 5)))) (.leaf [(.lit (.b .false))]) (.need [(.rng .i64 (.add (.tok 5) (.lit (.i 1))))] (.back 9 [(.tok 4), (.add (.tok 5) (.lit (.i 1)))])))) (.loop 14 6 [(.tok 4), (.lit (.i 0))] (.br (.lt (.tok 7) (.len (.fld (.tok 0) 2))) (.need [(.le (.lit (.i 0)) (.tok 7)), (.lt (.tok 7) (.len (.fld (.tok 1) 2))), (.le (.lit (.i 0)) (.tok 7)), (.lt (.tok 7) (.len (.fld (.tok 0) 2)))] (.br (.not (.eq (.get (.fld (.tok 0) 2) (.tok 7)) (.get (.fld (.tok 1) 2) (.tok 7)))) (.leaf [(.lit (.b .false))]) (.need [(.rng .i64 (.add (.tok 7) (.lit (.i 1))))] (.back 14 [(.tok 6), (.add (.tok 7) (.lit (.i 1)))])))) (.loop 19 8 [(.tok 6), (.lit (.i 0))] (.br (.lt (.tok 9) (.len (.fld (.tok 0) 3))) (.need [(.le (.lit (.i 0)) (.tok 9)), (.lt (.tok 9) (.len (.fld (.tok 1) 3))), (.le (.lit (.i 0)) (.tok 9)), (.lt (.tok 9) (.len (.fld (.tok 0) 3)))] (.br (.not (.eq (.get (.fld (.tok 0) 3) (.tok 9)) (.get (.fld (.tok 1) 3) (.tok 9)))) (.leaf [(.lit (.b .false))]) (.need [(.rng .i64 (.add (.tok 9) (.lit (.i 1))))] (.back 19 [(.tok 8), (.add (.tok 9) (.lit (.i 1)))])))) (.leaf [(.lit (.b .true))]))))))))))
set_option maxRecDepth 100000 in
theorem code_ref30_Same : ∀ cd, Try.f15.body = some cd → treeOf Try.prog [] ann_ref30_Same ct_ref30_Same Try.f15 cd = tree_ref30_Same := by
  intro cd h
  injection h with h
  subst h
  kernel_rfl
theorem fok_ref30_Same {g : List D → Option (List D)}  (h : ∀ ds outs, WfA ct_ref30_Same.ar ds → g ds = some outs → tree_ref30_Same.go (tblS []) (fun o => o = outs) ds fun _ _ => False) : FOk ct_ref30_Same g :=
  fok_of ann_ref30_Same Try.f15 _ .nil rfl rfl enter_ref30_Same (by decide) fun ds outs hw hg => by rw [code_ref30_Same  _ rfl]; exact h ds outs hw hg

def ct_ref31_Tidy : Ct := ⟨22, [.ref (.st 26), .val (.int .i64), .val (.int .i64)], [(.int .i64, false)]⟩
theorem enter_ref31_Tidy (args : Array Value) (w : World) : (callFunc ct_ref31_Tidy.f args).run Try.prog w = .ok (.enter ct_ref31_Tidy.f args) w := by kernel_rfl
def ann_ref31_Tidy : Ann := ⟨[0, 1, 2, 6, 7, 8, 13, 20, 37], [(5, ⟨[(7, .row 45, false), (8, .int .i64, false)], [], [14, 15, 16, 17, 18, 19, 20, 23, 24, 25, 26, 27, 28, 29, 30, 31, 32, 33, 34, 35, 36, 37, 38, 39, 40, 41, 42, 43, 44, 45, 46, 47, 21, 22], []⟩)]⟩
def tree_ref31_Tidy : Tree := (.need [(.ok 0 [(.tok 0), (.tok 1), (.tok 2)])] (.br (.not (.call 0 0 [(.tok 0), (.tok 1), (.tok 2)])) (.leaf [(.lit (.i 1)), (.tok 0)]) (.loop 5 3 [(.lit (.r [])), (.lit (.i 0))] (.br (.lt (.tok 4) (.len (.fld (.tok 0) 2))) (.need [(.imp (.not (.lt (.tok 4) (.tok 1))) (.le (.lit (.i 0)) (.tok 4))), (.imp (.not (.lt (.tok 4) (.tok 1))) (.lt (.tok 4) (.len (.fld (.tok 0) 2))))] (.br (.or (.lt (.tok 4) (.tok 1)) (.lt (.fld (.get (.fld (.tok 0) 2) (.tok 4)) 0) (.tok 2))) (.need [(.le (.lit (.i 0)) (.tok 4)), (.lt (.tok 4) (.len (.fld (.tok 0) 2))), (.le (.add (.len (.tok 3)) (.lit (.i 1))) (.lit (.i 34359738368)))] (.need [(.rng .i64 (.add (.tok 4) (.lit (.i 1))))] (.back 5 [(.app (.tok 3) (.row [(.get (.fld (.tok 0) 2) (.tok 4))])), (.add (.tok 4) (.lit (.i 1)))]))) (.need [(.rng .i64 (.add (.tok 4) (.lit (.i 1))))] (.back 5 [(.tok 3), (.add (.tok 4) (.lit (.i 1)))])))) (.leaf [(.lit (.i 0)), (.set (.tok 0) 2 (.tok 3))])))))
set_option maxRecDepth 100000 in
theorem code_ref31_Tidy (g0 : List D → Option (List D)) : ∀ cd, Try.f22.body = some cd → treeOf Try.prog [(ct_ref31_within, g0)] ann_ref31_Tidy ct_ref31_Tidy Try.f22 cd = tree_ref31_Tidy := by
  intro cd h
  injection h with h
  subst h
  kernel_rfl
theorem fok_ref31_Tidy {g0 : List D → Option (List D)} {g : List D → Option (List D)} (h0 : FOk ct_ref31_within g0) (h : ∀ ds outs, WfA ct_ref31_Tidy.ar ds → g ds = some outs → tree_ref31_Tidy.go (tblS [(ct_ref31_within, g0)]) (fun o => o = outs) ds fun _ _ => False) : FOk ct_ref31_Tidy g :=
  fok_of ann_ref31_Tidy Try.f22 _ (.cons h0 .nil) rfl rfl enter_ref31_Tidy (by decide) fun ds outs hw hg => by rw [code_ref31_Tidy g0 _ rfl]; exact h ds outs hw hg

def ct_cells_Valid : Ct := ⟨23, [.val (.st 26)], [(.bool, false)]⟩
theorem enter_cells_Valid (args : Array Value) (w : World) : (callFunc ct_cells_Valid.f args).run Try.prog w = .ok (.enter ct_cells_Valid.f args) w := by kernel_rfl
def ct_cells_validSymbols : Ct := ⟨43, [.val (.row 59)], [(.bool, false)]⟩
theorem enter_cells_validSymbols (args : Array Value) (w : World) : (callFunc ct_cells_validSymbols.f args).run Try.prog w = .ok (.enter ct_cells_validSymbols.f args) w := by kernel_rfl
def ct_cells_fits : Ct := ⟨44, [.val (.st 26), .val (.int .i64)], [(.bool, false)]⟩
theorem enter_cells_fits (args : Array Value) (w : World) : (callFunc ct_cells_fits.f args).run Try.prog w = .ok (.enter ct_cells_fits.f args) w := by kernel_rfl
def ct_cells_acyclic : Ct := ⟨45, [.val (.st 26)], [(.bool, false)]⟩
theorem enter_cells_acyclic (args : Array Value) (w : World) : (callFunc ct_cells_acyclic.f args).run Try.prog w = .ok (.enter ct_cells_acyclic.f args) w := by kernel_rfl
def ct_cells_validUndo : Ct := ⟨46, [.val (.st 26), .val (.st 44)], [(.bool, false)]⟩
theorem enter_cells_validUndo (args : Array Value) (w : World) : (callFunc ct_cells_validUndo.f args).run Try.prog w = .ok (.enter ct_cells_validUndo.f args) w := by kernel_rfl
def ann_cells_Valid : Ann := ⟨[0, 1, 2, 3, 5, 7, 34, 37, 38, 39, 44, 48, 50, 51, 52, 53, 59, 62, 63, 64, 65, 91], [(4, ⟨[(2, .bool, false), (38, .int .i64, false)], [], [39, 40, 3, 41, 42, 43, 44, 45], []⟩),
  (12, ⟨[(2, .bool, false), (52, .int .i64, false)], [], [53, 54, 55, 5, 56, 57, 58, 59, 60], []⟩),
  (18, ⟨[(2, .bool, false), (64, .int .i64, false)], [], [65, 66, 67, 7, 68, 69, 70, 71, 72, 73, 74, 75, 76, 77, 78, 79, 80, 81, 82, 83, 84, 85, 86, 87, 88, 89, 90, 91, 92], []⟩)]⟩
def tree_cells_Valid : Tree := (.need [(.imp (.not (.or (.or (.or (.lt (.fld (.tok 0) 5) (.lit (.i 1))) (.lt (.lit (.i 1048576)) (.fld (.tok 0) 5))) (.lt (.fld (.tok 0) 5) (.len (.fld (.tok 0) 0)))) (.lt (.fld (.tok 0) 4) (.lit (.i 0))))) (.ok 0 [(.fld (.tok 0) 1)]))] (.br (.or (.or (.or (.or (.lt (.fld (.tok 0) 5) (.lit (.i 1))) (.lt (.lit (.i 1048576)) (.fld (.tok 0) 5))) (.lt (.fld (.tok 0) 5) (.len (.fld (.tok 0) 0)))) (.lt (.fld (.tok 0) 4) (.lit (.i 0)))) (.not (.call 0 0 [(.fld (.tok 0) 1)]))) (.leaf [(.lit (.b .false))]) (.loop 4 1 [(.lit (.b .false)), (.lit (.i 0))] (.br (.lt (.tok 2) (.len (.fld (.tok 0) 0))) (.need [(.ok 1 [(.tok 0), (.tok 2)])] (.br (.not (.call 1 0 [(.tok 0), (.tok 2)])) (.leaf [(.lit (.b .false))]) (.need [(.rng .i64 (.add (.tok 2) (.lit (.i 1))))] (.back 4 [(.tok 1), (.add (.tok 2) (.lit (.i 1)))])))) (.need [(.ok 2 [(.tok 0)])] (.br (.not (.call 2 0 [(.tok 0)])) (.leaf [(.lit (.b .false))]) (.loop 12 3 [(.tok 1), (.lit (.i 0))] (.br (.lt (.tok 4) (.len (.fld (.tok 0) 2))) (.need [(.le (.lit (.i 0)) (.tok 4)), (.lt (.tok 4) (.len (.fld (.tok 0) 2)))] (.need [(.ok 3 [(.tok 0), (.get (.fld (.tok 0) 2) (.tok 4))])] (.br (.not (.call 3 0 [(.tok 0), (.get (.fld (.tok 0) 2) (.tok 4))])) (.leaf [(.lit (.b .false))]) (.need [(.rng .i64 (.add (.tok 4) (.lit (.i 1))))] (.back 12 [(.tok 3), (.add (.tok 4) (.lit (.i 1)))]))))) (.loop 18 5 [(.tok 3), (.lit (.i 0))] (.br (.lt (.tok 6) (.len (.fld (.tok 0) 3))) (.need [(.le (.lit (.i 0)) (.tok 6)), (.lt (.tok 6) (.len (.fld (.tok 0) 3)))] (.need [(.imp (.not (.or (.lt (.fld (.get (.fld (.tok 0) 3) (.tok 6)) 0) (.lit (.i 1))) (.lt (.fld (.tok 0) 4) (.fld (.get (.fld (.tok 0) 3) (.tok 6)) 0)))) (.ok 4 [(.tok 0), (.fld (.get (.fld (.tok 0) 3) (.tok 6)) 1)])), (.imp (.not (.or (.or (.lt (.fld (.get (.fld (.tok 0) 3) (.tok 6)) 0) (.lit (.i 1))) (.lt (.fld (.tok 0) 4) (.fld (.get (.fld (.tok 0) 3) (.tok 6)) 0))) (.not (.call 4 0 [(.tok 0), (.fld (.get (.fld (.tok 0) 3) (.tok 6)) 1)])))) (.ok 4 [(.tok 0), (.fld (.get (.fld (.tok 0) 3) (.tok 6)) 2)]))] (.br (.or (.or (.or (.lt (.fld (.get (.fld (.tok 0) 3) (.tok 6)) 0) (.lit (.i 1))) (.lt (.fld (.tok 0) 4) (.fld (.get (.fld (.tok 0) 3) (.tok 6)) 0))) (.not (.call 4 0 [(.tok 0), (.fld (.get (.fld (.tok 0) 3) (.tok 6)) 1)]))) (.not (.call 4 0 [(.tok 0), (.fld (.get (.fld (.tok 0) 3) (.tok 6)) 2)]))) (.leaf [(.lit (.b .false))]) (.need [(.rng .i64 (.add (.tok 6) (.lit (.i 1))))] (.back 18 [(.tok 5), (.add (.tok 6) (.lit (.i 1)))]))))) (.leaf [(.lit (.b .true))])))))))))))
set_option maxRecDepth 100000 in
theorem code_cells_Valid (g0 g1 g2 g3 g4 : List D → Option (List D)) : ∀ cd, Try.f23.body = some cd → treeOf Try.prog [(ct_cells_validSymbols, g0), (ct_cells_fits, g1), (ct_cells_acyclic, g2), (ct_cells_validUndo, g3), (ct_cells_ValidCell, g4)] ann_cells_Valid ct_cells_Valid Try.f23 cd = tree_cells_Valid := by
  intro cd h
  injection h with h
  subst h
  kernel_rfl
theorem fok_cells_Valid {g0 g1 g2 g3 g4 : List D → Option (List D)} {g : List D → Option (List D)} (h0 : FOk ct_cells_validSymbols g0) (h1 : FOk ct_cells_fits g1) (h2 : FOk ct_cells_acyclic g2) (h3 : FOk ct_cells_validUndo g3) (h4 : FOk ct_cells_ValidCell g4) (h : ∀ ds outs, WfA ct_cells_Valid.ar ds → g ds = some outs → tree_cells_Valid.go (tblS [(ct_cells_validSymbols, g0), (ct_cells_fits, g1), (ct_cells_acyclic, g2), (ct_cells_validUndo, g3), (ct_cells_ValidCell, g4)]) (fun o => o = outs) ds fun _ _ => False) : FOk ct_cells_Valid g :=
  fok_of ann_cells_Valid Try.f23 _ (.cons h0 (.cons h1 (.cons h2 (.cons h3 (.cons h4 .nil))))) rfl rfl enter_cells_Valid (by decide) fun ds outs hw hg => by rw [code_cells_Valid g0 g1 g2 g3 g4 _ rfl]; exact h ds outs hw hg

def ct_cells_Clone : Ct := ⟨24, [.val (.st 26)], [(.st 26, true)]⟩
theorem enter_cells_Clone (args : Array Value) (w : World) : (callFunc ct_cells_Clone.f args).run Try.prog w = .ok (.enter ct_cells_Clone.f args) w := by kernel_rfl
def ct_slices_Clone_Cell : Ct := ⟨47, [.val (.row 29)], [(.row 29, true)]⟩
theorem enter_slices_Clone_Cell (args : Array Value) (w : World) : (callFunc ct_slices_Clone_Cell.f args).run Try.prog w = .ok (.enter ct_slices_Clone_Cell.f args) w := by kernel_rfl
def ct_slices_Clone_Symbol : Ct := ⟨48, [.val (.row 59)], [(.row 59, true)]⟩
theorem enter_slices_Clone_Symbol (args : Array Value) (w : World) : (callFunc ct_slices_Clone_Symbol.f args).run Try.prog w = .ok (.enter ct_slices_Clone_Symbol.f args) w := by kernel_rfl
def ct_slices_Clone_Undo : Ct := ⟨49, [.val (.row 45)], [(.row 45, true)]⟩
theorem enter_slices_Clone_Undo (args : Array Value) (w : World) : (callFunc ct_slices_Clone_Undo.f args).run Try.prog w = .ok (.enter ct_slices_Clone_Undo.f args) w := by kernel_rfl
def ct_slices_Clone_Wake : Ct := ⟨50, [.val (.row 50)], [(.row 50, true)]⟩
theorem enter_slices_Clone_Wake (args : Array Value) (w : World) : (callFunc ct_slices_Clone_Wake.f args).run Try.prog w = .ok (.enter ct_slices_Clone_Wake.f args) w := by kernel_rfl
def ann_cells_Clone : Ann := ⟨[0, 1, 2], []⟩
def tree_cells_Clone : Tree := (.need [(.ok 0 [(.fld (.tok 0) 0)])] (.need [(.ok 1 [(.fld (.tok 0) 1)])] (.need [(.ok 2 [(.fld (.tok 0) 2)])] (.need [(.ok 3 [(.fld (.tok 0) 3)])] (.leaf [(.set (.set (.set (.set (.tok 0) 0 (.call 0 0 [(.fld (.tok 0) 0)])) 1 (.call 1 0 [(.fld (.tok 0) 1)])) 2 (.call 2 0 [(.fld (.tok 0) 2)])) 3 (.call 3 0 [(.fld (.tok 0) 3)]))])))))
set_option maxRecDepth 100000 in
theorem code_cells_Clone (g0 g1 g2 g3 : List D → Option (List D)) : ∀ cd, Try.f24.body = some cd → treeOf Try.prog [(ct_slices_Clone_Cell, g0), (ct_slices_Clone_Symbol, g1), (ct_slices_Clone_Undo, g2), (ct_slices_Clone_Wake, g3)] ann_cells_Clone ct_cells_Clone Try.f24 cd = tree_cells_Clone := by
  intro cd h
  injection h with h
  subst h
  kernel_rfl
theorem fok_cells_Clone {g0 g1 g2 g3 : List D → Option (List D)} {g : List D → Option (List D)} (h0 : FOk ct_slices_Clone_Cell g0) (h1 : FOk ct_slices_Clone_Symbol g1) (h2 : FOk ct_slices_Clone_Undo g2) (h3 : FOk ct_slices_Clone_Wake g3) (h : ∀ ds outs, WfA ct_cells_Clone.ar ds → g ds = some outs → tree_cells_Clone.go (tblS [(ct_slices_Clone_Cell, g0), (ct_slices_Clone_Symbol, g1), (ct_slices_Clone_Undo, g2), (ct_slices_Clone_Wake, g3)]) (fun o => o = outs) ds fun _ _ => False) : FOk ct_cells_Clone g :=
  fok_of ann_cells_Clone Try.f24 _ (.cons h0 (.cons h1 (.cons h2 (.cons h3 .nil)))) rfl rfl enter_cells_Clone (by decide) fun ds outs hw hg => by rw [code_cells_Clone g0 g1 g2 g3 _ rfl]; exact h ds outs hw hg

def ct_cells_Same : Ct := ⟨25, [.val (.st 26), .val (.st 26)], [(.bool, false)]⟩
theorem enter_cells_Same (args : Array Value) (w : World) : (callFunc ct_cells_Same.f args).run Try.prog w = .ok (.enter ct_cells_Same.f args) w := by kernel_rfl
def ct_slices_Equal_Cell : Ct := ⟨51, [.val (.row 29), .val (.row 29)], [(.bool, false)]⟩
theorem enter_slices_Equal_Cell (args : Array Value) (w : World) : (callFunc ct_slices_Equal_Cell.f args).run Try.prog w = .ok (.enter ct_slices_Equal_Cell.f args) w := by kernel_rfl
def ct_slices_Equal_Symbol : Ct := ⟨52, [.val (.row 59), .val (.row 59)], [(.bool, false)]⟩
theorem enter_slices_Equal_Symbol (args : Array Value) (w : World) : (callFunc ct_slices_Equal_Symbol.f args).run Try.prog w = .ok (.enter ct_slices_Equal_Symbol.f args) w := by kernel_rfl
def ct_slices_Equal_Undo : Ct := ⟨53, [.val (.row 45), .val (.row 45)], [(.bool, false)]⟩
theorem enter_slices_Equal_Undo (args : Array Value) (w : World) : (callFunc ct_slices_Equal_Undo.f args).run Try.prog w = .ok (.enter ct_slices_Equal_Undo.f args) w := by kernel_rfl
def ct_slices_Equal_Wake : Ct := ⟨54, [.val (.row 50), .val (.row 50)], [(.bool, false)]⟩
theorem enter_slices_Equal_Wake (args : Array Value) (w : World) : (callFunc ct_slices_Equal_Wake.f args).run Try.prog w = .ok (.enter ct_slices_Equal_Wake.f args) w := by kernel_rfl
def ann_cells_Same : Ann := ⟨[0, 1, 2, 3, 4], []⟩
def tree_cells_Same : Tree := (.need [(.imp (.and (.eq (.fld (.tok 0) 4) (.fld (.tok 1) 4)) (.eq (.fld (.tok 0) 5) (.fld (.tok 1) 5))) (.ok 0 [(.fld (.tok 0) 0), (.fld (.tok 1) 0)])), (.imp (.and (.and (.eq (.fld (.tok 0) 4) (.fld (.tok 1) 4)) (.eq (.fld (.tok 0) 5) (.fld (.tok 1) 5))) (.call 0 0 [(.fld (.tok 0) 0), (.fld (.tok 1) 0)])) (.ok 1 [(.fld (.tok 0) 1), (.fld (.tok 1) 1)])), (.imp (.and (.and (.and (.eq (.fld (.tok 0) 4) (.fld (.tok 1) 4)) (.eq (.fld (.tok 0) 5) (.fld (.tok 1) 5))) (.call 0 0 [(.fld (.tok 0) 0), (.fld (.tok 1) 0)])) (.call 1 0 [(.fld (.tok 0) 1), (.fld (.tok 1) 1)])) (.ok 2 [(.fld (.tok 0) 2), (.fld (.tok 1) 2)])), (.imp (.and (.and (.and (.and (.eq (.fld (.tok 0) 4) (.fld (.tok 1) 4)) (.eq (.fld (.tok 0) 5) (.fld (.tok 1) 5))) (.call 0 0 [(.fld (.tok 0) 0), (.fld (.tok 1) 0)])) (.call 1 0 [(.fld (.tok 0) 1), (.fld (.tok 1) 1)])) (.call 2 0 [(.fld (.tok 0) 2), (.fld (.tok 1) 2)])) (.ok 3 [(.fld (.tok 0) 3), (.fld (.tok 1) 3)]))] (.leaf [(.and (.and (.and (.and (.and (.eq (.fld (.tok 0) 4) (.fld (.tok 1) 4)) (.eq (.fld (.tok 0) 5) (.fld (.tok 1) 5))) (.call 0 0 [(.fld (.tok 0) 0), (.fld (.tok 1) 0)])) (.call 1 0 [(.fld (.tok 0) 1), (.fld (.tok 1) 1)])) (.call 2 0 [(.fld (.tok 0) 2), (.fld (.tok 1) 2)])) (.call 3 0 [(.fld (.tok 0) 3), (.fld (.tok 1) 3)]))]))
set_option maxRecDepth 100000 in
theorem code_cells_Same (g0 g1 g2 g3 : List D → Option (List D)) : ∀ cd, Try.f25.body = some cd → treeOf Try.prog [(ct_slices_Equal_Cell, g0), (ct_slices_Equal_Symbol, g1), (ct_slices_Equal_Undo, g2), (ct_slices_Equal_Wake, g3)] ann_cells_Same ct_cells_Same Try.f25 cd = tree_cells_Same := by
  intro cd h
  injection h with h
  subst h
  kernel_rfl
theorem fok_cells_Same {g0 g1 g2 g3 : List D → Option (List D)} {g : List D → Option (List D)} (h0 : FOk ct_slices_Equal_Cell g0) (h1 : FOk ct_slices_Equal_Symbol g1) (h2 : FOk ct_slices_Equal_Undo g2) (h3 : FOk ct_slices_Equal_Wake g3) (h : ∀ ds outs, WfA ct_cells_Same.ar ds → g ds = some outs → tree_cells_Same.go (tblS [(ct_slices_Equal_Cell, g0), (ct_slices_Equal_Symbol, g1), (ct_slices_Equal_Undo, g2), (ct_slices_Equal_Wake, g3)]) (fun o => o = outs) ds fun _ _ => False) : FOk ct_cells_Same g :=
  fok_of ann_cells_Same Try.f25 _ (.cons h0 (.cons h1 (.cons h2 (.cons h3 .nil)))) rfl rfl enter_cells_Same (by decide) fun ds outs hw hg => by rw [code_cells_Same g0 g1 g2 g3 _ rfl]; exact h ds outs hw hg

def ann_ref30_symbols : Ann := ⟨[0, 2, 3, 4, 7, 12, 46], [(5, ⟨[(2, .bool, false), (4, .int .i64, false), (3, .map 59 3, false)], [], [9, 10, 11, 12, 15, 16, 17, 18, 19, 20, 21, 22, 23, 24, 25, 26, 27, 28, 29, 30, 31, 32, 33, 34, 35, 36, 37, 38, 39, 40, 41, 42, 43, 44, 45, 46, 47, 48, 49, 50, 51, 13, 14, 8], []⟩)]⟩
def tree_ref30_symbols : Tree := (.br (.lt (.lit (.i 1048576)) (.len (.tok 0))) (.leaf [(.lit (.b .false))]) (.loop 5 1 [(.lit (.b .false)), (.lit (.i 0)), (.lit (.mp []))] (.br (.lt (.tok 2) (.len (.tok 0))) (.need [(.le (.lit (.i 0)) (.tok 2)), (.lt (.tok 2) (.len (.tok 0))), (.imp (.not (.lt (.lit (.i 100)) (.slen (.fld (.get (.tok 0) (.tok 2)) 0)))) (.le (.lit (.i 0)) (.tok 2))), (.imp (.not (.lt (.lit (.i 100)) (.slen (.fld (.get (.tok 0) (.tok 2)) 0)))) (.lt (.tok 2) (.len (.tok 0)))), (.imp (.not (.or (.lt (.lit (.i 100)) (.slen (.fld (.get (.tok 0) (.tok 2)) 0))) (.lt (.fld (.get (.tok 0) (.tok 2)) 1) (.lit (.i 0))))) (.le (.lit (.i 0)) (.tok 2))), (.imp (.not (.or (.lt (.lit (.i 100)) (.slen (.fld (.get (.tok 0) (.tok 2)) 0))) (.lt (.fld (.get (.tok 0) (.tok 2)) 1) (.lit (.i 0))))) (.lt (.tok 2) (.len (.tok 0)))), (.imp (.not (.or (.or (.lt (.lit (.i 100)) (.slen (.fld (.get (.tok 0) (.tok 2)) 0))) (.lt (.fld (.get (.tok 0) (.tok 2)) 1) (.lit (.i 0)))) (.lt (.lit (.i 8)) (.fld (.get (.tok 0) (.tok 2)) 1)))) (.le (.lit (.i 0)) (.tok 2))), (.imp (.not (.or (.or (.lt (.lit (.i 100)) (.slen (.fld (.get (.tok 0) (.tok 2)) 0))) (.lt (.fld (.get (.tok 0) (.tok 2)) 1) (.lit (.i 0)))) (.lt (.lit (.i 8)) (.fld (.get (.tok 0) (.tok 2)) 1)))) (.lt (.tok 2) (.len (.tok 0))))] (.br (.or (.or (.or (.lt (.lit (.i 100)) (.slen (.fld (.get (.tok 0) (.tok 2)) 0))) (.lt (.fld (.get (.tok 0) (.tok 2)) 1) (.lit (.i 0)))) (.lt (.lit (.i 8)) (.fld (.get (.tok 0) (.tok 2)) 1))) (.eq (.fn 0 [(.tok 3), (.get (.tok 0) (.tok 2)), (.lit (.i 0))]) (.lit (.i 1)))) (.leaf [(.lit (.b .false))]) (.need [(.le (.lit (.i 0)) (.tok 2)), (.lt (.tok 2) (.len (.tok 0)))] (.need [(.rng .i64 (.add (.tok 2) (.lit (.i 1))))] (.back 5 [(.tok 1), (.add (.tok 2) (.lit (.i 1))), (.fn 2 [(.tok 3), (.get (.tok 0) (.tok 2)), (.lit (.i 1))])]))))) (.leaf [(.lit (.b .true))]))))
set_option maxRecDepth 100000 in
theorem code_ref30_symbols : ∀ cd, Try.f26.body = some cd → treeOf Try.prog [] ann_ref30_symbols ct_ref30_symbols Try.f26 cd = tree_ref30_symbols := by
  intro cd h
  injection h with h
  subst h
  kernel_rfl
theorem fok_ref30_symbols {g : List D → Option (List D)}  (h : ∀ ds outs, WfA ct_ref30_symbols.ar ds → g ds = some outs → tree_ref30_symbols.go (tblS []) (fun o => o = outs) ds fun _ _ => False) : FOk ct_ref30_symbols g :=
  fok_of ann_ref30_symbols Try.f26 _ .nil rfl rfl enter_ref30_symbols (by decide) fun ds outs hw hg => by rw [code_ref30_symbols  _ rfl]; exact h ds outs hw hg

def ann_ref30_cell : Ann := ⟨[0, 1, 2, 4, 5, 6, 7, 15, 29, 32, 40, 50], [(7, ⟨[(4, .bool, false), (7, .int .i64, false)], [], [30, 31, 32, 35, 36, 37, 38, 39, 40, 33, 34], []⟩)]⟩
def tree_ref30_cell : Tree := (.need [(.le (.lit (.i 0)) (.tok 1)), (.lt (.tok 1) (.len (.fld (.tok 0) 0)))] (.br (.eq (.fld (.get (.fld (.tok 0) 0) (.tok 1)) 0) (.lit (.i 4))) (.need [(.ok 0 [(.tok 0), (.fld (.get (.fld (.tok 0) 0) (.tok 1)) 1)])] (.need [(.imp (.not (.lt (.call 0 0 [(.tok 0), (.fld (.get (.fld (.tok 0) 0) (.tok 1)) 1)]) (.lit (.i 1)))) (.rng .i64 (.add (.tok 1) (.call 0 0 [(.tok 0), (.fld (.get (.fld (.tok 0) 0) (.tok 1)) 1)])))), (.imp (.not (.lt (.call 0 0 [(.tok 0), (.fld (.get (.fld (.tok 0) 0) (.tok 1)) 1)]) (.lit (.i 1)))) (.ok 1 [(.tok 0), (.add (.tok 1) (.call 0 0 [(.tok 0), (.fld (.get (.fld (.tok 0) 0) (.tok 1)) 1)]))]))] (.br (.or (.lt (.call 0 0 [(.tok 0), (.fld (.get (.fld (.tok 0) 0) (.tok 1)) 1)]) (.lit (.i 1))) (.not (.call 1 0 [(.tok 0), (.add (.tok 1) (.call 0 0 [(.tok 0), (.fld (.get (.fld (.tok 0) 0) (.tok 1)) 1)]))]))) (.leaf [(.lit (.b .false))]) (.loop 7 2 [(.lit (.b .false)), (.lit (.i 1))] (.br (.le (.tok 3) (.call 0 0 [(.tok 0), (.fld (.get (.fld (.tok 0) 0) (.tok 1)) 1)])) (.need [(.rng .i64 (.add (.tok 1) (.tok 3))), (.ok 2 [(.tok 0), (.add (.tok 1) (.tok 3))])] (.br (.eq (.call 2 0 [(.tok 0), (.add (.tok 1) (.tok 3))]) (.lit (.i 4))) (.leaf [(.lit (.b .false))]) (.need [(.rng .i64 (.add (.tok 3) (.lit (.i 1))))] (.back 7 [(.tok 2), (.add (.tok 3) (.lit (.i 1)))])))) (.leaf [(.lit (.b .true))])))))) (.need [(.ok 3 [(.tok 0), (.get (.fld (.tok 0) 0) (.tok 1))]), (.imp (.not (.not (.call 3 0 [(.tok 0), (.get (.fld (.tok 0) 0) (.tok 1))]))) (.ok 4 [(.tok 0), (.tok 1)]))] (.br (.or (.not (.call 3 0 [(.tok 0), (.get (.fld (.tok 0) 0) (.tok 1))])) (.not (.call 4 0 [(.tok 0), (.tok 1)]))) (.leaf [(.lit (.b .false))]) (.need [(.imp (.and (.not (.not (.eq (.fld (.get (.fld (.tok 0) 0) (.tok 1)) 0) (.lit (.i 5))))) (.eq (.fld (.get (.fld (.tok 0) 0) (.tok 1)) 1) (.tok 1))) (.ok 5 [(.tok 0), (.tok 1)]))] (.leaf [(.or (.not (.eq (.fld (.get (.fld (.tok 0) 0) (.tok 1)) 0) (.lit (.i 5)))) (.and (.eq (.fld (.get (.fld (.tok 0) 0) (.tok 1)) 1) (.tok 1)) (.call 5 0 [(.tok 0), (.tok 1)])))]))))))
set_option maxRecDepth 100000 in
theorem code_ref30_cell (g0 g1 g2 g3 g4 g5 : List D → Option (List D)) : ∀ cd, Try.f27.body = some cd → treeOf Try.prog [(ct_ref30_arity, g0), (ct_ref30_ranged, g1), (ct_ref30_tag, g2), (ct_ref30_ValidCell, g3), (ct_ref30_ends, g4), (ct_ref30_group, g5)] ann_ref30_cell ct_ref30_cell Try.f27 cd = tree_ref30_cell := by
  intro cd h
  injection h with h
  subst h
  kernel_rfl
theorem fok_ref30_cell {g0 g1 g2 g3 g4 g5 : List D → Option (List D)} {g : List D → Option (List D)} (h0 : FOk ct_ref30_arity g0) (h1 : FOk ct_ref30_ranged g1) (h2 : FOk ct_ref30_tag g2) (h3 : FOk ct_ref30_ValidCell g3) (h4 : FOk ct_ref30_ends g4) (h5 : FOk ct_ref30_group g5) (h : ∀ ds outs, WfA ct_ref30_cell.ar ds → g ds = some outs → tree_ref30_cell.go (tblS [(ct_ref30_arity, g0), (ct_ref30_ranged, g1), (ct_ref30_tag, g2), (ct_ref30_ValidCell, g3), (ct_ref30_ends, g4), (ct_ref30_group, g5)]) (fun o => o = outs) ds fun _ _ => False) : FOk ct_ref30_cell g :=
  fok_of ann_ref30_cell Try.f27 _ (.cons h0 (.cons h1 (.cons h2 (.cons h3 (.cons h4 (.cons h5 .nil)))))) rfl rfl enter_ref30_cell (by decide) fun ds outs hw hg => by rw [code_ref30_cell g0 g1 g2 g3 g4 g5 _ rfl]; exact h ds outs hw hg

def ann_ref30_old : Ann := ⟨[0, 1, 2, 3, 4, 5, 11, 14, 15, 22, 41], []⟩
def tree_ref30_old : Tree := (.need [(.ok 0 [(.tok 0), (.fld (.tok 1) 0)])] (.br (.not (.call 0 0 [(.tok 0), (.fld (.tok 1) 0)])) (.leaf [(.lit (.b .false))]) (.br (.eq (.fld (.fld (.tok 1) 1) 0) (.lit (.i 0))) (.leaf [(.eq (.fld (.fld (.tok 1) 1) 1) (.fld (.tok 1) 0))]) (.br (.eq (.fld (.fld (.tok 1) 1) 0) (.lit (.i 5))) (.need [(.imp (.eq (.fld (.fld (.tok 1) 1) 1) (.fld (.tok 1) 0)) (.ok 1 [(.tok 0), (.fld (.tok 1) 0)])), (.imp (.and (.eq (.fld (.fld (.tok 1) 1) 1) (.fld (.tok 1) 0)) (.call 1 0 [(.tok 0), (.fld (.tok 1) 0)])) (.rng .i64 (.sub (.fld (.tok 1) 0) (.lit (.i 1))))), (.imp (.and (.eq (.fld (.fld (.tok 1) 1) 1) (.fld (.tok 1) 0)) (.call 1 0 [(.tok 0), (.fld (.tok 1) 0)])) (.ok 2 [(.tok 0), (.sub (.fld (.tok 1) 0) (.lit (.i 1)))]))] (.leaf [(.and (.and (.eq (.fld (.fld (.tok 1) 1) 1) (.fld (.tok 1) 0)) (.call 1 0 [(.tok 0), (.fld (.tok 1) 0)])) (.not (.eq (.call 2 0 [(.tok 0), (.sub (.fld (.tok 1) 0) (.lit (.i 1)))]) (.lit (.i 5)))))])) (.br (.eq (.fld (.fld (.tok 1) 1) 0) (.lit (.i 1))) (.br (.eq (.fld (.fld (.tok 1) 1) 0) (.lit (.i 1))) (.need [(.ok 3 [(.tok 0), (.fld (.tok 1) 1)])] (.leaf [(.call 3 0 [(.tok 0), (.fld (.tok 1) 1)])])) (.leaf [(.lit (.b .false))])) (.br (.eq (.fld (.fld (.tok 1) 1) 0) (.lit (.i 2))) (.br (.eq (.fld (.fld (.tok 1) 1) 0) (.lit (.i 2))) (.need [(.ok 3 [(.tok 0), (.fld (.tok 1) 1)])] (.leaf [(.call 3 0 [(.tok 0), (.fld (.tok 1) 1)])])) (.leaf [(.lit (.b .false))])) (.br (.eq (.fld (.fld (.tok 1) 1) 0) (.lit (.i 3))) (.need [(.ok 3 [(.tok 0), (.fld (.tok 1) 1)])] (.leaf [(.call 3 0 [(.tok 0), (.fld (.tok 1) 1)])])) (.leaf [(.lit (.b .false))]))))))))
set_option maxRecDepth 100000 in
theorem code_ref30_old (g0 g1 g2 g3 : List D → Option (List D)) : ∀ cd, Try.f28.body = some cd → treeOf Try.prog [(ct_ref30_ranged, g0), (ct_ref30_group, g1), (ct_ref30_tag, g2), (ct_ref30_ValidCell, g3)] ann_ref30_old ct_ref30_old Try.f28 cd = tree_ref30_old := by
  intro cd h
  injection h with h
  subst h
  kernel_rfl
theorem fok_ref30_old {g0 g1 g2 g3 : List D → Option (List D)} {g : List D → Option (List D)} (h0 : FOk ct_ref30_ranged g0) (h1 : FOk ct_ref30_group g1) (h2 : FOk ct_ref30_tag g2) (h3 : FOk ct_ref30_ValidCell g3) (h : ∀ ds outs, WfA ct_ref30_old.ar ds → g ds = some outs → tree_ref30_old.go (tblS [(ct_ref30_ranged, g0), (ct_ref30_group, g1), (ct_ref30_tag, g2), (ct_ref30_ValidCell, g3)]) (fun o => o = outs) ds fun _ _ => False) : FOk ct_ref30_old g :=
  fok_of ann_ref30_old Try.f28 _ (.cons h0 (.cons h1 (.cons h2 (.cons h3 .nil)))) rfl rfl enter_ref30_old (by decide) fun ds outs hw hg => by rw [code_ref30_old g0 g1 g2 g3 _ rfl]; exact h ds outs hw hg

def ann_cells_validSymbols : Ann := ⟨[0, 2, 3, 5, 8, 12, 13, 14, 15, 36], [(5, ⟨[(2, .bool, false), (14, .int .i64, false), (3, .map 59 4, false)], [], [15, 16, 17, 5, 18, 19, 20, 21, 22, 23, 24, 25, 26, 27, 28, 29, 30, 31, 32, 33, 34, 35, 36, 37, 38, 39, 11], []⟩)]⟩
def tree_cells_validSymbols : Tree := (.br (.lt (.lit (.i 1048576)) (.len (.tok 0))) (.leaf [(.lit (.b .false))]) (.loop 5 1 [(.lit (.b .false)), (.lit (.i 0)), (.lit (.mp []))] (.br (.lt (.tok 2) (.len (.tok 0))) (.need [(.le (.lit (.i 0)) (.tok 2)), (.lt (.tok 2) (.len (.tok 0)))] (.br (.or (.or (.or (.lt (.lit (.i 100)) (.slen (.fld (.get (.tok 0) (.tok 2)) 0))) (.lt (.fld (.get (.tok 0) (.tok 2)) 1) (.lit (.i 0)))) (.lt (.lit (.i 8)) (.fld (.get (.tok 0) (.tok 2)) 1))) (.fn 0 [(.tok 3), (.get (.tok 0) (.tok 2)), (.lit (.b .false))])) (.leaf [(.lit (.b .false))]) (.need [(.rng .i64 (.add (.tok 2) (.lit (.i 1))))] (.back 5 [(.tok 1), (.add (.tok 2) (.lit (.i 1))), (.fn 2 [(.tok 3), (.get (.tok 0) (.tok 2)), (.lit (.b .true))])])))) (.leaf [(.lit (.b .true))]))))
set_option maxRecDepth 100000 in
theorem code_cells_validSymbols : ∀ cd, Try.f43.body = some cd → treeOf Try.prog [] ann_cells_validSymbols ct_cells_validSymbols Try.f43 cd = tree_cells_validSymbols := by
  intro cd h
  injection h with h
  subst h
  kernel_rfl
theorem fok_cells_validSymbols {g : List D → Option (List D)}  (h : ∀ ds outs, WfA ct_cells_validSymbols.ar ds → g ds = some outs → tree_cells_validSymbols.go (tblS []) (fun o => o = outs) ds fun _ _ => False) : FOk ct_cells_validSymbols g :=
  fok_of ann_cells_validSymbols Try.f43 _ .nil rfl rfl enter_cells_validSymbols (by decide) fun ds outs hw hg => by rw [code_cells_validSymbols  _ rfl]; exact h ds outs hw hg

def ann_cells_fits : Ann := ⟨[0, 1, 2, 4, 5, 6, 7, 8, 15, 16, 23, 30, 41, 42], [(8, ⟨[(4, .bool, false), (7, .int .i64, false)], [], [26, 27, 28, 29, 30, 33, 34, 35, 8, 36, 37, 38, 39, 40, 41, 31, 32], []⟩)]⟩
def tree_cells_fits : Tree := (.need [(.le (.lit (.i 0)) (.tok 1)), (.lt (.tok 1) (.len (.fld (.tok 0) 0)))] (.br (.eq (.fld (.get (.fld (.tok 0) 0) (.tok 1)) 0) (.lit (.i 4))) (.need [(.ok 0 [(.tok 0), (.fld (.get (.fld (.tok 0) 0) (.tok 1)) 1)])] (.br (.lt (.call 0 0 [(.tok 0), (.fld (.get (.fld (.tok 0) 0) (.tok 1)) 1)]) (.lit (.i 1))) (.leaf [(.lit (.b .false))]) (.need [(.rng .i64 (.add (.tok 1) (.lit (.i 1))))] (.loop 8 2 [(.lit (.b .false)), (.add (.tok 1) (.lit (.i 1)))] (.need [(.rng .i64 (.add (.tok 1) (.call 0 0 [(.tok 0), (.fld (.get (.fld (.tok 0) 0) (.tok 1)) 1)])))] (.br (.le (.tok 3) (.add (.tok 1) (.call 0 0 [(.tok 0), (.fld (.get (.fld (.tok 0) 0) (.tok 1)) 1)]))) (.need [(.ok 1 [(.tok 0), (.tok 3)])] (.br (.or (.lt (.call 1 0 [(.tok 0), (.tok 3)]) (.lit (.i 0))) (.eq (.call 1 0 [(.tok 0), (.tok 3)]) (.lit (.i 4)))) (.leaf [(.lit (.b .false))]) (.need [(.rng .i64 (.add (.tok 3) (.lit (.i 1))))] (.back 8 [(.tok 2), (.add (.tok 3) (.lit (.i 1)))])))) (.leaf [(.lit (.b .true))]))))))) (.br (.eq (.fld (.get (.fld (.tok 0) 0) (.tok 1)) 0) (.lit (.i 5))) (.need [(.imp (.eq (.fld (.get (.fld (.tok 0) 0) (.tok 1)) 1) (.tok 1)) (.ok 2 [(.tok 0), (.tok 1)]))] (.leaf [(.and (.eq (.fld (.get (.fld (.tok 0) 0) (.tok 1)) 1) (.tok 1)) (.call 2 0 [(.tok 0), (.tok 1)]))])) (.need [(.ok 3 [(.tok 0), (.get (.fld (.tok 0) 0) (.tok 1))])] (.leaf [(.call 3 0 [(.tok 0), (.get (.fld (.tok 0) 0) (.tok 1))])])))))
set_option maxRecDepth 100000 in
theorem code_cells_fits (g0 g1 g2 g3 : List D → Option (List D)) : ∀ cd, Try.f44.body = some cd → treeOf Try.prog [(ct_cells_arity, g0), (ct_cells_tag, g1), (ct_cells_group, g2), (ct_cells_ValidCell, g3)] ann_cells_fits ct_cells_fits Try.f44 cd = tree_cells_fits := by
  intro cd h
  injection h with h
  subst h
  kernel_rfl
theorem fok_cells_fits {g0 g1 g2 g3 : List D → Option (List D)} {g : List D → Option (List D)} (h0 : FOk ct_cells_arity g0) (h1 : FOk ct_cells_tag g1) (h2 : FOk ct_cells_group g2) (h3 : FOk ct_cells_ValidCell g3) (h : ∀ ds outs, WfA ct_cells_fits.ar ds → g ds = some outs → tree_cells_fits.go (tblS [(ct_cells_arity, g0), (ct_cells_tag, g1), (ct_cells_group, g2), (ct_cells_ValidCell, g3)]) (fun o => o = outs) ds fun _ _ => False) : FOk ct_cells_fits g :=
  fok_of ann_cells_fits Try.f44 _ (.cons h0 (.cons h1 (.cons h2 (.cons h3 .nil)))) rfl rfl enter_cells_fits (by decide) fun ds outs hw hg => by rw [code_cells_fits g0 g1 g2 g3 _ rfl]; exact h ds outs hw hg

def ann_cells_acyclic : Ann := ⟨[0, 1, 2, 3, 4, 5, 6, 7, 9, 16, 17, 18, 25, 46, 53, 54, 55, 56, 57], [(3, ⟨[(2, .bool, false), (17, .int .i64, false), (3, .row 3, false)], [], [18, 19, 4, 5, 20, 6, 21, 22, 23, 24, 25, 26, 27, 28, 29, 30, 31, 32, 33, 34, 35, 36, 37, 7, 38, 39, 40, 41, 42, 43, 44, 45, 46, 47, 48, 49, 50, 51, 52, 53, 54, 55, 56, 57, 58, 59, 9, 60, 61, 62, 63, 64, 13], []⟩),
  (7, ⟨[(5, .row 3, false), (6, .int .i64, false), (2, .bool, false), (3, .row 3, false)], [], [21, 22, 23, 24, 25, 26, 27, 28, 29, 30, 31, 32, 33, 34, 35, 36, 37, 7, 38, 39, 40, 41, 42, 43, 44, 45, 46, 47, 48, 49, 50, 51, 52, 53, 13, 60], []⟩),
  (16, ⟨[(56, .int .i64, false), (3, .row 3, false)], [], [57, 58, 59, 9, 60, 61, 62, 63, 13, 21, 26, 49], []⟩)]⟩
def tree_cells_acyclic : Tree := (.need [(.le (.lit (.i 0)) (.len (.fld (.tok 0) 0))), (.le (.len (.fld (.tok 0) 0)) (.lit (.i 16777216)))] (.loop 3 1 [(.lit (.b .false)), (.lit (.i 0)), (.rep (.len (.fld (.tok 0) 0)) (.lit (.i 0)))] (.br (.lt (.tok 2) (.len (.fld (.tok 0) 0))) (.loop 7 4 [(.lit (.r [])), (.tok 2), (.tok 1), (.tok 3)] (.need [(.le (.lit (.i 0)) (.tok 5)), (.lt (.tok 5) (.len (.tok 7)))] (.br (.eq (.get (.tok 7) (.tok 5)) (.lit (.i 0))) (.need [(.le (.lit (.i 0)) (.tok 5)), (.lt (.tok 5) (.len (.tok 7)))] (.need [(.le (.add (.len (.tok 4)) (.lit (.i 1))) (.lit (.i 34359738368)))] (.need [(.le (.lit (.i 0)) (.tok 5)), (.lt (.tok 5) (.len (.fld (.tok 0) 0)))] (.br (.or (.not (.eq (.fld (.get (.fld (.tok 0) 0) (.tok 5)) 0) (.lit (.i 0)))) (.eq (.fld (.get (.fld (.tok 0) 0) (.tok 5)) 1) (.tok 5))) (.loop 16 8 [(.lit (.i 0)), (.put (.tok 7) (.tok 5) (.lit (.i 1)))] (.br (.lt (.tok 8) (.len (.app (.tok 4) (.row [(.tok 5)])))) (.need [(.le (.lit (.i 0)) (.tok 8)), (.lt (.tok 8) (.len (.app (.tok 4) (.row [(.tok 5)]))))] (.need [(.le (.lit (.i 0)) (.get (.app (.tok 4) (.row [(.tok 5)])) (.tok 8))), (.lt (.get (.app (.tok 4) (.row [(.tok 5)])) (.tok 8)) (.len (.tok 9)))] (.need [(.rng .i64 (.add (.tok 8) (.lit (.i 1))))] (.back 16 [(.add (.tok 8) (.lit (.i 1))), (.put (.tok 9) (.get (.app (.tok 4) (.row [(.tok 5)])) (.tok 8)) (.lit (.i 2)))])))) (.need [(.rng .i64 (.add (.tok 2) (.lit (.i 1))))] (.back 3 [(.tok 6), (.add (.tok 2) (.lit (.i 1))), (.tok 9)])))) (.need [(.le (.lit (.i 0)) (.fld (.get (.fld (.tok 0) 0) (.tok 5)) 1)), (.lt (.fld (.get (.fld (.tok 0) 0) (.tok 5)) 1) (.len (.put (.tok 7) (.tok 5) (.lit (.i 1)))))] (.br (.eq (.get (.put (.tok 7) (.tok 5) (.lit (.i 1))) (.fld (.get (.fld (.tok 0) 0) (.tok 5)) 1)) (.lit (.i 1))) (.leaf [(.lit (.b .false))]) (.back 7 [(.app (.tok 4) (.row [(.tok 5)])), (.fld (.get (.fld (.tok 0) 0) (.tok 5)) 1), (.tok 6), (.put (.tok 7) (.tok 5) (.lit (.i 1)))]))))))) (.loop 16 8 [(.lit (.i 0)), (.tok 7)] (.br (.lt (.tok 8) (.len (.tok 4))) (.need [(.le (.lit (.i 0)) (.tok 8)), (.lt (.tok 8) (.len (.tok 4)))] (.need [(.le (.lit (.i 0)) (.get (.tok 4) (.tok 8))), (.lt (.get (.tok 4) (.tok 8)) (.len (.tok 9)))] (.need [(.rng .i64 (.add (.tok 8) (.lit (.i 1))))] (.back 16 [(.add (.tok 8) (.lit (.i 1))), (.put (.tok 9) (.get (.tok 4) (.tok 8)) (.lit (.i 2)))])))) (.need [(.rng .i64 (.add (.tok 2) (.lit (.i 1))))] (.back 3 [(.tok 6), (.add (.tok 2) (.lit (.i 1))), (.tok 9)]))))))) (.leaf [(.lit (.b .true))]))))
set_option maxRecDepth 100000 in
theorem code_cells_acyclic : ∀ cd, Try.f45.body = some cd → treeOf Try.prog [] ann_cells_acyclic ct_cells_acyclic Try.f45 cd = tree_cells_acyclic := by
  intro cd h
  injection h with h
  subst h
  kernel_rfl
theorem fok_cells_acyclic {g : List D → Option (List D)}  (h : ∀ ds outs, WfA ct_cells_acyclic.ar ds → g ds = some outs → tree_cells_acyclic.go (tblS []) (fun o => o = outs) ds fun _ _ => False) : FOk ct_cells_acyclic g :=
  fok_of ann_cells_acyclic Try.f45 _ .nil rfl rfl enter_cells_acyclic (by decide) fun ds outs hw hg => by rw [code_cells_acyclic  _ rfl]; exact h ds outs hw hg

def ann_cells_validUndo : Ann := ⟨[0, 1, 2, 3, 4, 5, 11, 14, 15, 22, 41], []⟩
def tree_cells_validUndo : Tree := (.need [(.ok 0 [(.tok 0), (.fld (.tok 1) 0)])] (.br (.lt (.call 0 0 [(.tok 0), (.fld (.tok 1) 0)]) (.lit (.i 0))) (.leaf [(.lit (.b .false))]) (.br (.eq (.fld (.fld (.tok 1) 1) 0) (.lit (.i 0))) (.leaf [(.eq (.fld (.fld (.tok 1) 1) 1) (.fld (.tok 1) 0))]) (.br (.eq (.fld (.fld (.tok 1) 1) 0) (.lit (.i 5))) (.need [(.imp (.eq (.fld (.fld (.tok 1) 1) 1) (.fld (.tok 1) 0)) (.ok 1 [(.tok 0), (.fld (.tok 1) 0)])), (.imp (.and (.eq (.fld (.fld (.tok 1) 1) 1) (.fld (.tok 1) 0)) (.call 1 0 [(.tok 0), (.fld (.tok 1) 0)])) (.rng .i64 (.sub (.fld (.tok 1) 0) (.lit (.i 1))))), (.imp (.and (.eq (.fld (.fld (.tok 1) 1) 1) (.fld (.tok 1) 0)) (.call 1 0 [(.tok 0), (.fld (.tok 1) 0)])) (.ok 0 [(.tok 0), (.sub (.fld (.tok 1) 0) (.lit (.i 1)))]))] (.leaf [(.and (.and (.eq (.fld (.fld (.tok 1) 1) 1) (.fld (.tok 1) 0)) (.call 1 0 [(.tok 0), (.fld (.tok 1) 0)])) (.not (.eq (.call 0 0 [(.tok 0), (.sub (.fld (.tok 1) 0) (.lit (.i 1)))]) (.lit (.i 5)))))])) (.br (.eq (.fld (.fld (.tok 1) 1) 0) (.lit (.i 1))) (.br (.eq (.fld (.fld (.tok 1) 1) 0) (.lit (.i 1))) (.need [(.ok 2 [(.tok 0), (.fld (.tok 1) 1)])] (.leaf [(.call 2 0 [(.tok 0), (.fld (.tok 1) 1)])])) (.leaf [(.lit (.b .false))])) (.br (.eq (.fld (.fld (.tok 1) 1) 0) (.lit (.i 2))) (.br (.eq (.fld (.fld (.tok 1) 1) 0) (.lit (.i 2))) (.need [(.ok 2 [(.tok 0), (.fld (.tok 1) 1)])] (.leaf [(.call 2 0 [(.tok 0), (.fld (.tok 1) 1)])])) (.leaf [(.lit (.b .false))])) (.br (.eq (.fld (.fld (.tok 1) 1) 0) (.lit (.i 3))) (.need [(.ok 2 [(.tok 0), (.fld (.tok 1) 1)])] (.leaf [(.call 2 0 [(.tok 0), (.fld (.tok 1) 1)])])) (.leaf [(.lit (.b .false))]))))))))
set_option maxRecDepth 100000 in
theorem code_cells_validUndo (g0 g1 g2 : List D → Option (List D)) : ∀ cd, Try.f46.body = some cd → treeOf Try.prog [(ct_cells_tag, g0), (ct_cells_group, g1), (ct_cells_ValidCell, g2)] ann_cells_validUndo ct_cells_validUndo Try.f46 cd = tree_cells_validUndo := by
  intro cd h
  injection h with h
  subst h
  kernel_rfl
theorem fok_cells_validUndo {g0 g1 g2 : List D → Option (List D)} {g : List D → Option (List D)} (h0 : FOk ct_cells_tag g0) (h1 : FOk ct_cells_group g1) (h2 : FOk ct_cells_ValidCell g2) (h : ∀ ds outs, WfA ct_cells_validUndo.ar ds → g ds = some outs → tree_cells_validUndo.go (tblS [(ct_cells_tag, g0), (ct_cells_group, g1), (ct_cells_ValidCell, g2)]) (fun o => o = outs) ds fun _ _ => False) : FOk ct_cells_validUndo g :=
  fok_of ann_cells_validUndo Try.f46 _ (.cons h0 (.cons h1 (.cons h2 .nil))) rfl rfl enter_cells_validUndo (by decide) fun ds outs hw hg => by rw [code_cells_validUndo g0 g1 g2 _ rfl]; exact h ds outs hw hg

def ann_slices_Clone_Cell : Ann := ⟨[0, 2, 4], []⟩
def tree_slices_Clone_Cell : Tree := (.amb (.tok 0) .false (.leaf [(.lit (.r []))]) (.need [(.le (.add (.lit (.i 0)) (.len (.tok 0))) (.lit (.i 34359738368)))] (.leaf [(.app (.row []) (.tok 0))])))
set_option maxRecDepth 100000 in
theorem code_slices_Clone_Cell : ∀ cd, Try.f47.body = some cd → treeOf Try.prog [] ann_slices_Clone_Cell ct_slices_Clone_Cell Try.f47 cd = tree_slices_Clone_Cell := by
  intro cd h
  injection h with h
  subst h
  kernel_rfl
theorem fok_slices_Clone_Cell {g : List D → Option (List D)}  (h : ∀ ds outs, WfA ct_slices_Clone_Cell.ar ds → g ds = some outs → tree_slices_Clone_Cell.go (tblS []) (fun o => o = outs) ds fun _ _ => False) : FOk ct_slices_Clone_Cell g :=
  fok_of ann_slices_Clone_Cell Try.f47 _ .nil rfl rfl enter_slices_Clone_Cell (by decide) fun ds outs hw hg => by rw [code_slices_Clone_Cell  _ rfl]; exact h ds outs hw hg

def ann_slices_Clone_Symbol : Ann := ⟨[0, 2, 4], []⟩
def tree_slices_Clone_Symbol : Tree := (.amb (.tok 0) .false (.leaf [(.lit (.r []))]) (.need [(.le (.add (.lit (.i 0)) (.len (.tok 0))) (.lit (.i 34359738368)))] (.leaf [(.app (.row []) (.tok 0))])))
set_option maxRecDepth 100000 in
theorem code_slices_Clone_Symbol : ∀ cd, Try.f48.body = some cd → treeOf Try.prog [] ann_slices_Clone_Symbol ct_slices_Clone_Symbol Try.f48 cd = tree_slices_Clone_Symbol := by
  intro cd h
  injection h with h
  subst h
  kernel_rfl
theorem fok_slices_Clone_Symbol {g : List D → Option (List D)}  (h : ∀ ds outs, WfA ct_slices_Clone_Symbol.ar ds → g ds = some outs → tree_slices_Clone_Symbol.go (tblS []) (fun o => o = outs) ds fun _ _ => False) : FOk ct_slices_Clone_Symbol g :=
  fok_of ann_slices_Clone_Symbol Try.f48 _ .nil rfl rfl enter_slices_Clone_Symbol (by decide) fun ds outs hw hg => by rw [code_slices_Clone_Symbol  _ rfl]; exact h ds outs hw hg

def ann_slices_Clone_Undo : Ann := ⟨[0, 2, 4], []⟩
def tree_slices_Clone_Undo : Tree := (.amb (.tok 0) .false (.leaf [(.lit (.r []))]) (.need [(.le (.add (.lit (.i 0)) (.len (.tok 0))) (.lit (.i 34359738368)))] (.leaf [(.app (.row []) (.tok 0))])))
set_option maxRecDepth 100000 in
theorem code_slices_Clone_Undo : ∀ cd, Try.f49.body = some cd → treeOf Try.prog [] ann_slices_Clone_Undo ct_slices_Clone_Undo Try.f49 cd = tree_slices_Clone_Undo := by
  intro cd h
  injection h with h
  subst h
  kernel_rfl
theorem fok_slices_Clone_Undo {g : List D → Option (List D)}  (h : ∀ ds outs, WfA ct_slices_Clone_Undo.ar ds → g ds = some outs → tree_slices_Clone_Undo.go (tblS []) (fun o => o = outs) ds fun _ _ => False) : FOk ct_slices_Clone_Undo g :=
  fok_of ann_slices_Clone_Undo Try.f49 _ .nil rfl rfl enter_slices_Clone_Undo (by decide) fun ds outs hw hg => by rw [code_slices_Clone_Undo  _ rfl]; exact h ds outs hw hg

def ann_slices_Clone_Wake : Ann := ⟨[0, 2, 4], []⟩
def tree_slices_Clone_Wake : Tree := (.amb (.tok 0) .false (.leaf [(.lit (.r []))]) (.need [(.le (.add (.lit (.i 0)) (.len (.tok 0))) (.lit (.i 34359738368)))] (.leaf [(.app (.row []) (.tok 0))])))
set_option maxRecDepth 100000 in
theorem code_slices_Clone_Wake : ∀ cd, Try.f50.body = some cd → treeOf Try.prog [] ann_slices_Clone_Wake ct_slices_Clone_Wake Try.f50 cd = tree_slices_Clone_Wake := by
  intro cd h
  injection h with h
  subst h
  kernel_rfl
theorem fok_slices_Clone_Wake {g : List D → Option (List D)}  (h : ∀ ds outs, WfA ct_slices_Clone_Wake.ar ds → g ds = some outs → tree_slices_Clone_Wake.go (tblS []) (fun o => o = outs) ds fun _ _ => False) : FOk ct_slices_Clone_Wake g :=
  fok_of ann_slices_Clone_Wake Try.f50 _ .nil rfl rfl enter_slices_Clone_Wake (by decide) fun ds outs hw hg => by rw [code_slices_Clone_Wake  _ rfl]; exact h ds outs hw hg

def ann_slices_Equal_Cell : Ann := ⟨[0, 1, 4, 5, 10, 12, 13, 14, 24], [(4, ⟨[(4, .bool, false), (13, .int .i64, false)], [], [14, 15, 5, 16, 17, 18, 19, 20, 21, 22, 23, 24, 25], []⟩)]⟩
def tree_slices_Equal_Cell : Tree := (.br (.not (.eq (.len (.tok 0)) (.len (.tok 1)))) (.leaf [(.lit (.b .false))]) (.loop 4 2 [(.lit (.b .false)), (.lit (.i 0))] (.br (.lt (.tok 3) (.len (.tok 0))) (.need [(.le (.lit (.i 0)) (.tok 3)), (.lt (.tok 3) (.len (.tok 1))), (.le (.lit (.i 0)) (.tok 3)), (.lt (.tok 3) (.len (.tok 0)))] (.br (.not (.eq (.get (.tok 0) (.tok 3)) (.get (.tok 1) (.tok 3)))) (.leaf [(.lit (.b .false))]) (.need [(.rng .i64 (.add (.tok 3) (.lit (.i 1))))] (.back 4 [(.tok 2), (.add (.tok 3) (.lit (.i 1)))])))) (.leaf [(.lit (.b .true))]))))
set_option maxRecDepth 100000 in
theorem code_slices_Equal_Cell : ∀ cd, Try.f51.body = some cd → treeOf Try.prog [] ann_slices_Equal_Cell ct_slices_Equal_Cell Try.f51 cd = tree_slices_Equal_Cell := by
  intro cd h
  injection h with h
  subst h
  kernel_rfl
theorem fok_slices_Equal_Cell {g : List D → Option (List D)}  (h : ∀ ds outs, WfA ct_slices_Equal_Cell.ar ds → g ds = some outs → tree_slices_Equal_Cell.go (tblS []) (fun o => o = outs) ds fun _ _ => False) : FOk ct_slices_Equal_Cell g :=
  fok_of ann_slices_Equal_Cell Try.f51 _ .nil rfl rfl enter_slices_Equal_Cell (by decide) fun ds outs hw hg => by rw [code_slices_Equal_Cell  _ rfl]; exact h ds outs hw hg

def ann_slices_Equal_Symbol : Ann := ⟨[0, 1, 4, 5, 10, 12, 13, 14, 24], [(4, ⟨[(4, .bool, false), (13, .int .i64, false)], [], [14, 15, 5, 16, 17, 18, 19, 20, 21, 22, 23, 24, 25], []⟩)]⟩
def tree_slices_Equal_Symbol : Tree := (.br (.not (.eq (.len (.tok 0)) (.len (.tok 1)))) (.leaf [(.lit (.b .false))]) (.loop 4 2 [(.lit (.b .false)), (.lit (.i 0))] (.br (.lt (.tok 3) (.len (.tok 0))) (.need [(.le (.lit (.i 0)) (.tok 3)), (.lt (.tok 3) (.len (.tok 1))), (.le (.lit (.i 0)) (.tok 3)), (.lt (.tok 3) (.len (.tok 0)))] (.br (.not (.eq (.get (.tok 0) (.tok 3)) (.get (.tok 1) (.tok 3)))) (.leaf [(.lit (.b .false))]) (.need [(.rng .i64 (.add (.tok 3) (.lit (.i 1))))] (.back 4 [(.tok 2), (.add (.tok 3) (.lit (.i 1)))])))) (.leaf [(.lit (.b .true))]))))
set_option maxRecDepth 100000 in
theorem code_slices_Equal_Symbol : ∀ cd, Try.f52.body = some cd → treeOf Try.prog [] ann_slices_Equal_Symbol ct_slices_Equal_Symbol Try.f52 cd = tree_slices_Equal_Symbol := by
  intro cd h
  injection h with h
  subst h
  kernel_rfl
theorem fok_slices_Equal_Symbol {g : List D → Option (List D)}  (h : ∀ ds outs, WfA ct_slices_Equal_Symbol.ar ds → g ds = some outs → tree_slices_Equal_Symbol.go (tblS []) (fun o => o = outs) ds fun _ _ => False) : FOk ct_slices_Equal_Symbol g :=
  fok_of ann_slices_Equal_Symbol Try.f52 _ .nil rfl rfl enter_slices_Equal_Symbol (by decide) fun ds outs hw hg => by rw [code_slices_Equal_Symbol  _ rfl]; exact h ds outs hw hg

def ann_slices_Equal_Undo : Ann := ⟨[0, 1, 4, 5, 10, 12, 13, 14, 24], [(4, ⟨[(4, .bool, false), (13, .int .i64, false)], [], [14, 15, 5, 16, 17, 18, 19, 20, 21, 22, 23, 24, 25], []⟩)]⟩
def tree_slices_Equal_Undo : Tree := (.br (.not (.eq (.len (.tok 0)) (.len (.tok 1)))) (.leaf [(.lit (.b .false))]) (.loop 4 2 [(.lit (.b .false)), (.lit (.i 0))] (.br (.lt (.tok 3) (.len (.tok 0))) (.need [(.le (.lit (.i 0)) (.tok 3)), (.lt (.tok 3) (.len (.tok 1))), (.le (.lit (.i 0)) (.tok 3)), (.lt (.tok 3) (.len (.tok 0)))] (.br (.not (.eq (.get (.tok 0) (.tok 3)) (.get (.tok 1) (.tok 3)))) (.leaf [(.lit (.b .false))]) (.need [(.rng .i64 (.add (.tok 3) (.lit (.i 1))))] (.back 4 [(.tok 2), (.add (.tok 3) (.lit (.i 1)))])))) (.leaf [(.lit (.b .true))]))))
set_option maxRecDepth 100000 in
theorem code_slices_Equal_Undo : ∀ cd, Try.f53.body = some cd → treeOf Try.prog [] ann_slices_Equal_Undo ct_slices_Equal_Undo Try.f53 cd = tree_slices_Equal_Undo := by
  intro cd h
  injection h with h
  subst h
  kernel_rfl
theorem fok_slices_Equal_Undo {g : List D → Option (List D)}  (h : ∀ ds outs, WfA ct_slices_Equal_Undo.ar ds → g ds = some outs → tree_slices_Equal_Undo.go (tblS []) (fun o => o = outs) ds fun _ _ => False) : FOk ct_slices_Equal_Undo g :=
  fok_of ann_slices_Equal_Undo Try.f53 _ .nil rfl rfl enter_slices_Equal_Undo (by decide) fun ds outs hw hg => by rw [code_slices_Equal_Undo  _ rfl]; exact h ds outs hw hg

def ann_slices_Equal_Wake : Ann := ⟨[0, 1, 4, 5, 10, 12, 13, 14, 24], [(4, ⟨[(4, .bool, false), (13, .int .i64, false)], [], [14, 15, 5, 16, 17, 18, 19, 20, 21, 22, 23, 24, 25], []⟩)]⟩
def tree_slices_Equal_Wake : Tree := (.br (.not (.eq (.len (.tok 0)) (.len (.tok 1)))) (.leaf [(.lit (.b .false))]) (.loop 4 2 [(.lit (.b .false)), (.lit (.i 0))] (.br (.lt (.tok 3) (.len (.tok 0))) (.need [(.le (.lit (.i 0)) (.tok 3)), (.lt (.tok 3) (.len (.tok 1))), (.le (.lit (.i 0)) (.tok 3)), (.lt (.tok 3) (.len (.tok 0)))] (.br (.not (.eq (.get (.tok 0) (.tok 3)) (.get (.tok 1) (.tok 3)))) (.leaf [(.lit (.b .false))]) (.need [(.rng .i64 (.add (.tok 3) (.lit (.i 1))))] (.back 4 [(.tok 2), (.add (.tok 3) (.lit (.i 1)))])))) (.leaf [(.lit (.b .true))]))))
set_option maxRecDepth 100000 in
theorem code_slices_Equal_Wake : ∀ cd, Try.f54.body = some cd → treeOf Try.prog [] ann_slices_Equal_Wake ct_slices_Equal_Wake Try.f54 cd = tree_slices_Equal_Wake := by
  intro cd h
  injection h with h
  subst h
  kernel_rfl
theorem fok_slices_Equal_Wake {g : List D → Option (List D)}  (h : ∀ ds outs, WfA ct_slices_Equal_Wake.ar ds → g ds = some outs → tree_slices_Equal_Wake.go (tblS []) (fun o => o = outs) ds fun _ _ => False) : FOk ct_slices_Equal_Wake g :=
  fok_of ann_slices_Equal_Wake Try.f54 _ .nil rfl rfl enter_slices_Equal_Wake (by decide) fun ds outs hw hg => by rw [code_slices_Equal_Wake  _ rfl]; exact h ds outs hw hg

def ct_law31_TrailSets : Ct := ⟨3, [.val (.st 26), .val (.int .i64), .val (.st 28)], [(.bool, false)]⟩
theorem enter_law31_TrailSets (args : Array Value) (w : World) : (callFunc ct_law31_TrailSets.f args).run Try.prog w = .ok (.enter ct_law31_TrailSets.f args) w := by kernel_rfl
def ct_law31_awake : Ct := ⟨9, [], [(.bool, false)]⟩
theorem enter_law31_awake (args : Array Value) (w : World) : (callFunc ct_law31_awake.f args).run Try.prog w = .ok (.enter ct_law31_awake.f args) w := by kernel_rfl
def ann_law31_TrailSets : Ann := ⟨[0, 1, 2, 3, 5, 6, 7, 8, 9, 10, 11, 12, 15], []⟩
def tree_law31_TrailSets : Tree := (.need [(.ok 0 [(.tok 0)])] (.br (.not (.call 0 0 [(.tok 0)])) (.need [(.ok 1 [])] (.leaf [(.call 1 0 [])])) (.need [(.ok 2 [(.tok 0)]), (.ok 2 [(.tok 0)]), (.ok 2 [(.tok 0)]), (.ok 2 [(.tok 0)]), (.ok 2 [(.tok 0)])] (.need [(.ok 3 [(.tok 0)])] (.need [(.ok 4 [(.tok 0)])] (.need [(.ok 5 [(.call 2 0 [(.tok 0)]), (.tok 1), (.tok 2)])] (.need [(.ok 6 [(.call 2 0 [(.tok 0)]), (.tok 1), (.tok 2)])] (.need [(.imp (.and (.not (.not (.call 3 0 [(.tok 0)]))) (.eq (.call 5 0 [(.call 2 0 [(.tok 0)]), (.tok 1), (.tok 2)]) (.call 6 0 [(.call 2 0 [(.tok 0)]), (.tok 1), (.tok 2)]))) (.ok 7 [(.call 5 1 [(.call 2 0 [(.tok 0)]), (.tok 1), (.tok 2)]), (.call 6 1 [(.call 2 0 [(.tok 0)]), (.tok 1), (.tok 2)])])), (.imp (.or (.not (.call 3 0 [(.tok 0)])) (.and (.and (.eq (.call 5 0 [(.call 2 0 [(.tok 0)]), (.tok 1), (.tok 2)]) (.call 6 0 [(.call 2 0 [(.tok 0)]), (.tok 1), (.tok 2)])) (.call 7 0 [(.call 5 1 [(.call 2 0 [(.tok 0)]), (.tok 1), (.tok 2)]), (.call 6 1 [(.call 2 0 [(.tok 0)]), (.tok 1), (.tok 2)])])) (.eq (.call 4 0 [(.tok 0)]) (.len (.fld (.tok 0) 2))))) (.ok 8 [(.tok 1), (.tok 2)])), (.imp (.and (.or (.not (.call 3 0 [(.tok 0)])) (.and (.and (.eq (.call 5 0 [(.call 2 0 [(.tok 0)]), (.tok 1), (.tok 2)]) (.call 6 0 [(.call 2 0 [(.tok 0)]), (.tok 1), (.tok 2)])) (.call 7 0 [(.call 5 1 [(.call 2 0 [(.tok 0)]), (.tok 1), (.tok 2)]), (.call 6 1 [(.call 2 0 [(.tok 0)]), (.tok 1), (.tok 2)])])) (.eq (.call 4 0 [(.tok 0)]) (.len (.fld (.tok 0) 2))))) (.eq (.call 8 0 [(.tok 1), (.tok 2)]) (.lit (.i 1)))) (.ok 1 []))] (.leaf [(.and (.and (.or (.not (.call 3 0 [(.tok 0)])) (.and (.and (.eq (.call 5 0 [(.call 2 0 [(.tok 0)]), (.tok 1), (.tok 2)]) (.call 6 0 [(.call 2 0 [(.tok 0)]), (.tok 1), (.tok 2)])) (.call 7 0 [(.call 5 1 [(.call 2 0 [(.tok 0)]), (.tok 1), (.tok 2)]), (.call 6 1 [(.call 2 0 [(.tok 0)]), (.tok 1), (.tok 2)])])) (.eq (.call 4 0 [(.tok 0)]) (.len (.fld (.tok 0) 2))))) (.eq (.call 8 0 [(.tok 1), (.tok 2)]) (.lit (.i 1)))) (.call 1 0 []))])))))))))
set_option maxRecDepth 100000 in
theorem code_law31_TrailSets (g0 g1 g2 g3 g4 g5 g6 g7 g8 : List D → Option (List D)) : ∀ cd, Try.f3.body = some cd → treeOf Try.prog [(ct_law31_small, g0), (ct_law31_awake, g1), (ct_ref30_Clone, g2), (ct_ref30_Valid, g3), (ct_trail_Mark, g4), (ct_trail_Set, g5), (ct_ref31_Set, g6), (ct_ref30_Same, g7), (ct_trail_Set_n, g8)] ann_law31_TrailSets ct_law31_TrailSets Try.f3 cd = tree_law31_TrailSets := by
  intro cd h
  injection h with h
  subst h
  kernel_rfl
theorem fok_law31_TrailSets {g0 g1 g2 g3 g4 g5 g6 g7 g8 : List D → Option (List D)} {g : List D → Option (List D)} (h0 : FOk ct_law31_small g0) (h1 : FOk ct_law31_awake g1) (h2 : FOk ct_ref30_Clone g2) (h3 : FOk ct_ref30_Valid g3) (h4 : FOk ct_trail_Mark g4) (h5 : FOk ct_trail_Set g5) (h6 : FOk ct_ref31_Set g6) (h7 : FOk ct_ref30_Same g7) (h8 : FOk ct_trail_Set_n g8) (h : ∀ ds outs, WfA ct_law31_TrailSets.ar ds → g ds = some outs → tree_law31_TrailSets.go (tblS [(ct_law31_small, g0), (ct_law31_awake, g1), (ct_ref30_Clone, g2), (ct_ref30_Valid, g3), (ct_trail_Mark, g4), (ct_trail_Set, g5), (ct_ref31_Set, g6), (ct_ref30_Same, g7), (ct_trail_Set_n, g8)]) (fun o => o = outs) ds fun _ _ => False) : FOk ct_law31_TrailSets g :=
  fok_of ann_law31_TrailSets Try.f3 _ (.cons h0 (.cons h1 (.cons h2 (.cons h3 (.cons h4 (.cons h5 (.cons h6 (.cons h7 (.cons h8 .nil))))))))) rfl rfl enter_law31_TrailSets (by decide) fun ds outs hw hg => by rw [code_law31_TrailSets g0 g1 g2 g3 g4 g5 g6 g7 g8 _ rfl]; exact h ds outs hw hg

def ct_law31_TrailNested : Ct := ⟨6, [.val (.st 26), .val (.int .i64), .val (.int .i64), .val (.int .i64), .val (.int .i64)], [(.bool, false)]⟩
theorem enter_law31_TrailNested (args : Array Value) (w : World) : (callFunc ct_law31_TrailNested.f args).run Try.prog w = .ok (.enter ct_law31_TrailNested.f args) w := by kernel_rfl
def ann_law31_TrailNested : Ann := ⟨[0, 1, 2, 3, 4, 5, 10, 11, 12, 13, 14, 32, 46], []⟩
def tree_law31_TrailNested : Tree := (.need [(.ok 0 [(.tok 0)]), (.imp (.not (.not (.call 0 0 [(.tok 0)]))) (.ok 1 [(.tok 0)]))] (.br (.or (.or (.or (.not (.call 0 0 [(.tok 0)])) (.not (.call 1 0 [(.tok 0)]))) (.lt (.tok 1) (.tok 3))) (.lt (.tok 2) (.tok 4))) (.need [(.ok 2 [])] (.leaf [(.call 2 0 [])])) (.need [(.ok 3 [(.tok 0)]), (.ok 3 [(.tok 0)]), (.ok 3 [(.tok 0)]), (.ok 3 [(.tok 0)]), (.ok 3 [(.tok 0)])] (.need [(.ok 4 [(.call 3 0 [(.tok 0)]), (.tok 1), (.tok 2)]), (.imp (.not (.not (.eq (.call 4 0 [(.call 3 0 [(.tok 0)]), (.tok 1), (.tok 2)]) (.lit (.i 0))))) (.ok 1 [(.call 4 1 [(.call 3 0 [(.tok 0)]), (.tok 1), (.tok 2)])]))] (.br (.or (.not (.eq (.call 4 0 [(.call 3 0 [(.tok 0)]), (.tok 1), (.tok 2)]) (.lit (.i 0)))) (.not (.call 1 0 [(.call 4 1 [(.call 3 0 [(.tok 0)]), (.tok 1), (.tok 2)])]))) (.need [(.ok 2 [])] (.leaf [(.call 2 0 [])])) (.need [(.ok 4 [(.call 4 1 [(.call 3 0 [(.tok 0)]), (.tok 1), (.tok 2)]), (.tok 3), (.tok 4)]), (.ok 4 [(.call 3 0 [(.tok 0)]), (.tok 3), (.tok 4)])] (.need [(.imp (.and (.eq (.call 4 0 [(.call 4 1 [(.call 3 0 [(.tok 0)]), (.tok 1), (.tok 2)]), (.tok 3), (.tok 4)]) (.call 4 0 [(.call 3 0 [(.tok 0)]), (.tok 3), (.tok 4)])) (.not (.not (.eq (.call 4 0 [(.call 4 1 [(.call 3 0 [(.tok 0)]), (.tok 1), (.tok 2)]), (.tok 3), (.tok 4)]) (.lit (.i 0)))))) (.ok 5 [(.call 4 1 [(.call 4 1 [(.call 3 0 [(.tok 0)]), (.tok 1), (.tok 2)]), (.tok 3), (.tok 4)]), (.call 4 1 [(.call 3 0 [(.tok 0)]), (.tok 3), (.tok 4)])])), (.imp (.and (.eq (.call 4 0 [(.call 4 1 [(.call 3 0 [(.tok 0)]), (.tok 1), (.tok 2)]), (.tok 3), (.tok 4)]) (.call 4 0 [(.call 3 0 [(.tok 0)]), (.tok 3), (.tok 4)])) (.or (.not (.eq (.call 4 0 [(.call 4 1 [(.call 3 0 [(.tok 0)]), (.tok 1), (.tok 2)]), (.tok 3), (.tok 4)]) (.lit (.i 0)))) (.call 5 0 [(.call 4 1 [(.call 4 1 [(.call 3 0 [(.tok 0)]), (.tok 1), (.tok 2)]), (.tok 3), (.tok 4)]), (.call 4 1 [(.call 3 0 [(.tok 0)]), (.tok 3), (.tok 4)])]))) (.ok 2 []))] (.leaf [(.and (.and (.eq (.call 4 0 [(.call 4 1 [(.call 3 0 [(.tok 0)]), (.tok 1), (.tok 2)]), (.tok 3), (.tok 4)]) (.call 4 0 [(.call 3 0 [(.tok 0)]), (.tok 3), (.tok 4)])) (.or (.not (.eq (.call 4 0 [(.call 4 1 [(.call 3 0 [(.tok 0)]), (.tok 1), (.tok 2)]), (.tok 3), (.tok 4)]) (.lit (.i 0)))) (.call 5 0 [(.call 4 1 [(.call 4 1 [(.call 3 0 [(.tok 0)]), (.tok 1), (.tok 2)]), (.tok 3), (.tok 4)]), (.call 4 1 [(.call 3 0 [(.tok 0)]), (.tok 3), (.tok 4)])]))) (.call 2 0 []))]))))))))
set_option maxRecDepth 100000 in
theorem code_law31_TrailNested (g0 g1 g2 g3 g4 g5 : List D → Option (List D)) : ∀ cd, Try.f6.body = some cd → treeOf Try.prog [(ct_law31_small, g0), (ct_cells_Valid, g1), (ct_law31_awake, g2), (ct_cells_Clone, g3), (ct_trail_Undo, g4), (ct_cells_Same, g5)] ann_law31_TrailNested ct_law31_TrailNested Try.f6 cd = tree_law31_TrailNested := by
  intro cd h
  injection h with h
  subst h
  kernel_rfl
theorem fok_law31_TrailNested {g0 g1 g2 g3 g4 g5 : List D → Option (List D)} {g : List D → Option (List D)} (h0 : FOk ct_law31_small g0) (h1 : FOk ct_cells_Valid g1) (h2 : FOk ct_law31_awake g2) (h3 : FOk ct_cells_Clone g3) (h4 : FOk ct_trail_Undo g4) (h5 : FOk ct_cells_Same g5) (h : ∀ ds outs, WfA ct_law31_TrailNested.ar ds → g ds = some outs → tree_law31_TrailNested.go (tblS [(ct_law31_small, g0), (ct_cells_Valid, g1), (ct_law31_awake, g2), (ct_cells_Clone, g3), (ct_trail_Undo, g4), (ct_cells_Same, g5)]) (fun o => o = outs) ds fun _ _ => False) : FOk ct_law31_TrailNested g :=
  fok_of ann_law31_TrailNested Try.f6 _ (.cons h0 (.cons h1 (.cons h2 (.cons h3 (.cons h4 (.cons h5 .nil)))))) rfl rfl enter_law31_TrailNested (by decide) fun ds outs hw hg => by rw [code_law31_TrailNested g0 g1 g2 g3 g4 g5 _ rfl]; exact h ds outs hw hg

def ann_law31_awake : Ann := ⟨[0, 1, 2, 3, 4, 5], []⟩
def tree_law31_awake : Tree := (.need [(.ok 0 [])] (.need [(.ok 1 [(.lit (.i 0))]), (.ok 2 [(.call 0 0 []), (.lit (.i 1)), (.call 1 0 [(.lit (.i 0))])])] (.need [(.ok 3 [(.lit (.i 5))]), (.ok 2 [(.call 2 1 [(.call 0 0 []), (.lit (.i 1)), (.call 1 0 [(.lit (.i 0))])]), (.lit (.i 0)), (.call 3 0 [(.lit (.i 5))])])] (.need [(.imp (.and (.and (.eq (.len (.fld (.call 2 1 [(.call 2 1 [(.call 0 0 []), (.lit (.i 1)), (.call 1 0 [(.lit (.i 0))])]), (.lit (.i 0)), (.call 3 0 [(.lit (.i 5))])]) 0)) (.lit (.i 3))) (.eq (.get (.fld (.call 2 1 [(.call 2 1 [(.call 0 0 []), (.lit (.i 1)), (.call 1 0 [(.lit (.i 0))])]), (.lit (.i 0)), (.call 3 0 [(.lit (.i 5))])]) 0) (.lit (.i 1))) (.call 1 0 [(.lit (.i 0))]))) (.eq (.get (.fld (.call 2 1 [(.call 2 1 [(.call 0 0 []), (.lit (.i 1)), (.call 1 0 [(.lit (.i 0))])]), (.lit (.i 0)), (.call 3 0 [(.lit (.i 5))])]) 0) (.lit (.i 0))) (.call 3 0 [(.lit (.i 5))]))) (.ok 4 [(.call 2 1 [(.call 2 1 [(.call 0 0 []), (.lit (.i 1)), (.call 1 0 [(.lit (.i 0))])]), (.lit (.i 0)), (.call 3 0 [(.lit (.i 5))])])])), (.imp (.and (.eq (.len (.fld (.call 2 1 [(.call 2 1 [(.call 0 0 []), (.lit (.i 1)), (.call 1 0 [(.lit (.i 0))])]), (.lit (.i 0)), (.call 3 0 [(.lit (.i 5))])]) 0)) (.lit (.i 3))) (.eq (.get (.fld (.call 2 1 [(.call 2 1 [(.call 0 0 []), (.lit (.i 1)), (.call 1 0 [(.lit (.i 0))])]), (.lit (.i 0)), (.call 3 0 [(.lit (.i 5))])]) 0) (.lit (.i 1))) (.call 1 0 [(.lit (.i 0))]))) (.ok 3 [(.lit (.i 5))])), (.imp (.and (.eq (.len (.fld (.call 2 1 [(.call 2 1 [(.call 0 0 []), (.lit (.i 1)), (.call 1 0 [(.lit (.i 0))])]), (.lit (.i 0)), (.call 3 0 [(.lit (.i 5))])]) 0)) (.lit (.i 3))) (.eq (.get (.fld (.call 2 1 [(.call 2 1 [(.call 0 0 []), (.lit (.i 1)), (.call 1 0 [(.lit (.i 0))])]), (.lit (.i 0)), (.call 3 0 [(.lit (.i 5))])]) 0) (.lit (.i 1))) (.call 1 0 [(.lit (.i 0))]))) (.lit (.b .true))), (.imp (.and (.eq (.len (.fld (.call 2 1 [(.call 2 1 [(.call 0 0 []), (.lit (.i 1)), (.call 1 0 [(.lit (.i 0))])]), (.lit (.i 0)), (.call 3 0 [(.lit (.i 5))])]) 0)) (.lit (.i 3))) (.eq (.get (.fld (.call 2 1 [(.call 2 1 [(.call 0 0 []), (.lit (.i 1)), (.call 1 0 [(.lit (.i 0))])]), (.lit (.i 0)), (.call 3 0 [(.lit (.i 5))])]) 0) (.lit (.i 1))) (.call 1 0 [(.lit (.i 0))]))) (.lt (.lit (.i 0)) (.len (.fld (.call 2 1 [(.call 2 1 [(.call 0 0 []), (.lit (.i 1)), (.call 1 0 [(.lit (.i 0))])]), (.lit (.i 0)), (.call 3 0 [(.lit (.i 5))])]) 0)))), (.imp (.and (.eq (.len (.fld (.call 2 1 [(.call 2 1 [(.call 0 0 []), (.lit (.i 1)), (.call 1 0 [(.lit (.i 0))])]), (.lit (.i 0)), (.call 3 0 [(.lit (.i 5))])]) 0)) (.lit (.i 3))) (.eq (.get (.fld (.call 2 1 [(.call 2 1 [(.call 0 0 []), (.lit (.i 1)), (.call 1 0 [(.lit (.i 0))])]), (.lit (.i 0)), (.call 3 0 [(.lit (.i 5))])]) 0) (.lit (.i 1))) (.call 1 0 [(.lit (.i 0))]))) (.ok 3 [(.lit (.i 5))])), (.imp (.and (.eq (.len (.fld (.call 2 1 [(.call 2 1 [(.call 0 0 []), (.lit (.i 1)), (.call 1 0 [(.lit (.i 0))])]), (.lit (.i 0)), (.call 3 0 [(.lit (.i 5))])]) 0)) (.lit (.i 3))) (.eq (.get (.fld (.call 2 1 [(.call 2 1 [(.call 0 0 []), (.lit (.i 1)), (.call 1 0 [(.lit (.i 0))])]), (.lit (.i 0)), (.call 3 0 [(.lit (.i 5))])]) 0) (.lit (.i 1))) (.call 1 0 [(.lit (.i 0))]))) (.lit (.b .true))), (.imp (.and (.eq (.len (.fld (.call 2 1 [(.call 2 1 [(.call 0 0 []), (.lit (.i 1)), (.call 1 0 [(.lit (.i 0))])]), (.lit (.i 0)), (.call 3 0 [(.lit (.i 5))])]) 0)) (.lit (.i 3))) (.eq (.get (.fld (.call 2 1 [(.call 2 1 [(.call 0 0 []), (.lit (.i 1)), (.call 1 0 [(.lit (.i 0))])]), (.lit (.i 0)), (.call 3 0 [(.lit (.i 5))])]) 0) (.lit (.i 1))) (.call 1 0 [(.lit (.i 0))]))) (.lt (.lit (.i 0)) (.len (.fld (.call 2 1 [(.call 2 1 [(.call 0 0 []), (.lit (.i 1)), (.call 1 0 [(.lit (.i 0))])]), (.lit (.i 0)), (.call 3 0 [(.lit (.i 5))])]) 0)))), (.imp (.and (.eq (.len (.fld (.call 2 1 [(.call 2 1 [(.call 0 0 []), (.lit (.i 1)), (.call 1 0 [(.lit (.i 0))])]), (.lit (.i 0)), (.call 3 0 [(.lit (.i 5))])]) 0)) (.lit (.i 3))) (.eq (.get (.fld (.call 2 1 [(.call 2 1 [(.call 0 0 []), (.lit (.i 1)), (.call 1 0 [(.lit (.i 0))])]), (.lit (.i 0)), (.call 3 0 [(.lit (.i 5))])]) 0) (.lit (.i 1))) (.call 1 0 [(.lit (.i 0))]))) (.ok 3 [(.lit (.i 5))])), (.imp (.eq (.len (.fld (.call 2 1 [(.call 2 1 [(.call 0 0 []), (.lit (.i 1)), (.call 1 0 [(.lit (.i 0))])]), (.lit (.i 0)), (.call 3 0 [(.lit (.i 5))])]) 0)) (.lit (.i 3))) (.ok 1 [(.lit (.i 0))])), (.imp (.eq (.len (.fld (.call 2 1 [(.call 2 1 [(.call 0 0 []), (.lit (.i 1)), (.call 1 0 [(.lit (.i 0))])]), (.lit (.i 0)), (.call 3 0 [(.lit (.i 5))])]) 0)) (.lit (.i 3))) (.lit (.b .true))), (.imp (.eq (.len (.fld (.call 2 1 [(.call 2 1 [(.call 0 0 []), (.lit (.i 1)), (.call 1 0 [(.lit (.i 0))])]), (.lit (.i 0)), (.call 3 0 [(.lit (.i 5))])]) 0)) (.lit (.i 3))) (.lt (.lit (.i 1)) (.len (.fld (.call 2 1 [(.call 2 1 [(.call 0 0 []), (.lit (.i 1)), (.call 1 0 [(.lit (.i 0))])]), (.lit (.i 0)), (.call 3 0 [(.lit (.i 5))])]) 0)))), (.imp (.eq (.len (.fld (.call 2 1 [(.call 2 1 [(.call 0 0 []), (.lit (.i 1)), (.call 1 0 [(.lit (.i 0))])]), (.lit (.i 0)), (.call 3 0 [(.lit (.i 5))])]) 0)) (.lit (.i 3))) (.ok 1 [(.lit (.i 0))])), (.imp (.eq (.len (.fld (.call 2 1 [(.call 2 1 [(.call 0 0 []), (.lit (.i 1)), (.call 1 0 [(.lit (.i 0))])]), (.lit (.i 0)), (.call 3 0 [(.lit (.i 5))])]) 0)) (.lit (.i 3))) (.lit (.b .true))), (.imp (.eq (.len (.fld (.call 2 1 [(.call 2 1 [(.call 0 0 []), (.lit (.i 1)), (.call 1 0 [(.lit (.i 0))])]), (.lit (.i 0)), (.call 3 0 [(.lit (.i 5))])]) 0)) (.lit (.i 3))) (.lt (.lit (.i 1)) (.len (.fld (.call 2 1 [(.call 2 1 [(.call 0 0 []), (.lit (.i 1)), (.call 1 0 [(.lit (.i 0))])]), (.lit (.i 0)), (.call 3 0 [(.lit (.i 5))])]) 0)))), (.imp (.eq (.len (.fld (.call 2 1 [(.call 2 1 [(.call 0 0 []), (.lit (.i 1)), (.call 1 0 [(.lit (.i 0))])]), (.lit (.i 0)), (.call 3 0 [(.lit (.i 5))])]) 0)) (.lit (.i 3))) (.ok 1 [(.lit (.i 0))]))] (.need [(.ok 5 [(.call 2 1 [(.call 2 1 [(.call 0 0 []), (.lit (.i 1)), (.call 1 0 [(.lit (.i 0))])]), (.lit (.i 0)), (.call 3 0 [(.lit (.i 5))])]), (.lit (.i 1)), (.lit (.i 3))])] (.need [(.imp (.and (.and (.and (.and (.and (.eq (.call 2 0 [(.call 0 0 []), (.lit (.i 1)), (.call 1 0 [(.lit (.i 0))])]) (.lit (.i 0))) (.eq (.call 2 0 [(.call 2 1 [(.call 0 0 []), (.lit (.i 1)), (.call 1 0 [(.lit (.i 0))])]), (.lit (.i 0)), (.call 3 0 [(.lit (.i 5))])]) (.lit (.i 0)))) (.and (.and (.and (.eq (.len (.fld (.call 2 1 [(.call 2 1 [(.call 0 0 []), (.lit (.i 1)), (.call 1 0 [(.lit (.i 0))])]), (.lit (.i 0)), (.call 3 0 [(.lit (.i 5))])]) 0)) (.lit (.i 3))) (.eq (.get (.fld (.call 2 1 [(.call 2 1 [(.call 0 0 []), (.lit (.i 1)), (.call 1 0 [(.lit (.i 0))])]), (.lit (.i 0)), (.call 3 0 [(.lit (.i 5))])]) 0) (.lit (.i 1))) (.call 1 0 [(.lit (.i 0))]))) (.eq (.get (.fld (.call 2 1 [(.call 2 1 [(.call 0 0 []), (.lit (.i 1)), (.call 1 0 [(.lit (.i 0))])]), (.lit (.i 0)), (.call 3 0 [(.lit (.i 5))])]) 0) (.lit (.i 0))) (.call 3 0 [(.lit (.i 5))]))) (.eq (.call 4 0 [(.call 2 1 [(.call 2 1 [(.call 0 0 []), (.lit (.i 1)), (.call 1 0 [(.lit (.i 0))])]), (.lit (.i 0)), (.call 3 0 [(.lit (.i 5))])])]) (.lit (.i 2))))) (.eq (.call 5 0 [(.call 2 1 [(.call 2 1 [(.call 0 0 []), (.lit (.i 1)), (.call 1 0 [(.lit (.i 0))])]), (.lit (.i 0)), (.call 3 0 [(.lit (.i 5))])]), (.lit (.i 1)), (.lit (.i 3))]) (.lit (.i 0)))) (.eq (.len (.fld (.call 5 1 [(.call 2 1 [(.call 2 1 [(.call 0 0 []), (.lit (.i 1)), (.call 1 0 [(.lit (.i 0))])]), (.lit (.i 0)), (.call 3 0 [(.lit (.i 5))])]), (.lit (.i 1)), (.lit (.i 3))]) 2)) (.lit (.i 1)))) (.eq (.get (.fld (.call 5 1 [(.call 2 1 [(.call 2 1 [(.call 0 0 []), (.lit (.i 1)), (.call 1 0 [(.lit (.i 0))])]), (.lit (.i 0)), (.call 3 0 [(.lit (.i 5))])]), (.lit (.i 1)), (.lit (.i 3))]) 2) (.lit (.i 0))) (.mk [(.lit (.i 1)), (.call 1 0 [(.lit (.i 1))])]))) (.ok 1 [(.lit (.i 0))])), (.imp (.and (.and (.and (.and (.and (.eq (.call 2 0 [(.call 0 0 []), (.lit (.i 1)), (.call 1 0 [(.lit (.i 0))])]) (.lit (.i 0))) (.eq (.call 2 0 [(.call 2 1 [(.call 0 0 []), (.lit (.i 1)), (.call 1 0 [(.lit (.i 0))])]), (.lit (.i 0)), (.call 3 0 [(.lit (.i 5))])]) (.lit (.i 0)))) (.and (.and (.and (.eq (.len (.fld (.call 2 1 [(.call 2 1 [(.call 0 0 []), (.lit (.i 1)), (.call 1 0 [(.lit (.i 0))])]), (.lit (.i 0)), (.call 3 0 [(.lit (.i 5))])]) 0)) (.lit (.i 3))) (.eq (.get (.fld (.call 2 1 [(.call 2 1 [(.call 0 0 []), (.lit (.i 1)), (.call 1 0 [(.lit (.i 0))])]), (.lit (.i 0)), (.call 3 0 [(.lit (.i 5))])]) 0) (.lit (.i 1))) (.call 1 0 [(.lit (.i 0))]))) (.eq (.get (.fld (.call 2 1 [(.call 2 1 [(.call 0 0 []), (.lit (.i 1)), (.call 1 0 [(.lit (.i 0))])]), (.lit (.i 0)), (.call 3 0 [(.lit (.i 5))])]) 0) (.lit (.i 0))) (.call 3 0 [(.lit (.i 5))]))) (.eq (.call 4 0 [(.call 2 1 [(.call 2 1 [(.call 0 0 []), (.lit (.i 1)), (.call 1 0 [(.lit (.i 0))])]), (.lit (.i 0)), (.call 3 0 [(.lit (.i 5))])])]) (.lit (.i 2))))) (.eq (.call 5 0 [(.call 2 1 [(.call 2 1 [(.call 0 0 []), (.lit (.i 1)), (.call 1 0 [(.lit (.i 0))])]), (.lit (.i 0)), (.call 3 0 [(.lit (.i 5))])]), (.lit (.i 1)), (.lit (.i 3))]) (.lit (.i 0)))) (.eq (.len (.fld (.call 5 1 [(.call 2 1 [(.call 2 1 [(.call 0 0 []), (.lit (.i 1)), (.call 1 0 [(.lit (.i 0))])]), (.lit (.i 0)), (.call 3 0 [(.lit (.i 5))])]), (.lit (.i 1)), (.lit (.i 3))]) 2)) (.lit (.i 1)))) (.eq (.get (.fld (.call 5 1 [(.call 2 1 [(.call 2 1 [(.call 0 0 []), (.lit (.i 1)), (.call 1 0 [(.lit (.i 0))])]), (.lit (.i 0)), (.call 3 0 [(.lit (.i 5))])]), (.lit (.i 1)), (.lit (.i 3))]) 2) (.lit (.i 0))) (.mk [(.lit (.i 1)), (.call 1 0 [(.lit (.i 1))])]))) (.lit (.b .true))), (.imp (.and (.and (.and (.and (.and (.eq (.call 2 0 [(.call 0 0 []), (.lit (.i 1)), (.call 1 0 [(.lit (.i 0))])]) (.lit (.i 0))) (.eq (.call 2 0 [(.call 2 1 [(.call 0 0 []), (.lit (.i 1)), (.call 1 0 [(.lit (.i 0))])]), (.lit (.i 0)), (.call 3 0 [(.lit (.i 5))])]) (.lit (.i 0)))) (.and (.and (.and (.eq (.len (.fld (.call 2 1 [(.call 2 1 [(.call 0 0 []), (.lit (.i 1)), (.call 1 0 [(.lit (.i 0))])]), (.lit (.i 0)), (.call 3 0 [(.lit (.i 5))])]) 0)) (.lit (.i 3))) (.eq (.get (.fld (.call 2 1 [(.call 2 1 [(.call 0 0 []), (.lit (.i 1)), (.call 1 0 [(.lit (.i 0))])]), (.lit (.i 0)), (.call 3 0 [(.lit (.i 5))])]) 0) (.lit (.i 1))) (.call 1 0 [(.lit (.i 0))]))) (.eq (.get (.fld (.call 2 1 [(.call 2 1 [(.call 0 0 []), (.lit (.i 1)), (.call 1 0 [(.lit (.i 0))])]), (.lit (.i 0)), (.call 3 0 [(.lit (.i 5))])]) 0) (.lit (.i 0))) (.call 3 0 [(.lit (.i 5))]))) (.eq (.call 4 0 [(.call 2 1 [(.call 2 1 [(.call 0 0 []), (.lit (.i 1)), (.call 1 0 [(.lit (.i 0))])]), (.lit (.i 0)), (.call 3 0 [(.lit (.i 5))])])]) (.lit (.i 2))))) (.eq (.call 5 0 [(.call 2 1 [(.call 2 1 [(.call 0 0 []), (.lit (.i 1)), (.call 1 0 [(.lit (.i 0))])]), (.lit (.i 0)), (.call 3 0 [(.lit (.i 5))])]), (.lit (.i 1)), (.lit (.i 3))]) (.lit (.i 0)))) (.eq (.len (.fld (.call 5 1 [(.call 2 1 [(.call 2 1 [(.call 0 0 []), (.lit (.i 1)), (.call 1 0 [(.lit (.i 0))])]), (.lit (.i 0)), (.call 3 0 [(.lit (.i 5))])]), (.lit (.i 1)), (.lit (.i 3))]) 2)) (.lit (.i 1)))) (.eq (.get (.fld (.call 5 1 [(.call 2 1 [(.call 2 1 [(.call 0 0 []), (.lit (.i 1)), (.call 1 0 [(.lit (.i 0))])]), (.lit (.i 0)), (.call 3 0 [(.lit (.i 5))])]), (.lit (.i 1)), (.lit (.i 3))]) 2) (.lit (.i 0))) (.mk [(.lit (.i 1)), (.call 1 0 [(.lit (.i 1))])]))) (.lt (.lit (.i 0)) (.len (.fld (.call 5 1 [(.call 2 1 [(.call 2 1 [(.call 0 0 []), (.lit (.i 1)), (.call 1 0 [(.lit (.i 0))])]), (.lit (.i 0)), (.call 3 0 [(.lit (.i 5))])]), (.lit (.i 1)), (.lit (.i 3))]) 0)))), (.imp (.and (.and (.and (.and (.and (.eq (.call 2 0 [(.call 0 0 []), (.lit (.i 1)), (.call 1 0 [(.lit (.i 0))])]) (.lit (.i 0))) (.eq (.call 2 0 [(.call 2 1 [(.call 0 0 []), (.lit (.i 1)), (.call 1 0 [(.lit (.i 0))])]), (.lit (.i 0)), (.call 3 0 [(.lit (.i 5))])]) (.lit (.i 0)))) (.and (.and (.and (.eq (.len (.fld (.call 2 1 [(.call 2 1 [(.call 0 0 []), (.lit (.i 1)), (.call 1 0 [(.lit (.i 0))])]), (.lit (.i 0)), (.call 3 0 [(.lit (.i 5))])]) 0)) (.lit (.i 3))) (.eq (.get (.fld (.call 2 1 [(.call 2 1 [(.call 0 0 []), (.lit (.i 1)), (.call 1 0 [(.lit (.i 0))])]), (.lit (.i 0)), (.call 3 0 [(.lit (.i 5))])]) 0) (.lit (.i 1))) (.call 1 0 [(.lit (.i 0))]))) (.eq (.get (.fld (.call 2 1 [(.call 2 1 [(.call 0 0 []), (.lit (.i 1)), (.call 1 0 [(.lit (.i 0))])]), (.lit (.i 0)), (.call 3 0 [(.lit (.i 5))])]) 0) (.lit (.i 0))) (.call 3 0 [(.lit (.i 5))]))) (.eq (.call 4 0 [(.call 2 1 [(.call 2 1 [(.call 0 0 []), (.lit (.i 1)), (.call 1 0 [(.lit (.i 0))])]), (.lit (.i 0)), (.call 3 0 [(.lit (.i 5))])])]) (.lit (.i 2))))) (.eq (.call 5 0 [(.call 2 1 [(.call 2 1 [(.call 0 0 []), (.lit (.i 1)), (.call 1 0 [(.lit (.i 0))])]), (.lit (.i 0)), (.call 3 0 [(.lit (.i 5))])]), (.lit (.i 1)), (.lit (.i 3))]) (.lit (.i 0)))) (.eq (.len (.fld (.call 5 1 [(.call 2 1 [(.call 2 1 [(.call 0 0 []), (.lit (.i 1)), (.call 1 0 [(.lit (.i 0))])]), (.lit (.i 0)), (.call 3 0 [(.lit (.i 5))])]), (.lit (.i 1)), (.lit (.i 3))]) 2)) (.lit (.i 1)))) (.eq (.get (.fld (.call 5 1 [(.call 2 1 [(.call 2 1 [(.call 0 0 []), (.lit (.i 1)), (.call 1 0 [(.lit (.i 0))])]), (.lit (.i 0)), (.call 3 0 [(.lit (.i 5))])]), (.lit (.i 1)), (.lit (.i 3))]) 2) (.lit (.i 0))) (.mk [(.lit (.i 1)), (.call 1 0 [(.lit (.i 1))])]))) (.ok 1 [(.lit (.i 0))])), (.imp (.and (.and (.and (.and (.and (.eq (.call 2 0 [(.call 0 0 []), (.lit (.i 1)), (.call 1 0 [(.lit (.i 0))])]) (.lit (.i 0))) (.eq (.call 2 0 [(.call 2 1 [(.call 0 0 []), (.lit (.i 1)), (.call 1 0 [(.lit (.i 0))])]), (.lit (.i 0)), (.call 3 0 [(.lit (.i 5))])]) (.lit (.i 0)))) (.and (.and (.and (.eq (.len (.fld (.call 2 1 [(.call 2 1 [(.call 0 0 []), (.lit (.i 1)), (.call 1 0 [(.lit (.i 0))])]), (.lit (.i 0)), (.call 3 0 [(.lit (.i 5))])]) 0)) (.lit (.i 3))) (.eq (.get (.fld (.call 2 1 [(.call 2 1 [(.call 0 0 []), (.lit (.i 1)), (.call 1 0 [(.lit (.i 0))])]), (.lit (.i 0)), (.call 3 0 [(.lit (.i 5))])]) 0) (.lit (.i 1))) (.call 1 0 [(.lit (.i 0))]))) (.eq (.get (.fld (.call 2 1 [(.call 2 1 [(.call 0 0 []), (.lit (.i 1)), (.call 1 0 [(.lit (.i 0))])]), (.lit (.i 0)), (.call 3 0 [(.lit (.i 5))])]) 0) (.lit (.i 0))) (.call 3 0 [(.lit (.i 5))]))) (.eq (.call 4 0 [(.call 2 1 [(.call 2 1 [(.call 0 0 []), (.lit (.i 1)), (.call 1 0 [(.lit (.i 0))])]), (.lit (.i 0)), (.call 3 0 [(.lit (.i 5))])])]) (.lit (.i 2))))) (.eq (.call 5 0 [(.call 2 1 [(.call 2 1 [(.call 0 0 []), (.lit (.i 1)), (.call 1 0 [(.lit (.i 0))])]), (.lit (.i 0)), (.call 3 0 [(.lit (.i 5))])]), (.lit (.i 1)), (.lit (.i 3))]) (.lit (.i 0)))) (.eq (.len (.fld (.call 5 1 [(.call 2 1 [(.call 2 1 [(.call 0 0 []), (.lit (.i 1)), (.call 1 0 [(.lit (.i 0))])]), (.lit (.i 0)), (.call 3 0 [(.lit (.i 5))])]), (.lit (.i 1)), (.lit (.i 3))]) 2)) (.lit (.i 1)))) (.eq (.get (.fld (.call 5 1 [(.call 2 1 [(.call 2 1 [(.call 0 0 []), (.lit (.i 1)), (.call 1 0 [(.lit (.i 0))])]), (.lit (.i 0)), (.call 3 0 [(.lit (.i 5))])]), (.lit (.i 1)), (.lit (.i 3))]) 2) (.lit (.i 0))) (.mk [(.lit (.i 1)), (.call 1 0 [(.lit (.i 1))])]))) (.lit (.b .true))), (.imp (.and (.and (.and (.and (.and (.eq (.call 2 0 [(.call 0 0 []), (.lit (.i 1)), (.call 1 0 [(.lit (.i 0))])]) (.lit (.i 0))) (.eq (.call 2 0 [(.call 2 1 [(.call 0 0 []), (.lit (.i 1)), (.call 1 0 [(.lit (.i 0))])]), (.lit (.i 0)), (.call 3 0 [(.lit (.i 5))])]) (.lit (.i 0)))) (.and (.and (.and (.eq (.len (.fld (.call 2 1 [(.call 2 1 [(.call 0 0 []), (.lit (.i 1)), (.call 1 0 [(.lit (.i 0))])]), (.lit (.i 0)), (.call 3 0 [(.lit (.i 5))])]) 0)) (.lit (.i 3))) (.eq (.get (.fld (.call 2 1 [(.call 2 1 [(.call 0 0 []), (.lit (.i 1)), (.call 1 0 [(.lit (.i 0))])]), (.lit (.i 0)), (.call 3 0 [(.lit (.i 5))])]) 0) (.lit (.i 1))) (.call 1 0 [(.lit (.i 0))]))) (.eq (.get (.fld (.call 2 1 [(.call 2 1 [(.call 0 0 []), (.lit (.i 1)), (.call 1 0 [(.lit (.i 0))])]), (.lit (.i 0)), (.call 3 0 [(.lit (.i 5))])]) 0) (.lit (.i 0))) (.call 3 0 [(.lit (.i 5))]))) (.eq (.call 4 0 [(.call 2 1 [(.call 2 1 [(.call 0 0 []), (.lit (.i 1)), (.call 1 0 [(.lit (.i 0))])]), (.lit (.i 0)), (.call 3 0 [(.lit (.i 5))])])]) (.lit (.i 2))))) (.eq (.call 5 0 [(.call 2 1 [(.call 2 1 [(.call 0 0 []), (.lit (.i 1)), (.call 1 0 [(.lit (.i 0))])]), (.lit (.i 0)), (.call 3 0 [(.lit (.i 5))])]), (.lit (.i 1)), (.lit (.i 3))]) (.lit (.i 0)))) (.eq (.len (.fld (.call 5 1 [(.call 2 1 [(.call 2 1 [(.call 0 0 []), (.lit (.i 1)), (.call 1 0 [(.lit (.i 0))])]), (.lit (.i 0)), (.call 3 0 [(.lit (.i 5))])]), (.lit (.i 1)), (.lit (.i 3))]) 2)) (.lit (.i 1)))) (.eq (.get (.fld (.call 5 1 [(.call 2 1 [(.call 2 1 [(.call 0 0 []), (.lit (.i 1)), (.call 1 0 [(.lit (.i 0))])]), (.lit (.i 0)), (.call 3 0 [(.lit (.i 5))])]), (.lit (.i 1)), (.lit (.i 3))]) 2) (.lit (.i 0))) (.mk [(.lit (.i 1)), (.call 1 0 [(.lit (.i 1))])]))) (.lt (.lit (.i 0)) (.len (.fld (.call 5 1 [(.call 2 1 [(.call 2 1 [(.call 0 0 []), (.lit (.i 1)), (.call 1 0 [(.lit (.i 0))])]), (.lit (.i 0)), (.call 3 0 [(.lit (.i 5))])]), (.lit (.i 1)), (.lit (.i 3))]) 0)))), (.imp (.and (.and (.and (.and (.and (.eq (.call 2 0 [(.call 0 0 []), (.lit (.i 1)), (.call 1 0 [(.lit (.i 0))])]) (.lit (.i 0))) (.eq (.call 2 0 [(.call 2 1 [(.call 0 0 []), (.lit (.i 1)), (.call 1 0 [(.lit (.i 0))])]), (.lit (.i 0)), (.call 3 0 [(.lit (.i 5))])]) (.lit (.i 0)))) (.and (.and (.and (.eq (.len (.fld (.call 2 1 [(.call 2 1 [(.call 0 0 []), (.lit (.i 1)), (.call 1 0 [(.lit (.i 0))])]), (.lit (.i 0)), (.call 3 0 [(.lit (.i 5))])]) 0)) (.lit (.i 3))) (.eq (.get (.fld (.call 2 1 [(.call 2 1 [(.call 0 0 []), (.lit (.i 1)), (.call 1 0 [(.lit (.i 0))])]), (.lit (.i 0)), (.call 3 0 [(.lit (.i 5))])]) 0) (.lit (.i 1))) (.call 1 0 [(.lit (.i 0))]))) (.eq (.get (.fld (.call 2 1 [(.call 2 1 [(.call 0 0 []), (.lit (.i 1)), (.call 1 0 [(.lit (.i 0))])]), (.lit (.i 0)), (.call 3 0 [(.lit (.i 5))])]) 0) (.lit (.i 0))) (.call 3 0 [(.lit (.i 5))]))) (.eq (.call 4 0 [(.call 2 1 [(.call 2 1 [(.call 0 0 []), (.lit (.i 1)), (.call 1 0 [(.lit (.i 0))])]), (.lit (.i 0)), (.call 3 0 [(.lit (.i 5))])])]) (.lit (.i 2))))) (.eq (.call 5 0 [(.call 2 1 [(.call 2 1 [(.call 0 0 []), (.lit (.i 1)), (.call 1 0 [(.lit (.i 0))])]), (.lit (.i 0)), (.call 3 0 [(.lit (.i 5))])]), (.lit (.i 1)), (.lit (.i 3))]) (.lit (.i 0)))) (.eq (.len (.fld (.call 5 1 [(.call 2 1 [(.call 2 1 [(.call 0 0 []), (.lit (.i 1)), (.call 1 0 [(.lit (.i 0))])]), (.lit (.i 0)), (.call 3 0 [(.lit (.i 5))])]), (.lit (.i 1)), (.lit (.i 3))]) 2)) (.lit (.i 1)))) (.eq (.get (.fld (.call 5 1 [(.call 2 1 [(.call 2 1 [(.call 0 0 []), (.lit (.i 1)), (.call 1 0 [(.lit (.i 0))])]), (.lit (.i 0)), (.call 3 0 [(.lit (.i 5))])]), (.lit (.i 1)), (.lit (.i 3))]) 2) (.lit (.i 0))) (.mk [(.lit (.i 1)), (.call 1 0 [(.lit (.i 1))])]))) (.ok 1 [(.lit (.i 0))])), (.imp (.and (.and (.and (.and (.eq (.call 2 0 [(.call 0 0 []), (.lit (.i 1)), (.call 1 0 [(.lit (.i 0))])]) (.lit (.i 0))) (.eq (.call 2 0 [(.call 2 1 [(.call 0 0 []), (.lit (.i 1)), (.call 1 0 [(.lit (.i 0))])]), (.lit (.i 0)), (.call 3 0 [(.lit (.i 5))])]) (.lit (.i 0)))) (.and (.and (.and (.eq (.len (.fld (.call 2 1 [(.call 2 1 [(.call 0 0 []), (.lit (.i 1)), (.call 1 0 [(.lit (.i 0))])]), (.lit (.i 0)), (.call 3 0 [(.lit (.i 5))])]) 0)) (.lit (.i 3))) (.eq (.get (.fld (.call 2 1 [(.call 2 1 [(.call 0 0 []), (.lit (.i 1)), (.call 1 0 [(.lit (.i 0))])]), (.lit (.i 0)), (.call 3 0 [(.lit (.i 5))])]) 0) (.lit (.i 1))) (.call 1 0 [(.lit (.i 0))]))) (.eq (.get (.fld (.call 2 1 [(.call 2 1 [(.call 0 0 []), (.lit (.i 1)), (.call 1 0 [(.lit (.i 0))])]), (.lit (.i 0)), (.call 3 0 [(.lit (.i 5))])]) 0) (.lit (.i 0))) (.call 3 0 [(.lit (.i 5))]))) (.eq (.call 4 0 [(.call 2 1 [(.call 2 1 [(.call 0 0 []), (.lit (.i 1)), (.call 1 0 [(.lit (.i 0))])]), (.lit (.i 0)), (.call 3 0 [(.lit (.i 5))])])]) (.lit (.i 2))))) (.eq (.call 5 0 [(.call 2 1 [(.call 2 1 [(.call 0 0 []), (.lit (.i 1)), (.call 1 0 [(.lit (.i 0))])]), (.lit (.i 0)), (.call 3 0 [(.lit (.i 5))])]), (.lit (.i 1)), (.lit (.i 3))]) (.lit (.i 0)))) (.eq (.len (.fld (.call 5 1 [(.call 2 1 [(.call 2 1 [(.call 0 0 []), (.lit (.i 1)), (.call 1 0 [(.lit (.i 0))])]), (.lit (.i 0)), (.call 3 0 [(.lit (.i 5))])]), (.lit (.i 1)), (.lit (.i 3))]) 2)) (.lit (.i 1)))) (.ok 1 [(.lit (.i 1))])), (.imp (.and (.and (.and (.and (.eq (.call 2 0 [(.call 0 0 []), (.lit (.i 1)), (.call 1 0 [(.lit (.i 0))])]) (.lit (.i 0))) (.eq (.call 2 0 [(.call 2 1 [(.call 0 0 []), (.lit (.i 1)), (.call 1 0 [(.lit (.i 0))])]), (.lit (.i 0)), (.call 3 0 [(.lit (.i 5))])]) (.lit (.i 0)))) (.and (.and (.and (.eq (.len (.fld (.call 2 1 [(.call 2 1 [(.call 0 0 []), (.lit (.i 1)), (.call 1 0 [(.lit (.i 0))])]), (.lit (.i 0)), (.call 3 0 [(.lit (.i 5))])]) 0)) (.lit (.i 3))) (.eq (.get (.fld (.call 2 1 [(.call 2 1 [(.call 0 0 []), (.lit (.i 1)), (.call 1 0 [(.lit (.i 0))])]), (.lit (.i 0)), (.call 3 0 [(.lit (.i 5))])]) 0) (.lit (.i 1))) (.call 1 0 [(.lit (.i 0))]))) (.eq (.get (.fld (.call 2 1 [(.call 2 1 [(.call 0 0 []), (.lit (.i 1)), (.call 1 0 [(.lit (.i 0))])]), (.lit (.i 0)), (.call 3 0 [(.lit (.i 5))])]) 0) (.lit (.i 0))) (.call 3 0 [(.lit (.i 5))]))) (.eq (.call 4 0 [(.call 2 1 [(.call 2 1 [(.call 0 0 []), (.lit (.i 1)), (.call 1 0 [(.lit (.i 0))])]), (.lit (.i 0)), (.call 3 0 [(.lit (.i 5))])])]) (.lit (.i 2))))) (.eq (.call 5 0 [(.call 2 1 [(.call 2 1 [(.call 0 0 []), (.lit (.i 1)), (.call 1 0 [(.lit (.i 0))])]), (.lit (.i 0)), (.call 3 0 [(.lit (.i 5))])]), (.lit (.i 1)), (.lit (.i 3))]) (.lit (.i 0)))) (.eq (.len (.fld (.call 5 1 [(.call 2 1 [(.call 2 1 [(.call 0 0 []), (.lit (.i 1)), (.call 1 0 [(.lit (.i 0))])]), (.lit (.i 0)), (.call 3 0 [(.lit (.i 5))])]), (.lit (.i 1)), (.lit (.i 3))]) 2)) (.lit (.i 1)))) (.lit (.b .true))), (.imp (.and (.and (.and (.and (.eq (.call 2 0 [(.call 0 0 []), (.lit (.i 1)), (.call 1 0 [(.lit (.i 0))])]) (.lit (.i 0))) (.eq (.call 2 0 [(.call 2 1 [(.call 0 0 []), (.lit (.i 1)), (.call 1 0 [(.lit (.i 0))])]), (.lit (.i 0)), (.call 3 0 [(.lit (.i 5))])]) (.lit (.i 0)))) (.and (.and (.and (.eq (.len (.fld (.call 2 1 [(.call 2 1 [(.call 0 0 []), (.lit (.i 1)), (.call 1 0 [(.lit (.i 0))])]), (.lit (.i 0)), (.call 3 0 [(.lit (.i 5))])]) 0)) (.lit (.i 3))) (.eq (.get (.fld (.call 2 1 [(.call 2 1 [(.call 0 0 []), (.lit (.i 1)), (.call 1 0 [(.lit (.i 0))])]), (.lit (.i 0)), (.call 3 0 [(.lit (.i 5))])]) 0) (.lit (.i 1))) (.call 1 0 [(.lit (.i 0))]))) (.eq (.get (.fld (.call 2 1 [(.call 2 1 [(.call 0 0 []), (.lit (.i 1)), (.call 1 0 [(.lit (.i 0))])]), (.lit (.i 0)), (.call 3 0 [(.lit (.i 5))])]) 0) (.lit (.i 0))) (.call 3 0 [(.lit (.i 5))]))) (.eq (.call 4 0 [(.call 2 1 [(.call 2 1 [(.call 0 0 []), (.lit (.i 1)), (.call 1 0 [(.lit (.i 0))])]), (.lit (.i 0)), (.call 3 0 [(.lit (.i 5))])])]) (.lit (.i 2))))) (.eq (.call 5 0 [(.call 2 1 [(.call 2 1 [(.call 0 0 []), (.lit (.i 1)), (.call 1 0 [(.lit (.i 0))])]), (.lit (.i 0)), (.call 3 0 [(.lit (.i 5))])]), (.lit (.i 1)), (.lit (.i 3))]) (.lit (.i 0)))) (.eq (.len (.fld (.call 5 1 [(.call 2 1 [(.call 2 1 [(.call 0 0 []), (.lit (.i 1)), (.call 1 0 [(.lit (.i 0))])]), (.lit (.i 0)), (.call 3 0 [(.lit (.i 5))])]), (.lit (.i 1)), (.lit (.i 3))]) 2)) (.lit (.i 1)))) (.lt (.lit (.i 0)) (.len (.fld (.call 5 1 [(.call 2 1 [(.call 2 1 [(.call 0 0 []), (.lit (.i 1)), (.call 1 0 [(.lit (.i 0))])]), (.lit (.i 0)), (.call 3 0 [(.lit (.i 5))])]), (.lit (.i 1)), (.lit (.i 3))]) 2)))), (.imp (.and (.and (.and (.and (.eq (.call 2 0 [(.call 0 0 []), (.lit (.i 1)), (.call 1 0 [(.lit (.i 0))])]) (.lit (.i 0))) (.eq (.call 2 0 [(.call 2 1 [(.call 0 0 []), (.lit (.i 1)), (.call 1 0 [(.lit (.i 0))])]), (.lit (.i 0)), (.call 3 0 [(.lit (.i 5))])]) (.lit (.i 0)))) (.and (.and (.and (.eq (.len (.fld (.call 2 1 [(.call 2 1 [(.call 0 0 []), (.lit (.i 1)), (.call 1 0 [(.lit (.i 0))])]), (.lit (.i 0)), (.call 3 0 [(.lit (.i 5))])]) 0)) (.lit (.i 3))) (.eq (.get (.fld (.call 2 1 [(.call 2 1 [(.call 0 0 []), (.lit (.i 1)), (.call 1 0 [(.lit (.i 0))])]), (.lit (.i 0)), (.call 3 0 [(.lit (.i 5))])]) 0) (.lit (.i 1))) (.call 1 0 [(.lit (.i 0))]))) (.eq (.get (.fld (.call 2 1 [(.call 2 1 [(.call 0 0 []), (.lit (.i 1)), (.call 1 0 [(.lit (.i 0))])]), (.lit (.i 0)), (.call 3 0 [(.lit (.i 5))])]) 0) (.lit (.i 0))) (.call 3 0 [(.lit (.i 5))]))) (.eq (.call 4 0 [(.call 2 1 [(.call 2 1 [(.call 0 0 []), (.lit (.i 1)), (.call 1 0 [(.lit (.i 0))])]), (.lit (.i 0)), (.call 3 0 [(.lit (.i 5))])])]) (.lit (.i 2))))) (.eq (.call 5 0 [(.call 2 1 [(.call 2 1 [(.call 0 0 []), (.lit (.i 1)), (.call 1 0 [(.lit (.i 0))])]), (.lit (.i 0)), (.call 3 0 [(.lit (.i 5))])]), (.lit (.i 1)), (.lit (.i 3))]) (.lit (.i 0)))) (.eq (.len (.fld (.call 5 1 [(.call 2 1 [(.call 2 1 [(.call 0 0 []), (.lit (.i 1)), (.call 1 0 [(.lit (.i 0))])]), (.lit (.i 0)), (.call 3 0 [(.lit (.i 5))])]), (.lit (.i 1)), (.lit (.i 3))]) 2)) (.lit (.i 1)))) (.ok 1 [(.lit (.i 1))])), (.imp (.and (.and (.and (.and (.eq (.call 2 0 [(.call 0 0 []), (.lit (.i 1)), (.call 1 0 [(.lit (.i 0))])]) (.lit (.i 0))) (.eq (.call 2 0 [(.call 2 1 [(.call 0 0 []), (.lit (.i 1)), (.call 1 0 [(.lit (.i 0))])]), (.lit (.i 0)), (.call 3 0 [(.lit (.i 5))])]) (.lit (.i 0)))) (.and (.and (.and (.eq (.len (.fld (.call 2 1 [(.call 2 1 [(.call 0 0 []), (.lit (.i 1)), (.call 1 0 [(.lit (.i 0))])]), (.lit (.i 0)), (.call 3 0 [(.lit (.i 5))])]) 0)) (.lit (.i 3))) (.eq (.get (.fld (.call 2 1 [(.call 2 1 [(.call 0 0 []), (.lit (.i 1)), (.call 1 0 [(.lit (.i 0))])]), (.lit (.i 0)), (.call 3 0 [(.lit (.i 5))])]) 0) (.lit (.i 1))) (.call 1 0 [(.lit (.i 0))]))) (.eq (.get (.fld (.call 2 1 [(.call 2 1 [(.call 0 0 []), (.lit (.i 1)), (.call 1 0 [(.lit (.i 0))])]), (.lit (.i 0)), (.call 3 0 [(.lit (.i 5))])]) 0) (.lit (.i 0))) (.call 3 0 [(.lit (.i 5))]))) (.eq (.call 4 0 [(.call 2 1 [(.call 2 1 [(.call 0 0 []), (.lit (.i 1)), (.call 1 0 [(.lit (.i 0))])]), (.lit (.i 0)), (.call 3 0 [(.lit (.i 5))])])]) (.lit (.i 2))))) (.eq (.call 5 0 [(.call 2 1 [(.call 2 1 [(.call 0 0 []), (.lit (.i 1)), (.call 1 0 [(.lit (.i 0))])]), (.lit (.i 0)), (.call 3 0 [(.lit (.i 5))])]), (.lit (.i 1)), (.lit (.i 3))]) (.lit (.i 0)))) (.eq (.len (.fld (.call 5 1 [(.call 2 1 [(.call 2 1 [(.call 0 0 []), (.lit (.i 1)), (.call 1 0 [(.lit (.i 0))])]), (.lit (.i 0)), (.call 3 0 [(.lit (.i 5))])]), (.lit (.i 1)), (.lit (.i 3))]) 2)) (.lit (.i 1)))) (.lit (.b .true))), (.imp (.and (.and (.and (.and (.eq (.call 2 0 [(.call 0 0 []), (.lit (.i 1)), (.call 1 0 [(.lit (.i 0))])]) (.lit (.i 0))) (.eq (.call 2 0 [(.call 2 1 [(.call 0 0 []), (.lit (.i 1)), (.call 1 0 [(.lit (.i 0))])]), (.lit (.i 0)), (.call 3 0 [(.lit (.i 5))])]) (.lit (.i 0)))) (.and (.and (.and (.eq (.len (.fld (.call 2 1 [(.call 2 1 [(.call 0 0 []), (.lit (.i 1)), (.call 1 0 [(.lit (.i 0))])]), (.lit (.i 0)), (.call 3 0 [(.lit (.i 5))])]) 0)) (.lit (.i 3))) (.eq (.get (.fld (.call 2 1 [(.call 2 1 [(.call 0 0 []), (.lit (.i 1)), (.call 1 0 [(.lit (.i 0))])]), (.lit (.i 0)), (.call 3 0 [(.lit (.i 5))])]) 0) (.lit (.i 1))) (.call 1 0 [(.lit (.i 0))]))) (.eq (.get (.fld (.call 2 1 [(.call 2 1 [(.call 0 0 []), (.lit (.i 1)), (.call 1 0 [(.lit (.i 0))])]), (.lit (.i 0)), (.call 3 0 [(.lit (.i 5))])]) 0) (.lit (.i 0))) (.call 3 0 [(.lit (.i 5))]))) (.eq (.call 4 0 [(.call 2 1 [(.call 2 1 [(.call 0 0 []), (.lit (.i 1)), (.call 1 0 [(.lit (.i 0))])]), (.lit (.i 0)), (.call 3 0 [(.lit (.i 5))])])]) (.lit (.i 2))))) (.eq (.call 5 0 [(.call 2 1 [(.call 2 1 [(.call 0 0 []), (.lit (.i 1)), (.call 1 0 [(.lit (.i 0))])]), (.lit (.i 0)), (.call 3 0 [(.lit (.i 5))])]), (.lit (.i 1)), (.lit (.i 3))]) (.lit (.i 0)))) (.eq (.len (.fld (.call 5 1 [(.call 2 1 [(.call 2 1 [(.call 0 0 []), (.lit (.i 1)), (.call 1 0 [(.lit (.i 0))])]), (.lit (.i 0)), (.call 3 0 [(.lit (.i 5))])]), (.lit (.i 1)), (.lit (.i 3))]) 2)) (.lit (.i 1)))) (.lt (.lit (.i 0)) (.len (.fld (.call 5 1 [(.call 2 1 [(.call 2 1 [(.call 0 0 []), (.lit (.i 1)), (.call 1 0 [(.lit (.i 0))])]), (.lit (.i 0)), (.call 3 0 [(.lit (.i 5))])]), (.lit (.i 1)), (.lit (.i 3))]) 2)))), (.imp (.and (.and (.and (.and (.eq (.call 2 0 [(.call 0 0 []), (.lit (.i 1)), (.call 1 0 [(.lit (.i 0))])]) (.lit (.i 0))) (.eq (.call 2 0 [(.call 2 1 [(.call 0 0 []), (.lit (.i 1)), (.call 1 0 [(.lit (.i 0))])]), (.lit (.i 0)), (.call 3 0 [(.lit (.i 5))])]) (.lit (.i 0)))) (.and (.and (.and (.eq (.len (.fld (.call 2 1 [(.call 2 1 [(.call 0 0 []), (.lit (.i 1)), (.call 1 0 [(.lit (.i 0))])]), (.lit (.i 0)), (.call 3 0 [(.lit (.i 5))])]) 0)) (.lit (.i 3))) (.eq (.get (.fld (.call 2 1 [(.call 2 1 [(.call 0 0 []), (.lit (.i 1)), (.call 1 0 [(.lit (.i 0))])]), (.lit (.i 0)), (.call 3 0 [(.lit (.i 5))])]) 0) (.lit (.i 1))) (.call 1 0 [(.lit (.i 0))]))) (.eq (.get (.fld (.call 2 1 [(.call 2 1 [(.call 0 0 []), (.lit (.i 1)), (.call 1 0 [(.lit (.i 0))])]), (.lit (.i 0)), (.call 3 0 [(.lit (.i 5))])]) 0) (.lit (.i 0))) (.call 3 0 [(.lit (.i 5))]))) (.eq (.call 4 0 [(.call 2 1 [(.call 2 1 [(.call 0 0 []), (.lit (.i 1)), (.call 1 0 [(.lit (.i 0))])]), (.lit (.i 0)), (.call 3 0 [(.lit (.i 5))])])]) (.lit (.i 2))))) (.eq (.call 5 0 [(.call 2 1 [(.call 2 1 [(.call 0 0 []), (.lit (.i 1)), (.call 1 0 [(.lit (.i 0))])]), (.lit (.i 0)), (.call 3 0 [(.lit (.i 5))])]), (.lit (.i 1)), (.lit (.i 3))]) (.lit (.i 0)))) (.eq (.len (.fld (.call 5 1 [(.call 2 1 [(.call 2 1 [(.call 0 0 []), (.lit (.i 1)), (.call 1 0 [(.lit (.i 0))])]), (.lit (.i 0)), (.call 3 0 [(.lit (.i 5))])]), (.lit (.i 1)), (.lit (.i 3))]) 2)) (.lit (.i 1)))) (.ok 1 [(.lit (.i 1))]))] (.leaf [(.and (.and (.and (.and (.and (.and (.eq (.call 2 0 [(.call 0 0 []), (.lit (.i 1)), (.call 1 0 [(.lit (.i 0))])]) (.lit (.i 0))) (.eq (.call 2 0 [(.call 2 1 [(.call 0 0 []), (.lit (.i 1)), (.call 1 0 [(.lit (.i 0))])]), (.lit (.i 0)), (.call 3 0 [(.lit (.i 5))])]) (.lit (.i 0)))) (.and (.and (.and (.eq (.len (.fld (.call 2 1 [(.call 2 1 [(.call 0 0 []), (.lit (.i 1)), (.call 1 0 [(.lit (.i 0))])]), (.lit (.i 0)), (.call 3 0 [(.lit (.i 5))])]) 0)) (.lit (.i 3))) (.eq (.get (.fld (.call 2 1 [(.call 2 1 [(.call 0 0 []), (.lit (.i 1)), (.call 1 0 [(.lit (.i 0))])]), (.lit (.i 0)), (.call 3 0 [(.lit (.i 5))])]) 0) (.lit (.i 1))) (.call 1 0 [(.lit (.i 0))]))) (.eq (.get (.fld (.call 2 1 [(.call 2 1 [(.call 0 0 []), (.lit (.i 1)), (.call 1 0 [(.lit (.i 0))])]), (.lit (.i 0)), (.call 3 0 [(.lit (.i 5))])]) 0) (.lit (.i 0))) (.call 3 0 [(.lit (.i 5))]))) (.eq (.call 4 0 [(.call 2 1 [(.call 2 1 [(.call 0 0 []), (.lit (.i 1)), (.call 1 0 [(.lit (.i 0))])]), (.lit (.i 0)), (.call 3 0 [(.lit (.i 5))])])]) (.lit (.i 2))))) (.eq (.call 5 0 [(.call 2 1 [(.call 2 1 [(.call 0 0 []), (.lit (.i 1)), (.call 1 0 [(.lit (.i 0))])]), (.lit (.i 0)), (.call 3 0 [(.lit (.i 5))])]), (.lit (.i 1)), (.lit (.i 3))]) (.lit (.i 0)))) (.eq (.len (.fld (.call 5 1 [(.call 2 1 [(.call 2 1 [(.call 0 0 []), (.lit (.i 1)), (.call 1 0 [(.lit (.i 0))])]), (.lit (.i 0)), (.call 3 0 [(.lit (.i 5))])]), (.lit (.i 1)), (.lit (.i 3))]) 2)) (.lit (.i 1)))) (.eq (.get (.fld (.call 5 1 [(.call 2 1 [(.call 2 1 [(.call 0 0 []), (.lit (.i 1)), (.call 1 0 [(.lit (.i 0))])]), (.lit (.i 0)), (.call 3 0 [(.lit (.i 5))])]), (.lit (.i 1)), (.lit (.i 3))]) 2) (.lit (.i 0))) (.mk [(.lit (.i 1)), (.call 1 0 [(.lit (.i 1))])]))) (.eq (.get (.fld (.call 5 1 [(.call 2 1 [(.call 2 1 [(.call 0 0 []), (.lit (.i 1)), (.call 1 0 [(.lit (.i 0))])]), (.lit (.i 0)), (.call 3 0 [(.lit (.i 5))])]), (.lit (.i 1)), (.lit (.i 3))]) 0) (.lit (.i 0))) (.call 1 0 [(.lit (.i 0))])))])))))))
set_option maxRecDepth 100000 in
theorem code_law31_awake (g0 g1 g2 g3 g4 g5 : List D → Option (List D)) : ∀ cd, Try.f9.body = some cd → treeOf Try.prog [(ct_law31_three, g0), (ct_law31_ref, g1), (ct_trail_Set, g2), (ct_law31_num, g3), (ct_trail_Mark, g4), (ct_trail_Undo, g5)] ann_law31_awake ct_law31_awake Try.f9 cd = tree_law31_awake := by
  intro cd h
  injection h with h
  subst h
  kernel_rfl
theorem fok_law31_awake {g0 g1 g2 g3 g4 g5 : List D → Option (List D)} {g : List D → Option (List D)} (h0 : FOk ct_law31_three g0) (h1 : FOk ct_law31_ref g1) (h2 : FOk ct_trail_Set g2) (h3 : FOk ct_law31_num g3) (h4 : FOk ct_trail_Mark g4) (h5 : FOk ct_trail_Undo g5) (h : ∀ ds outs, WfA ct_law31_awake.ar ds → g ds = some outs → tree_law31_awake.go (tblS [(ct_law31_three, g0), (ct_law31_ref, g1), (ct_trail_Set, g2), (ct_law31_num, g3), (ct_trail_Mark, g4), (ct_trail_Undo, g5)]) (fun o => o = outs) ds fun _ _ => False) : FOk ct_law31_awake g :=
  fok_of ann_law31_awake Try.f9 _ (.cons h0 (.cons h1 (.cons h2 (.cons h3 (.cons h4 (.cons h5 .nil)))))) rfl rfl enter_law31_awake (by decide) fun ds outs hw hg => by rw [code_law31_awake g0 g1 g2 g3 g4 g5 _ rfl]; exact h ds outs hw hg

end Go.Proofs.Ytcjapglipkmbhaa

namespace Go.Proofs.Ytcjapglipkmbhaa
open Go.RowKit
set_option linter.unusedVariables false
set_option linter.unusedSimpArgs false

def cellAt (s : So) (i : Int) : Ce := s.cs.getD i.toNat default
def inS (s : So) (i : Int) : Bool := decide (0 ≤ i) && decide (i < s.cs.length)
def tagS (s : So) (i : Int) : Int := if inS s i then (cellAt s i).t else -1
def arS (s : So) (n : Int) : Int := if 0 ≤ n ∧ n < s.ys.length then (s.ys.getD n.toNat default).ar else -1
/-- A cell is valid: the reference's, the program's. -/
def vcR (s : So) (c : Ce) : Bool := if c.t = 0 then inS s c.n && !decide (tagS s c.n = 4) else if c.t = 1 then true else if c.t = 2 then decide (arS s c.n = 0) else if c.t = 3 then decide (tagS s c.n = 4) else if c.t = 5 then decide (tagS s c.n = 5) else false
def vcP (s : So) (c : Ce) : Bool := if c.t = 0 then decide (0 ≤ tagS s c.n) && !decide (tagS s c.n = 4) else if c.t = 1 then true else if c.t = 2 then decide (arS s c.n = 0) else if c.t = 3 then decide (tagS s c.n = 4) else if c.t = 5 then decide (tagS s c.n = 5) else false
/-- The two cells behind an attributed variable. -/
def groupS (s : So) (i : Int) : Bool := decide (tagS s (i + 1) = 1) && (decide (1 ≤ (cellAt s (i + 1)).n) && (decide ((cellAt s (i + 1)).n ≤ s.ser) && (decide (0 ≤ tagS s (i + 2)) && (!decide (tagS s (i + 2) = 4) && !decide (tagS s (i + 2) = 5)))))

def gSIi (f : So → Int → Int) : List D → Option (List D)
  | [s, i] => some [.i (f (dS s) i.int)]
  | _ => none
def gSIb (f : So → Int → Bool) : List D → Option (List D)
  | [s, i] => some [.b (f (dS s) i.int)]
  | _ => none
def gSIbP (q : So → Int → Bool) (f : So → Int → Bool) : List D → Option (List D)
  | [s, i] => if q (dS s) i.int then some [.b (f (dS s) i.int)] else none
  | _ => none
def gSCb (f : So → Ce → Bool) : List D → Option (List D)
  | [s, c] => some [.b (f (dS s) (dC c))]
  | _ => none
def gSUb (f : So → Un → Bool) : List D → Option (List D)
  | [s, c] => some [.b (f (dS s) (dU c))]
  | _ => none
def gSb (f : So → Bool) : List D → Option (List D)
  | [s] => some [.b (f (dS s))]
  | _ => none
def gSbP (q : So → Bool) (f : So → Bool) : List D → Option (List D)
  | [s] => if q (dS s) then some [.b (f (dS s))] else none
  | _ => none

theorem inS_iff {s : So} {i : Int} : inS s i = true ↔ 0 ≤ i ∧ i < s.cs.length := by simp [inS]
theorem cell_get {s : So} {i : Int} (h : inS s i = true) : (D.r (s.cs.map eC)).get i = eC (cellAt s i) := get_r eC (inS_iff.1 h).1 (inS_iff.1 h).2
theorem So.ok.cell {s : So} (hs : s.ok) {i : Int} (h : inS s i = true) : (cellAt s i).ok := hs.cs.2 _ (getD_mem (by have := inS_iff.1 h; omega))
theorem tagS_in {s : So} {i : Int} (h : inS s i = true) : tagS s i = (cellAt s i).t := if_pos h
theorem tagS_out {s : So} {i : Int} (h : inS s i = false) : tagS s i = -1 := if_neg (by rw [h]; decide)

theorem ok_ref30_ranged : FOk ct_ref30_ranged (gSIb inS) := fok_ref30_ranged fun ds outs hw hg => by
  obtain ⟨d, r, rfl, hd, e, r', rfl, he, rfl⟩ := hw
  obtain ⟨s, rfl, hs⟩ := wfS hd
  obtain ⟨i, rfl, hi⟩ := wfI he
  simp only [gSIb, dS_eS, int_i, Option.some.injEq] at hg
  subst hg
  simp only [tree_ref30_ranged, Tree.go, allSay, X.says, X.ev, X.evs, evl, tblS, List.getD_cons_zero, List.getD_cons_succ, List.getElem?_cons_zero, List.getElem?_cons_succ, tt_b, int_i, str_s, rs_r, Option.isSome_some, Option.getD_some, decide_eq_true_eq, decide_eq_false_iff_not, dS_eS, dC_eC, dU_eU, dW_eW, dY_eY, eC_0, eC_1, eU_0, eU_1, eW_0, eW_1, eW_2, eY_0, eY_1, eS_0, eS_1, eS_2, eS_3, eS_4, eS_5, List.length_map, i_inj, b_inj, s_inj, eC_eq, eU_eq, eW_eq, eY_eq, eS_eq, rng64, List.take_succ_cons, List.take_zero, List.nil_append, List.cons_append, decide_true, decide_false, Bool.or_true, true_and, and_true, inS]
theorem ok_ref30_tag : FOk ct_ref30_tag (gSIi tagS) := fok_ref30_tag ok_ref30_ranged fun ds outs hw hg => by
  obtain ⟨d, r, rfl, hd, e, r', rfl, he, rfl⟩ := hw
  obtain ⟨s, rfl, hs⟩ := wfS hd
  obtain ⟨i, rfl, hi⟩ := wfI he
  simp only [gSIi, dS_eS, int_i, Option.some.injEq] at hg
  subst hg
  simp only [tree_ref30_tag, Tree.go, allSay, X.says, X.ev, X.evs, evl, tblS, List.getD_cons_zero, List.getD_cons_succ, List.getElem?_cons_zero, List.getElem?_cons_succ, tt_b, int_i, str_s, rs_r, Option.isSome_some, Option.getD_some, decide_eq_true_eq, decide_eq_false_iff_not, dS_eS, dC_eC, dU_eU, dW_eW, dY_eY, eC_0, eC_1, eU_0, eU_1, eW_0, eW_1, eW_2, eY_0, eY_1, eS_0, eS_1, eS_2, eS_3, eS_4, eS_5, List.length_map, i_inj, b_inj, s_inj, eC_eq, eU_eq, eW_eq, eY_eq, eS_eq, rng64, List.take_succ_cons, List.take_zero, List.nil_append, List.cons_append, decide_true, decide_false, Bool.or_true, true_and, and_true, gSIb, true_and]
  cases h : inS s i with
  | false => simp [tagS_out h]
  | true =>
    have h' := inS_iff.1 h
    simp [cell_get h, eC_0, tagS_in h, h']
theorem ok_cells_tag : FOk ct_cells_tag (gSIi tagS) := fok_cells_tag fun ds outs hw hg => by
  obtain ⟨d, r, rfl, hd, e, r', rfl, he, rfl⟩ := hw
  obtain ⟨s, rfl, hs⟩ := wfS hd
  obtain ⟨i, rfl, hi⟩ := wfI he
  simp only [gSIi, dS_eS, int_i, Option.some.injEq] at hg
  subst hg
  simp only [tree_cells_tag, Tree.go, allSay, X.says, X.ev, X.evs, evl, tblS, List.getD_cons_zero, List.getD_cons_succ, List.getElem?_cons_zero, List.getElem?_cons_succ, tt_b, int_i, str_s, rs_r, Option.isSome_some, Option.getD_some, decide_eq_true_eq, decide_eq_false_iff_not, dS_eS, dC_eC, dU_eU, dW_eW, dY_eY, eC_0, eC_1, eU_0, eU_1, eW_0, eW_1, eW_2, eY_0, eY_1, eS_0, eS_1, eS_2, eS_3, eS_4, eS_5, List.length_map, i_inj, b_inj, s_inj, eC_eq, eU_eq, eW_eq, eY_eq, eS_eq, rng64, List.take_succ_cons, List.take_zero, List.nil_append, List.cons_append, decide_true, decide_false, Bool.or_true, true_and, and_true, true_and]
  cases h : inS s i with
  | false =>
    have h' : ¬ (0 ≤ i ∧ i < s.cs.length) := fun q => by rw [inS_iff.2 q] at h; cases h
    have h2 : i < 0 ∨ (s.cs.length : Int) ≤ i := by omega
    simp [tagS_out h]
    omega
  | true =>
    have h' := inS_iff.1 h
    have h1 : ¬ i < 0 := by omega
    have h2 : ¬ (s.cs.length : Int) ≤ i := by omega
    simp [cell_get h, eC_0, tagS_in h, h', h1, h2]
theorem ar_get {s : So} {i : Int} (h : 0 ≤ i ∧ i < s.ys.length) : (D.r (s.ys.map eY)).get i = eY (s.ys.getD i.toNat default) := get_r eY h.1 h.2
theorem ok_ref30_arity : FOk ct_ref30_arity (gSIi arS) := fok_ref30_arity fun ds outs hw hg => by
  obtain ⟨d, r, rfl, hd, e, r', rfl, he, rfl⟩ := hw
  obtain ⟨s, rfl, hs⟩ := wfS hd
  obtain ⟨i, rfl, hi⟩ := wfI he
  simp only [gSIi, dS_eS, int_i, Option.some.injEq] at hg
  subst hg
  simp only [tree_ref30_arity, Tree.go, allSay, X.says, X.ev, X.evs, evl, tblS, List.getD_cons_zero, List.getD_cons_succ, List.getElem?_cons_zero, List.getElem?_cons_succ, tt_b, int_i, str_s, rs_r, Option.isSome_some, Option.getD_some, decide_eq_true_eq, decide_eq_false_iff_not, dS_eS, dC_eC, dU_eU, dW_eW, dY_eY, eC_0, eC_1, eU_0, eU_1, eW_0, eW_1, eW_2, eY_0, eY_1, eS_0, eS_1, eS_2, eS_3, eS_4, eS_5, List.length_map, i_inj, b_inj, s_inj, eC_eq, eU_eq, eW_eq, eY_eq, eS_eq, rng64, List.take_succ_cons, List.take_zero, List.nil_append, List.cons_append, decide_true, decide_false, Bool.or_true, true_and, and_true, true_and]
  by_cases h : 0 ≤ i ∧ i < s.ys.length
  · have h1 : ¬ i < 0 := by omega
    have h2 : ¬ (s.ys.length : Int) ≤ i := by omega
    simp [ar_get h, eY_1, arS, h, h1, h2]
  · simp [arS, h]
theorem ok_cells_arity : FOk ct_cells_arity (gSIi arS) := fok_cells_arity fun ds outs hw hg => by
  obtain ⟨d, r, rfl, hd, e, r', rfl, he, rfl⟩ := hw
  obtain ⟨s, rfl, hs⟩ := wfS hd
  obtain ⟨i, rfl, hi⟩ := wfI he
  simp only [gSIi, dS_eS, int_i, Option.some.injEq] at hg
  subst hg
  simp only [tree_cells_arity, Tree.go, allSay, X.says, X.ev, X.evs, evl, tblS, List.getD_cons_zero, List.getD_cons_succ, List.getElem?_cons_zero, List.getElem?_cons_succ, tt_b, int_i, str_s, rs_r, Option.isSome_some, Option.getD_some, decide_eq_true_eq, decide_eq_false_iff_not, dS_eS, dC_eC, dU_eU, dW_eW, dY_eY, eC_0, eC_1, eU_0, eU_1, eW_0, eW_1, eW_2, eY_0, eY_1, eS_0, eS_1, eS_2, eS_3, eS_4, eS_5, List.length_map, i_inj, b_inj, s_inj, eC_eq, eU_eq, eW_eq, eY_eq, eS_eq, rng64, List.take_succ_cons, List.take_zero, List.nil_append, List.cons_append, decide_true, decide_false, Bool.or_true, true_and, and_true, true_and]
  by_cases h : 0 ≤ i ∧ i < s.ys.length
  · have h1 : ¬ i < 0 := by omega
    have h2 : ¬ (s.ys.length : Int) ≤ i := by omega
    simp [ar_get h, eY_1, arS, h, h1, h2]
  · simp [arS, h]
theorem ok_ref30_ValidCell : FOk ct_ref30_ValidCell (gSCb vcR) := fok_ref30_ValidCell ok_ref30_ranged ok_ref30_tag ok_ref30_arity fun ds outs hw hg => by
  obtain ⟨d, r, rfl, hd, e, r', rfl, he, rfl⟩ := hw
  obtain ⟨s, rfl, hs⟩ := wfS hd
  obtain ⟨c, rfl, hc⟩ := wfC he
  simp only [gSCb, dS_eS, dC_eC, Option.some.injEq] at hg
  subst hg
  simp only [tree_ref30_ValidCell, Tree.go, allSay, X.says, X.ev, X.evs, evl, tblS, List.getD_cons_zero, List.getD_cons_succ, List.getElem?_cons_zero, List.getElem?_cons_succ, tt_b, int_i, str_s, rs_r, Option.isSome_some, Option.getD_some, decide_eq_true_eq, decide_eq_false_iff_not, dS_eS, dC_eC, dU_eU, dW_eW, dY_eY, eC_0, eC_1, eU_0, eU_1, eW_0, eW_1, eW_2, eY_0, eY_1, eS_0, eS_1, eS_2, eS_3, eS_4, eS_5, List.length_map, i_inj, b_inj, s_inj, eC_eq, eU_eq, eW_eq, eY_eq, eS_eq, rng64, List.take_succ_cons, List.take_zero, List.nil_append, List.cons_append, decide_true, decide_false, Bool.or_true, true_and, and_true, gSIb, gSIi, vcR, true_and]
  by_cases h0 : c.t = 0
  · simp [h0]
  · by_cases h1 : c.t = 1
    · simp [h1]
    · by_cases h2 : c.t = 2
      · simp [h2]
      · by_cases h3 : c.t = 3
        · simp [h3]
        · by_cases h5 : c.t = 5
          · simp [h5]
          · simp [h0, h1, h2, h3, h5]
theorem ok_cells_ValidCell : FOk ct_cells_ValidCell (gSCb vcP) := fok_cells_ValidCell ok_cells_arity ok_cells_tag fun ds outs hw hg => by
  obtain ⟨d, r, rfl, hd, e, r', rfl, he, rfl⟩ := hw
  obtain ⟨s, rfl, hs⟩ := wfS hd
  obtain ⟨c, rfl, hc⟩ := wfC he
  simp only [gSCb, dS_eS, dC_eC, Option.some.injEq] at hg
  subst hg
  simp only [tree_cells_ValidCell, Tree.go, allSay, X.says, X.ev, X.evs, evl, tblS, List.getD_cons_zero, List.getD_cons_succ, List.getElem?_cons_zero, List.getElem?_cons_succ, tt_b, int_i, str_s, rs_r, Option.isSome_some, Option.getD_some, decide_eq_true_eq, decide_eq_false_iff_not, dS_eS, dC_eC, dU_eU, dW_eW, dY_eY, eC_0, eC_1, eU_0, eU_1, eW_0, eW_1, eW_2, eY_0, eY_1, eS_0, eS_1, eS_2, eS_3, eS_4, eS_5, List.length_map, i_inj, b_inj, s_inj, eC_eq, eU_eq, eW_eq, eY_eq, eS_eq, rng64, List.take_succ_cons, List.take_zero, List.nil_append, List.cons_append, decide_true, decide_false, Bool.or_true, true_and, and_true, gSIi, vcP, true_and]
  by_cases h0 : c.t = 0
  · simp [h0]
  · by_cases h1 : c.t = 1
    · simp [h1]
    · by_cases h2 : c.t = 2
      · simp [h2]
      · by_cases h3 : c.t = 3
        · simp [h3]
        · by_cases h5 : c.t = 5
          · simp [h5]
          · simp [h0, h1, h2, h3, h5]
theorem tag_in {s : So} {i : Int} (h : tagS s i = 1) : inS s i = true := by
  cases hi : inS s i with
  | true => rfl
  | false => rw [tagS_out hi] at h; cases h
theorem ok_ref30_group : FOk ct_ref30_group (gSIbP inS groupS) := fok_ref30_group ok_ref30_tag fun ds outs hw hg => by
  obtain ⟨d, r, rfl, hd, e, r', rfl, he, rfl⟩ := hw
  obtain ⟨s, rfl, hs⟩ := wfS hd
  obtain ⟨i, rfl, hi⟩ := wfI he
  simp only [gSIbP, dS_eS, int_i, Option.ite_none_right_eq_some, Option.some.injEq] at hg
  obtain ⟨hin, rfl⟩ := hg
  have h1 := inS_iff.1 hin
  have hl := hs.cs.1
  simp only [LIM] at hl
  have r1 : i64 (i + 1) := ⟨by omega, by omega⟩
  have r2 : i64 (i + 2) := ⟨by omega, by omega⟩
  simp only [tree_ref30_group, Tree.go, allSay, X.says, X.ev, X.evs, evl, tblS, List.getD_cons_zero, List.getD_cons_succ, List.getElem?_cons_zero, List.getElem?_cons_succ, tt_b, int_i, str_s, rs_r, Option.isSome_some, Option.getD_some, decide_eq_true_eq, decide_eq_false_iff_not, dS_eS, dC_eC, dU_eU, dW_eW, dY_eY, eC_0, eC_1, eU_0, eU_1, eW_0, eW_1, eW_2, eY_0, eY_1, eS_0, eS_1, eS_2, eS_3, eS_4, eS_5, List.length_map, i_inj, b_inj, s_inj, eC_eq, eU_eq, eW_eq, eY_eq, eS_eq, rng64, List.take_succ_cons, List.take_zero, List.nil_append, List.cons_append, decide_true, decide_false, Bool.or_true, true_and, and_true, gSIi, true_and, groupS, r1, r2]
  by_cases ht : tagS s (i + 1) = 1
  · have h2 := tag_in ht
    have h3 := inS_iff.1 h2
    simp [ht, cell_get h2, eC_1, h3.1, h3.2, int_i, Bool.and_assoc, rng64, r1.1, r1.2]
  · simp [ht]
theorem ok_cells_group : FOk ct_cells_group (gSIbP inS groupS) := fok_cells_group ok_cells_tag fun ds outs hw hg => by
  obtain ⟨d, r, rfl, hd, e, r', rfl, he, rfl⟩ := hw
  obtain ⟨s, rfl, hs⟩ := wfS hd
  obtain ⟨i, rfl, hi⟩ := wfI he
  simp only [gSIbP, dS_eS, int_i, Option.ite_none_right_eq_some, Option.some.injEq] at hg
  obtain ⟨hin, rfl⟩ := hg
  have h1 := inS_iff.1 hin
  have hl := hs.cs.1
  simp only [LIM] at hl
  have r1 : i64 (i + 1) := ⟨by omega, by omega⟩
  have r2 : i64 (i + 2) := ⟨by omega, by omega⟩
  simp only [tree_cells_group, Tree.go, allSay, X.says, X.ev, X.evs, evl, tblS, List.getD_cons_zero, List.getD_cons_succ, List.getElem?_cons_zero, List.getElem?_cons_succ, tt_b, int_i, str_s, rs_r, Option.isSome_some, Option.getD_some, decide_eq_true_eq, decide_eq_false_iff_not, dS_eS, dC_eC, dU_eU, dW_eW, dY_eY, eC_0, eC_1, eU_0, eU_1, eW_0, eW_1, eW_2, eY_0, eY_1, eS_0, eS_1, eS_2, eS_3, eS_4, eS_5, List.length_map, i_inj, b_inj, s_inj, eC_eq, eU_eq, eW_eq, eY_eq, eS_eq, rng64, List.take_succ_cons, List.take_zero, List.nil_append, List.cons_append, decide_true, decide_false, Bool.or_true, true_and, and_true, gSIi, true_and, groupS, r1, r2]
  by_cases ht : tagS s (i + 1) = 1
  · have h2 := tag_in ht
    have h3 := inS_iff.1 h2
    simp [ht, cell_get h2, eC_1, h3.1, h3.2, int_i, Bool.and_assoc, rng64, r1.1, r1.2]
  · simp [ht]
end Go.Proofs.Ytcjapglipkmbhaa

namespace Go.Proofs.Ytcjapglipkmbhaa
open Go.RowKit
set_option linter.unusedVariables false
set_option linter.unusedSimpArgs false

theorem mfind_mset {k k' v : D} : ∀ {l : List D}, mfind k (mset k' v l) = if k' = k then some v else mfind k l
  | [] => by simp [mset, mfind, D.fld, D.fs]
  | p :: l => by
    unfold mset
    split
    · rename_i h
      by_cases hk : k' = k
      · simp [mfind, D.fld, D.fs, hk]
      · have : ¬ (p.fld 0 = k) := fun e => hk (h.symm.trans e)
        simp [mfind, D.fld, D.fs, hk, this]
        intro e
        exact absurd e this
    · rename_i h
      unfold mfind
      by_cases hk : p.fld 0 = k
      · have : ¬ (k' = k) := fun e => h (hk.trans e.symm)
        simp [hk, this]
      · simp only [if_neg hk]
        exact mfind_mset

def okY (y : Sy) : Bool := decide (y.name.size ≤ 100) && (decide (0 ≤ y.ar) && decide (y.ar ≤ 8))
def symAt (l : List Sy) (k : Nat) : Bool := okY (l.getD k default) && !decide (l.getD k default ∈ l.take k)
def symsB (l : List Sy) : Bool := decide (l.length ≤ 1048576) && (List.range l.length).all (symAt l)
def gYsb (f : List Sy → Bool) : List D → Option (List D)
  | [l] => some [.b (f (l.rs.map dY))]
  | _ => none

/-- The map of those that were seen. -/
def Seen (x : D) (l : List Sy) (k : Nat) (L : List D) : Prop := ∀ y, mfind (eY y) L = if y ∈ l.take k then some x else none
theorem Seen.nil {x : D} {l : List Sy} : Seen x l 0 [] := fun y => by simp [mfind]
theorem Seen.put {x : D} {l : List Sy} {k : Nat} {L : List D} (h : Seen x l k L) (hk : k < l.length) : Seen x l (k + 1) (mset (eY (l.getD k default)) x L) := fun y => by
  rw [mfind_mset, take_snoc hk, h y]
  generalize l.getD k default = z
  by_cases hy : y = z
  · subst hy; simp
  · have : ¬ (z = y) := fun e => hy e.symm
    simp [eY_eq, this, hy]

theorem ok_ref30_symbols : FOk ct_ref30_symbols (gYsb symsB) := fok_ref30_symbols fun ds outs hw hg => by
  obtain ⟨d, r, rfl, hd, rfl⟩ := hw
  obtain ⟨l, rfl, hl, hok⟩ := wfYs hd
  simp only [gYsb, rs_r, map_id' dY_eY, Option.some.injEq] at hg
  subst hg
  simp only [LIM] at hl
  simp only [tree_ref30_symbols, Tree.go, allSay, X.says, X.ev, X.evs, evl, tblS, List.getD_cons_zero, List.getD_cons_succ, List.getElem?_cons_zero, List.getElem?_cons_succ, tt_b, int_i, str_s, rs_r, Option.isSome_some, Option.getD_some, decide_eq_true_eq, decide_eq_false_iff_not, dS_eS, dC_eC, dU_eU, dW_eW, dY_eY, eC_0, eC_1, eU_0, eU_1, eW_0, eW_1, eW_2, eY_0, eY_1, eS_0, eS_1, eS_2, eS_3, eS_4, eS_5, List.length_map, i_inj, b_inj, s_inj, eC_eq, eU_eq, eW_eq, eY_eq, eS_eq, rng64, List.take_succ_cons, List.take_zero, List.nil_append, List.cons_append, decide_true, decide_false, Bool.or_true, true_and, and_true, symsB]
  refine ⟨fun h => ?_, fun h => ?_⟩
  · have : ¬ (l.length ≤ 1048576) := by omega
    simp [this]
  · have h0 : l.length ≤ 1048576 := by omega
    refine ⟨fun st => ∃ (k : Nat) (L : List D), k ≤ l.length ∧ st = [.b false, .i k, .mp L] ∧ (∀ j, j < k → symAt l j = true) ∧ Seen (.i 1) l k L, fun st => l.length - (st.getD 1 .u).int.toNat, ⟨0, [], Nat.zero_le _, rfl, (fun j hj => absurd hj (Nat.not_lt_zero _)), Seen.nil⟩, ?_⟩
    rintro st - ⟨k, L, hk, rfl, hP, hL⟩
    simp only [Tree.go, allSay, X.says, X.ev, X.evs, evl, tblS, List.getD_cons_zero, List.getD_cons_succ, List.getElem?_cons_zero, List.getElem?_cons_succ, tt_b, int_i, str_s, rs_r, Option.isSome_some, Option.getD_some, decide_eq_true_eq, decide_eq_false_iff_not, dS_eS, dC_eC, dU_eU, dW_eW, dY_eY, eC_0, eC_1, eU_0, eU_1, eW_0, eW_1, eW_2, eY_0, eY_1, eS_0, eS_1, eS_2, eS_3, eS_4, eS_5, List.length_map, i_inj, b_inj, s_inj, eC_eq, eU_eq, eW_eq, eY_eq, eS_eq, rng64, List.take_succ_cons, List.take_zero, List.nil_append, List.cons_append, decide_true, decide_false, Bool.or_true, true_and, and_true]
    refine ⟨fun hlt => ?_, fun hlt => ?_⟩
    · have hkl : k < l.length := by omega
      have hp : (0 : Int) ≤ k := by omega
      simp only [hlt, hp, get_n eY hkl, eY_0, eY_1, str_s, int_i, true_and, Bool.or_true, decide_true, and_true, Int.toNat_natCast, fnD, ms_mp, hL (l.getD k default)]
      have hr : i64 ((k : Int) + 1) := ⟨by omega, by omega⟩
      have e : (if l.getD k default ∈ l.take k then some (D.i 1) else none).getD (.i 0) = .i (if l.getD k default ∈ l.take k then 1 else 0) := by split <;> rfl
      rw [e]
      refine ⟨fun hb => ?_, fun hb => ⟨hr, ?_⟩⟩
      · have : symAt l k = false := by
          simp only [symAt, okY]
          generalize l.getD k default = z at hb ⊢
          by_cases hm : z ∈ l.take k
          · simp [hm]
          · simp [hm] at hb ⊢
            intro h1 h2
            omega
        rw [all_not hkl this]
        simp
      · have hs : symAt l k = true := by
          simp only [symAt, okY]
          generalize l.getD k default = z at hb ⊢
          by_cases hm : z ∈ l.take k
          · simp [hm] at hb
          · simp [hm] at hb ⊢
            omega
        rw [updB, if_pos rfl]
        refine ⟨⟨k + 1, _, hkl, ?_, upto_succ hP hs, hL.put hkl⟩, ?_⟩
        · simp
        · simp [D.int]
          omega
    · have : k = l.length := by omega
      subst this
      rw [all_yes hP]
      simp [h0]
theorem ok_cells_validSymbols : FOk ct_cells_validSymbols (gYsb symsB) := fok_cells_validSymbols fun ds outs hw hg => by
  obtain ⟨d, r, rfl, hd, rfl⟩ := hw
  obtain ⟨l, rfl, hl, hok⟩ := wfYs hd
  simp only [gYsb, rs_r, map_id' dY_eY, Option.some.injEq] at hg
  subst hg
  simp only [LIM] at hl
  simp only [tree_cells_validSymbols, Tree.go, allSay, X.says, X.ev, X.evs, evl, tblS, List.getD_cons_zero, List.getD_cons_succ, List.getElem?_cons_zero, List.getElem?_cons_succ, tt_b, int_i, str_s, rs_r, Option.isSome_some, Option.getD_some, decide_eq_true_eq, decide_eq_false_iff_not, dS_eS, dC_eC, dU_eU, dW_eW, dY_eY, eC_0, eC_1, eU_0, eU_1, eW_0, eW_1, eW_2, eY_0, eY_1, eS_0, eS_1, eS_2, eS_3, eS_4, eS_5, List.length_map, i_inj, b_inj, s_inj, eC_eq, eU_eq, eW_eq, eY_eq, eS_eq, rng64, List.take_succ_cons, List.take_zero, List.nil_append, List.cons_append, decide_true, decide_false, Bool.or_true, true_and, and_true, symsB]
  refine ⟨fun h => ?_, fun h => ?_⟩
  · have : ¬ (l.length ≤ 1048576) := by omega
    simp [this]
  · have h0 : l.length ≤ 1048576 := by omega
    refine ⟨fun st => ∃ (k : Nat) (L : List D), k ≤ l.length ∧ st = [.b false, .i k, .mp L] ∧ (∀ j, j < k → symAt l j = true) ∧ Seen (.b true) l k L, fun st => l.length - (st.getD 1 .u).int.toNat, ⟨0, [], Nat.zero_le _, rfl, (fun j hj => absurd hj (Nat.not_lt_zero _)), Seen.nil⟩, ?_⟩
    rintro st - ⟨k, L, hk, rfl, hP, hL⟩
    simp only [Tree.go, allSay, X.says, X.ev, X.evs, evl, tblS, List.getD_cons_zero, List.getD_cons_succ, List.getElem?_cons_zero, List.getElem?_cons_succ, tt_b, int_i, str_s, rs_r, Option.isSome_some, Option.getD_some, decide_eq_true_eq, decide_eq_false_iff_not, dS_eS, dC_eC, dU_eU, dW_eW, dY_eY, eC_0, eC_1, eU_0, eU_1, eW_0, eW_1, eW_2, eY_0, eY_1, eS_0, eS_1, eS_2, eS_3, eS_4, eS_5, List.length_map, i_inj, b_inj, s_inj, eC_eq, eU_eq, eW_eq, eY_eq, eS_eq, rng64, List.take_succ_cons, List.take_zero, List.nil_append, List.cons_append, decide_true, decide_false, Bool.or_true, true_and, and_true]
    refine ⟨fun hlt => ?_, fun hlt => ?_⟩
    · have hkl : k < l.length := by omega
      have hp : (0 : Int) ≤ k := by omega
      simp only [hlt, hp, get_n eY hkl, eY_0, eY_1, str_s, int_i, true_and, Bool.or_true, decide_true, and_true, Int.toNat_natCast, fnD, ms_mp, hL (l.getD k default)]
      have hr : i64 ((k : Int) + 1) := ⟨by omega, by omega⟩
      have e : ((if l.getD k default ∈ l.take k then some (D.b true) else none).getD (.b false)).tt = decide (l.getD k default ∈ l.take k) := by
        by_cases hm : l.getD k default ∈ l.take k
        · rw [if_pos hm, decide_eq_true hm]; rfl
        · rw [if_neg hm, decide_eq_false hm]; rfl
      rw [e]
      refine ⟨fun hb => ?_, fun hb => ⟨hr, ?_⟩⟩
      · have : symAt l k = false := by
          simp only [symAt, okY]
          generalize l.getD k default = z at hb ⊢
          by_cases hm : z ∈ l.take k
          · simp [hm]
          · simp [hm] at hb ⊢
            intro h1 h2
            omega
        rw [all_not hkl this]
        simp
      · have hs : symAt l k = true := by
          simp only [symAt, okY]
          generalize l.getD k default = z at hb ⊢
          by_cases hm : z ∈ l.take k
          · simp [hm] at hb
          · simp [hm] at hb ⊢
            omega
        rw [updB, if_pos rfl]
        refine ⟨⟨k + 1, _, hkl, ?_, upto_succ hP hs, hL.put hkl⟩, ?_⟩
        · simp
        · simp [D.int]
          omega
    · have : k = l.length := by omega
      subst this
      rw [all_yes hP]
      simp [h0]
end Go.Proofs.Ytcjapglipkmbhaa

namespace Go.Proofs.Ytcjapglipkmbhaa
open Go.RowKit
set_option linter.unusedVariables false
set_option linter.unusedSimpArgs false

theorem symsB_ar {s : So} (h : symsB s.ys = true) (n : Int) : -1 ≤ arS s n ∧ arS s n ≤ 8 := by
  unfold arS
  split
  · rename_i hn
    simp only [symsB, Bool.and_eq_true] at h
    have := all_of h.2 (k := n.toNat) (by omega)
    simp only [symAt, okY, Bool.and_eq_true, decide_eq_true_eq] at this
    omega
  · omega
theorem symsB_len {s : So} (h : symsB s.ys = true) : s.ys.length ≤ 1048576 := by
  simp only [symsB, Bool.and_eq_true, decide_eq_true_eq] at h
  exact h.1

/-- The references that begin at an address end. -/
def endsN (s : So) : Nat → Int → Bool
  | 0, _ => false
  | k + 1, n => if tagS s n = 0 ∧ ¬ (cellAt s n).n = n then endsN s k (cellAt s n).n else true
def endsB (s : So) (n : Int) : Bool := endsN s (s.cs.length + 1) n

theorem tag_in' {s : So} {i : Int} {t : Int} (ht : t ≠ -1) (h : tagS s i = t) : inS s i = true := by
  cases hi : inS s i with
  | true => rfl
  | false => rw [tagS_out hi] at h; exact absurd h.symm ht

theorem ok_ref30_ends : FOk ct_ref30_ends (gSIb endsB) := fok_ref30_ends ok_ref30_tag fun ds outs hw hg => by
  obtain ⟨d, r, rfl, hd, e, r', rfl, he, rfl⟩ := hw
  obtain ⟨s, rfl, hs⟩ := wfS hd
  obtain ⟨i, rfl, hi⟩ := wfI he
  simp only [gSIb, dS_eS, int_i, Option.some.injEq] at hg
  subst hg
  have hl := hs.cs.1
  simp only [LIM] at hl
  simp only [tree_ref30_ends, Tree.go, allSay, X.says, X.ev, X.evs, evl, tblS, List.getD_cons_zero, List.getD_cons_succ, List.getElem?_cons_zero, List.getElem?_cons_succ, tt_b, int_i, str_s, rs_r, Option.isSome_some, Option.getD_some, decide_eq_true_eq, decide_eq_false_iff_not, dS_eS, dC_eC, dU_eU, dW_eW, dY_eY, eC_0, eC_1, eU_0, eU_1, eW_0, eW_1, eW_2, eY_0, eY_1, eS_0, eS_1, eS_2, eS_3, eS_4, eS_5, List.length_map, i_inj, b_inj, s_inj, eC_eq, eU_eq, eW_eq, eY_eq, eS_eq, rng64, List.take_succ_cons, List.take_zero, List.nil_append, List.cons_append, decide_true, decide_false, Bool.or_true, true_and, and_true, gSIi]
  refine ⟨fun st => ∃ (k : Nat) (m : Int), k ≤ s.cs.length + 1 ∧ st = [.b false, .i m, .i k] ∧ endsN s (s.cs.length + 1 - k) m = endsB s i, fun st => s.cs.length + 1 - (st.getD 2 .u).int.toNat, ⟨0, i, Nat.zero_le _, rfl, rfl⟩, ?_⟩
  rintro st - ⟨k, m, hk, rfl, hP⟩
  simp only [Tree.go, allSay, X.says, X.ev, X.evs, evl, tblS, List.getD_cons_zero, List.getD_cons_succ, List.getElem?_cons_zero, List.getElem?_cons_succ, tt_b, int_i, str_s, rs_r, Option.isSome_some, Option.getD_some, decide_eq_true_eq, decide_eq_false_iff_not, dS_eS, dC_eC, dU_eU, dW_eW, dY_eY, eC_0, eC_1, eU_0, eU_1, eW_0, eW_1, eW_2, eY_0, eY_1, eS_0, eS_1, eS_2, eS_3, eS_4, eS_5, List.length_map, i_inj, b_inj, s_inj, eC_eq, eU_eq, eW_eq, eY_eq, eS_eq, rng64, List.take_succ_cons, List.take_zero, List.nil_append, List.cons_append, decide_true, decide_false, Bool.or_true, true_and, and_true, gSIi]
  refine ⟨fun hlt => ?_, fun hlt => ?_⟩
  · have hkl : k ≤ s.cs.length := by omega
    have hr : i64 ((k : Int) + 1) := ⟨by omega, by omega⟩
    obtain ⟨n, hn⟩ : ∃ n, s.cs.length + 1 - k = n + 1 := ⟨s.cs.length - k, by omega⟩
    rw [hn] at hP
    unfold endsN at hP
    have hn2 : s.cs.length + 1 - (k + 1) = n := by omega
    by_cases ht : tagS s m = 0
    · have hin := tag_in' (by decide) ht
      have h3 := inS_iff.1 hin
      simp only [ht, cell_get hin, eC_1, h3.1, h3.2, int_i, i_inj, hr] at hP ⊢
      refine ⟨by simp, fun hx => ?_, fun hx => ?_⟩
      · have : (cellAt s m).n = m := by simpa using hx
        rw [if_neg (by simp [this])] at hP
        simp [← hP]
      · have hx' : ¬ (cellAt s m).n = m := by simpa using hx
        rw [if_pos ⟨trivial, hx'⟩] at hP
        refine ⟨⟨trivial, trivial⟩, ⟨trivial, trivial⟩, ?_⟩
        rw [updB, if_pos rfl]
        refine ⟨⟨k + 1, (cellAt s m).n, by omega, by simp, by rw [hn2]; exact hP⟩, ?_⟩
        simp [D.int]
        omega
    · rw [if_neg (by simp [ht])] at hP
      simp [ht, ← hP]
  · have : k = s.cs.length + 1 := by omega
    subst this
    rw [Nat.sub_self] at hP
    simp [← hP, endsN]

/-- The cell at an address is valid there. -/
def cellR (s : So) (i : Int) : Bool :=
  if (cellAt s i).t = 4 then decide (1 ≤ arS s (cellAt s i).n) && (inS s (i + arS s (cellAt s i).n) && (List.range (arS s (cellAt s i).n).toNat).all fun j => !decide (tagS s (i + ((j : Int) + 1)) = 4))
  else vcR s (cellAt s i) && (endsB s i && (!decide ((cellAt s i).t = 5) || (decide ((cellAt s i).n = i) && groupS s i)))
def cellQ (s : So) (i : Int) : Bool := inS s i && symsB s.ys

theorem ok_ref30_cell : FOk ct_ref30_cell (gSIbP cellQ cellR) := fok_ref30_cell ok_ref30_arity ok_ref30_ranged ok_ref30_tag ok_ref30_ValidCell ok_ref30_ends ok_ref30_group fun ds outs hw hg => by
  obtain ⟨d, r, rfl, hd, e, r', rfl, he, rfl⟩ := hw
  obtain ⟨s, rfl, hs⟩ := wfS hd
  obtain ⟨i, rfl, hi⟩ := wfI he
  simp only [gSIbP, dS_eS, int_i, Option.ite_none_right_eq_some, Option.some.injEq, cellQ, Bool.and_eq_true] at hg
  obtain ⟨⟨hin, hy⟩, rfl⟩ := hg
  have h1 := inS_iff.1 hin
  have hl := hs.cs.1
  simp only [LIM] at hl
  obtain ⟨ha, hb⟩ := symsB_ar hy (cellAt s i).n
  simp only [tree_ref30_cell, Tree.go, allSay, X.says, X.ev, X.evs, evl, tblS, List.getD_cons_zero, List.getD_cons_succ, List.getElem?_cons_zero, List.getElem?_cons_succ, tt_b, int_i, str_s, rs_r, Option.isSome_some, Option.getD_some, decide_eq_true_eq, decide_eq_false_iff_not, dS_eS, dC_eC, dU_eU, dW_eW, dY_eY, eC_0, eC_1, eU_0, eU_1, eW_0, eW_1, eW_2, eY_0, eY_1, eS_0, eS_1, eS_2, eS_3, eS_4, eS_5, List.length_map, i_inj, b_inj, s_inj, eC_eq, eU_eq, eW_eq, eY_eq, eS_eq, rng64, List.take_succ_cons, List.take_zero, List.nil_append, List.cons_append, decide_true, decide_false, Bool.or_true, true_and, and_true, gSIi, gSIb, gSCb, gSIbP, cell_get hin, h1.1, h1.2, hin, if_true]
  unfold cellR
  generalize arS s (cellAt s i).n = K at ha hb ⊢
  refine ⟨fun h4 => ?_, fun h4 => ?_⟩
  · have hr : i64 (i + K) := ⟨by omega, by omega⟩
    simp only [h4, hr, if_true]
    refine ⟨by simp [rng64, hr.1, hr.2], fun hx => ?_, fun hx => ?_⟩
    · have hx' : K < 1 ∨ inS s (i + K) = false := by simpa using hx
      rcases hx' with hx | hx
      · have : ¬ (1 ≤ K) := by omega
        simp [this]
      · simp [hx]
    · have hx' : 1 ≤ K ∧ inS s (i + K) = true := by simpa using hx
      obtain ⟨hk, hin2⟩ := hx'
      simp only [hk, hin2]
      refine ⟨fun st => ∃ (j : Nat), (j : Int) ≤ K ∧ st = [.b false, .i ((j : Int) + 1)] ∧ ∀ m : Nat, m < j → (!decide (tagS s (i + ((m : Int) + 1)) = 4)) = true, fun st => K.toNat + 1 - (st.getD 1 .u).int.toNat, ⟨0, by omega, by simp, fun m hm => absurd hm (Nat.not_lt_zero _)⟩, ?_⟩
      rintro st - ⟨j, hj, rfl, hP⟩
      simp only [Tree.go, allSay, X.says, X.ev, X.evs, evl, tblS, List.getD_cons_zero, List.getD_cons_succ, List.getElem?_cons_zero, List.getElem?_cons_succ, tt_b, int_i, str_s, rs_r, Option.isSome_some, Option.getD_some, decide_eq_true_eq, decide_eq_false_iff_not, dS_eS, dC_eC, dU_eU, dW_eW, dY_eY, eC_0, eC_1, eU_0, eU_1, eW_0, eW_1, eW_2, eY_0, eY_1, eS_0, eS_1, eS_2, eS_3, eS_4, eS_5, List.length_map, i_inj, b_inj, s_inj, eC_eq, eU_eq, eW_eq, eY_eq, eS_eq, rng64, List.take_succ_cons, List.take_zero, List.nil_append, List.cons_append, decide_true, decide_false, Bool.or_true, true_and, and_true, gSIi]
      refine ⟨fun hlt => ?_, fun hlt => ?_⟩
      · have hr2 : i64 (i + ((j : Int) + 1)) := ⟨by omega, by omega⟩
        have hr3 : i64 (((j : Int) + 1) + 1) := ⟨by omega, by omega⟩
        refine ⟨hr2, fun hx => ?_, fun hx => ⟨hr3, ?_⟩⟩
        · rw [all_not (k := j) (by omega) (by simp [hx])]
          simp
        · rw [updB, if_pos rfl]
          refine ⟨⟨j + 1, by omega, by simp, upto_succ hP (by simp [hx])⟩, ?_⟩
          simp [D.int]
          omega
      · have : j = K.toNat := by omega
        subst this
        rw [all_yes hP]
        simp
  · simp only [h4, if_false]
    refine ⟨fun hx => ?_, fun hx => ?_⟩
    · have hx' : vcR s (cellAt s i) = false ∨ endsB s i = false := by simpa using hx
      rcases hx' with hx | hx <;> simp [hx]
    · have hx' : vcR s (cellAt s i) = true ∧ endsB s i = true := by simpa using hx
      simp [hx'.1, hx'.2]

/-- The program's. -/
def fitsP (s : So) (i : Int) : Bool :=
  if (cellAt s i).t = 4 then decide (1 ≤ arS s (cellAt s i).n) && (List.range (arS s (cellAt s i).n).toNat).all fun j => decide (0 ≤ tagS s (i + ((j : Int) + 1))) && !decide (tagS s (i + ((j : Int) + 1)) = 4)
  else if (cellAt s i).t = 5 then decide ((cellAt s i).n = i) && groupS s i else vcP s (cellAt s i)
theorem ok_cells_fits : FOk ct_cells_fits (gSIbP cellQ fitsP) := fok_cells_fits ok_cells_arity ok_cells_tag ok_cells_group ok_cells_ValidCell fun ds outs hw hg => by
  obtain ⟨d, r, rfl, hd, e, r', rfl, he, rfl⟩ := hw
  obtain ⟨s, rfl, hs⟩ := wfS hd
  obtain ⟨i, rfl, hi⟩ := wfI he
  simp only [gSIbP, dS_eS, int_i, Option.ite_none_right_eq_some, Option.some.injEq, cellQ, Bool.and_eq_true] at hg
  obtain ⟨⟨hin, hy⟩, rfl⟩ := hg
  have h1 := inS_iff.1 hin
  have hl := hs.cs.1
  simp only [LIM] at hl
  obtain ⟨ha, hb⟩ := symsB_ar hy (cellAt s i).n
  simp only [tree_cells_fits, Tree.go, allSay, X.says, X.ev, X.evs, evl, tblS, List.getD_cons_zero, List.getD_cons_succ, List.getElem?_cons_zero, List.getElem?_cons_succ, tt_b, int_i, str_s, rs_r, Option.isSome_some, Option.getD_some, decide_eq_true_eq, decide_eq_false_iff_not, dS_eS, dC_eC, dU_eU, dW_eW, dY_eY, eC_0, eC_1, eU_0, eU_1, eW_0, eW_1, eW_2, eY_0, eY_1, eS_0, eS_1, eS_2, eS_3, eS_4, eS_5, List.length_map, i_inj, b_inj, s_inj, eC_eq, eU_eq, eW_eq, eY_eq, eS_eq, rng64, List.take_succ_cons, List.take_zero, List.nil_append, List.cons_append, decide_true, decide_false, Bool.or_true, true_and, and_true, gSIi, gSIb, gSCb, gSIbP, cell_get hin, h1.1, h1.2, hin, if_true]
  unfold fitsP
  generalize arS s (cellAt s i).n = K at ha hb ⊢
  refine ⟨fun h4 => ?_, fun h4 => ?_⟩
  · have hr : i64 (i + K) := ⟨by omega, by omega⟩
    have hr1 : i64 (i + 1) := ⟨by omega, by omega⟩
    simp only [h4, hr, hr1, if_true]
    refine ⟨fun hx => ?_, fun hx => ⟨⟨trivial, trivial⟩, ?_⟩⟩
    · have : ¬ (1 ≤ K) := by omega
      simp [this]
    · have hk : 1 ≤ K := by omega
      simp only [hk]
      refine ⟨fun st => ∃ (j : Nat), (j : Int) ≤ K ∧ st = [.b false, .i (i + ((j : Int) + 1))] ∧ ∀ m : Nat, m < j → (decide (0 ≤ tagS s (i + ((m : Int) + 1))) && !decide (tagS s (i + ((m : Int) + 1)) = 4)) = true, fun st => (i + K + 1 - (st.getD 1 .u).int).toNat, ⟨0, by omega, by simp, fun m hm => absurd hm (Nat.not_lt_zero _)⟩, ?_⟩
      rintro st - ⟨j, hj, rfl, hP⟩
      simp only [Tree.go, allSay, X.says, X.ev, X.evs, evl, tblS, List.getD_cons_zero, List.getD_cons_succ, List.getElem?_cons_zero, List.getElem?_cons_succ, tt_b, int_i, str_s, rs_r, Option.isSome_some, Option.getD_some, decide_eq_true_eq, decide_eq_false_iff_not, dS_eS, dC_eC, dU_eU, dW_eW, dY_eY, eC_0, eC_1, eU_0, eU_1, eW_0, eW_1, eW_2, eY_0, eY_1, eS_0, eS_1, eS_2, eS_3, eS_4, eS_5, List.length_map, i_inj, b_inj, s_inj, eC_eq, eU_eq, eW_eq, eY_eq, eS_eq, rng64, List.take_succ_cons, List.take_zero, List.nil_append, List.cons_append, decide_true, decide_false, Bool.or_true, true_and, and_true, gSIi]
      refine ⟨fun hlt => ?_, fun hlt => ?_⟩
      · have hr3 : i64 ((i + ((j : Int) + 1)) + 1) := ⟨by omega, by omega⟩
        refine ⟨fun hx => ?_, fun hx => ⟨hr3, ?_⟩⟩
        · have hx' : tagS s (i + ((j : Int) + 1)) < 0 ∨ tagS s (i + ((j : Int) + 1)) = 4 := by simpa using hx
          rw [all_not (k := j) (by omega)]
          · simp
          · rcases hx' with h | h
            · have : ¬ (0 ≤ tagS s (i + ((j : Int) + 1))) := by omega
              simp [this]
            · simp [h]
        · have hx' : ¬ tagS s (i + ((j : Int) + 1)) < 0 ∧ ¬ tagS s (i + ((j : Int) + 1)) = 4 := by simpa using hx
          rw [updB, if_pos rfl]
          refine ⟨⟨j + 1, by omega, by simp; omega, upto_succ hP (by simp [hx'.2]; omega)⟩, ?_⟩
          simp [D.int]
          omega
      · have : j = K.toNat := by omega
        subst this
        rw [all_yes hP]
        simp
  · simp only [h4, if_false]
    refine ⟨fun hx => ?_, fun hx => ?_⟩
    · simp [hx]
    · simp [hx]

/-- An element of the trail is valid. -/
def oldB (vc : So → Ce → Bool) (rg : So → Int → Bool) (s : So) (u : Un) : Bool :=
  rg s u.at' && if u.old.t = 0 then decide (u.old.n = u.at') else if u.old.t = 5 then decide (u.old.n = u.at') && (groupS s u.at' && !decide (tagS s (u.at' - 1) = 5)) else if u.old.t = 1 ∨ u.old.t = 2 ∨ u.old.t = 3 then vc s u.old else false
def oldR : So → Un → Bool := oldB vcR inS
def oldP : So → Un → Bool := oldB vcP fun s i => decide (0 ≤ tagS s i)
theorem ok_ref30_old : FOk ct_ref30_old (gSUb oldR) := fok_ref30_old ok_ref30_ranged ok_ref30_group ok_ref30_tag ok_ref30_ValidCell fun ds outs hw hg => by
  obtain ⟨d, r, rfl, hd, e, r', rfl, he, rfl⟩ := hw
  obtain ⟨s, rfl, hs⟩ := wfS hd
  obtain ⟨u, rfl, hu⟩ := wfU he
  simp only [gSUb, dS_eS, dU_eU, Option.some.injEq] at hg
  subst hg
  have hl := hs.cs.1
  simp only [LIM] at hl
  simp only [tree_ref30_old, Tree.go, allSay, X.says, X.ev, X.evs, evl, tblS, List.getD_cons_zero, List.getD_cons_succ, List.getElem?_cons_zero, List.getElem?_cons_succ, tt_b, int_i, str_s, rs_r, Option.isSome_some, Option.getD_some, decide_eq_true_eq, decide_eq_false_iff_not, dS_eS, dC_eC, dU_eU, dW_eW, dY_eY, eC_0, eC_1, eU_0, eU_1, eW_0, eW_1, eW_2, eY_0, eY_1, eS_0, eS_1, eS_2, eS_3, eS_4, eS_5, List.length_map, i_inj, b_inj, s_inj, eC_eq, eU_eq, eW_eq, eY_eq, eS_eq, rng64, List.take_succ_cons, List.take_zero, List.nil_append, List.cons_append, decide_true, decide_false, Bool.or_true, true_and, and_true, gSIi, gSIb, gSCb, gSIbP, oldR, oldB]
  cases hin : inS s u.at' with
  | false => simp
  | true =>
    have h1 := inS_iff.1 hin
    have hr : i64 (u.at' - 1) := ⟨by omega, by omega⟩
    simp only [hr, if_true]
    by_cases h0 : u.old.t = 0
    · simp [h0]
    · by_cases h5 : u.old.t = 5
      · simp [h5, Bool.and_assoc, tt_b, rng64, hr.1, hr.2]
      · by_cases h2 : u.old.t = 1
        · simp [h2]
        · by_cases h3 : u.old.t = 2
          · simp [h3]
          · by_cases h4 : u.old.t = 3
            · simp [h4]
            · simp [h0, h5, h2, h3, h4]
theorem ok_cells_validUndo : FOk ct_cells_validUndo (gSUb oldP) := fok_cells_validUndo ok_cells_tag ok_cells_group ok_cells_ValidCell fun ds outs hw hg => by
  obtain ⟨d, r, rfl, hd, e, r', rfl, he, rfl⟩ := hw
  obtain ⟨s, rfl, hs⟩ := wfS hd
  obtain ⟨u, rfl, hu⟩ := wfU he
  simp only [gSUb, dS_eS, dU_eU, Option.some.injEq] at hg
  subst hg
  have hl := hs.cs.1
  simp only [LIM] at hl
  simp only [tree_cells_validUndo, Tree.go, allSay, X.says, X.ev, X.evs, evl, tblS, List.getD_cons_zero, List.getD_cons_succ, List.getElem?_cons_zero, List.getElem?_cons_succ, tt_b, int_i, str_s, rs_r, Option.isSome_some, Option.getD_some, decide_eq_true_eq, decide_eq_false_iff_not, dS_eS, dC_eC, dU_eU, dW_eW, dY_eY, eC_0, eC_1, eU_0, eU_1, eW_0, eW_1, eW_2, eY_0, eY_1, eS_0, eS_1, eS_2, eS_3, eS_4, eS_5, List.length_map, i_inj, b_inj, s_inj, eC_eq, eU_eq, eW_eq, eY_eq, eS_eq, rng64, List.take_succ_cons, List.take_zero, List.nil_append, List.cons_append, decide_true, decide_false, Bool.or_true, true_and, and_true, gSIi, gSIb, gSCb, gSIbP, oldP, oldB]
  by_cases ht : 0 ≤ tagS s u.at'
  · have ht' : ¬ (tagS s u.at' < 0) := by omega
    have hin : inS s u.at' = true := by
      cases hin : inS s u.at' with
      | true => rfl
      | false => rw [tagS_out hin] at ht; omega
    have h1 := inS_iff.1 hin
    have hr : i64 (u.at' - 1) := ⟨by omega, by omega⟩
    simp only [hr, hin, ht, ht', if_true]
    by_cases h0 : u.old.t = 0
    · simp [h0]
    · by_cases h5 : u.old.t = 5
      · simp [h5, Bool.and_assoc, tt_b, rng64, hr.1, hr.2]
      · by_cases h2 : u.old.t = 1
        · simp [h2]
        · by_cases h3 : u.old.t = 2
          · simp [h3]
          · by_cases h4 : u.old.t = 3
            · simp [h4]
            · simp [h0, h5, h2, h3, h4]
  · have ht' : tagS s u.at' < 0 := by omega
    simp [ht, ht']
end Go.Proofs.Ytcjapglipkmbhaa

namespace Go.Proofs.Ytcjapglipkmbhaa
open Go.RowKit
set_option linter.unusedVariables false
set_option linter.unusedSimpArgs false

section
variable {s : So}

/-- A reference that leads on. -/
def Ns (s : So) (n : Int) : Prop := tagS s n = 0 ∧ ¬ (cellAt s n).n = n
abbrev nx (s : So) (n : Int) : Int := (cellAt s n).n
theorem endsN_ns {k : Nat} {n : Int} (h : Ns s n) : endsN s (k + 1) n = endsN s k (nx s n) := if_pos h
theorem endsN_st {k : Nat} {n : Int} (h : ¬ Ns s n) : endsN s (k + 1) n = true := if_neg h
theorem Ns.inS {n : Int} (h : Ns s n) : inS s n = true := tag_in' (by decide) h.1
theorem endsN_up {k : Nat} : ∀ {n : Int}, endsN s k n = true → endsN s (k + 1) n = true := by
  induction k with
  | zero => intro n h; cases h
  | succ k ih =>
    intro n h
    by_cases hn : Ns s n
    · rw [endsN_ns hn] at h ⊢
      exact ih h
    · exact endsN_st hn
theorem endsN_le {k j : Nat} (hk : k ≤ j) {n : Int} (h : endsN s k n = true) : endsN s j n = true := by
  obtain ⟨d, rfl⟩ := Nat.exists_eq_add_of_le hk
  clear hk
  induction d with
  | zero => exact h
  | succ d ih => exact endsN_up ih
def En (s : So) (n : Int) : Prop := ∃ k, endsN s k n = true
theorem En.st {n : Int} (h : ¬ Ns s n) : En s n := ⟨1, endsN_st h⟩
theorem En.ns {n : Int} (h : Ns s n) (he : En s (nx s n)) : En s n := let ⟨k, hk⟩ := he; ⟨k + 1, (endsN_ns h).trans hk⟩

theorem nodup_lt : ∀ (n : Nat) (l : List Nat), l.Nodup → (∀ x ∈ l, x < n) → l.length ≤ n
  | 0, [], _, _ => Nat.le_refl _
  | 0, x :: l, _, h => absurd (h x List.mem_cons_self) (Nat.not_lt_zero _)
  | n + 1, l, hn, h => by
    have h1 := nodup_lt n (l.erase n) (hn.erase n) fun x hx => by
      have h2 := (hn.mem_erase_iff).1 hx
      have := h x h2.2
      have := h2.1
      omega
    have h2 := List.length_erase (a := n) (l := l)
    split at h2 <;> omega

/-- The nodes of a chain that ends after k steps, the last left out. -/
theorem rank_list : ∀ (k : Nat) (n : Int), endsN s (k + 1) n = true → endsN s k n = false → ∃ l : List Int, l.length = k ∧ l.Nodup ∧ (∀ x ∈ l, inS s x = true) ∧ ∀ x ∈ l, ∃ j, j ≤ k ∧ endsN s (j + 1) x = true
  | 0, n, _, _ => ⟨[], rfl, List.nodup_nil, (fun x hx => by cases hx), fun x hx => by cases hx⟩
  | k + 1, n, h1, h2 => by
    have hn : Ns s n := Classical.byContradiction fun hn => by rw [endsN_st hn] at h2; cases h2
    rw [endsN_ns hn] at h1 h2
    obtain ⟨l, e1, e2, e3, e4⟩ := rank_list k _ h1 h2
    refine ⟨n :: l, by simp [e1], ?_, fun x hx => ?_, fun x hx => ?_⟩
    · refine List.nodup_cons.2 ⟨fun hm => ?_, e2⟩
      obtain ⟨j, hj, he⟩ := e4 n hm
      rw [endsN_ns hn] at he
      rw [endsN_le hj he] at h2
      cases h2
    · rcases List.mem_cons.1 hx with rfl | hx
      · exact hn.inS
      · exact e3 x hx
    · rcases List.mem_cons.1 hx with rfl | hx
      · exact ⟨k + 1, Nat.le_refl _, by rw [endsN_ns hn]; exact h1⟩
      · obtain ⟨j, hj, he⟩ := e4 x hx
        exact ⟨j, by omega, he⟩
theorem En.ends {n : Int} (h : En s n) : endsB s n = true := by
  obtain ⟨k, hk⟩ := h
  induction k with
  | zero => cases hk
  | succ k ih =>
    cases hk' : endsN s k n with
    | true => exact ih hk'
    | false =>
      obtain ⟨l, e1, e2, e3, -⟩ := rank_list k n hk hk'
      have h1 := nodup_lt s.cs.length (l.map Int.toNat) ?_ ?_
      · rw [List.length_map, e1] at h1
        exact endsN_le (by omega) hk
      · refine List.Pairwise.map _ (fun a b h => h) ?_
        refine List.Pairwise.imp_of_mem (R := fun a b => a ≠ b) (fun {a b} ha hb hab e => hab ?_) e2
        have h1 := inS_iff.1 (e3 a ha)
        have h2 := inS_iff.1 (e3 b hb)
        omega
      · intro x hx
        obtain ⟨a, ha, rfl⟩ := List.mem_map.1 hx
        have h1 := inS_iff.1 (e3 a ha)
        omega

/-- A path of references to a. -/
def Ch (s : So) : List Int → Int → Prop
  | [], _ => True
  | q :: l, a => Ns s q ∧ nx s q = l.headD a ∧ Ch s l a
theorem Ch.snoc : ∀ {l : List Int} {a b : Int}, Ch s l a → Ns s a → nx s a = b → Ch s (l ++ [a]) b
  | [], a, b, _, h1, h2 => ⟨h1, h2, trivial⟩
  | q :: l, a, b, ⟨g1, g2, g3⟩, h1, h2 => ⟨g1, by cases l <;> exact g2, Ch.snoc g3 h1 h2⟩
theorem Ch.en : ∀ {l : List Int} {a : Int}, Ch s l a → En s a → ∀ q ∈ l, En s q
  | [], a, _, _, q, hq => by cases hq
  | q :: l, a, ⟨g1, g2, g3⟩, he, x, hx => by
    have ih := Ch.en g3 he
    rcases List.mem_cons.1 hx with rfl | hx
    · refine En.ns g1 ?_
      rw [g2]
      cases l with
      | nil => exact he
      | cons y l => exact ih y List.mem_cons_self
    · exact ih x hx
theorem Ch.next : ∀ {l : List Int} {a : Int}, Ch s l a → ∀ q ∈ l, Ns s q ∧ (nx s q ∈ l ∨ nx s q = a)
  | [], a, _, q, hq => by cases hq
  | q :: l, a, ⟨g1, g2, g3⟩, x, hx => by
    rcases List.mem_cons.1 hx with rfl | hx
    · refine ⟨g1, ?_⟩
      rw [g2]
      cases l with
      | nil => exact .inr rfl
      | cons y l => exact .inl (by simp)
    · obtain ⟨h1, h2⟩ := Ch.next g3 x hx
      exact ⟨h1, h2.imp (List.mem_cons_of_mem _) id⟩
theorem closed_no {Q : List Int} (h : ∀ q ∈ Q, Ns s q ∧ nx s q ∈ Q) : ∀ (k : Nat) (q : Int), q ∈ Q → endsN s k q = false
  | 0, q, _ => rfl
  | k + 1, q, hq => by
    rw [endsN_ns (h q hq).1]
    exact closed_no h k _ (h q hq).2

def acyP (s : So) : Bool := (List.range s.cs.length).all fun i => endsB s (i : Nat)
def acyQ (s : So) : Bool := decide (s.cs.length ≤ 16777216) && (List.range s.cs.length).all fun i => !decide ((cellAt s (i : Nat)).t = 0) || inS s (cellAt s (i : Nat)).n

/-- The marks. -/
structure Mk0 (s : So) (m : List Int) : Prop where
  len : m.length = s.cs.length
  en : ∀ j : Nat, m.getD j 0 = 2 → En s j
theorem marks_get {m : List Int} {i : Int} (h0 : 0 ≤ i) (h : i < m.length) : (D.r (m.map D.i)).get i = .i (m.getD i.toNat 0) := by
  have : i.toNat < m.length := by omega
  simp [D.get, D.rs, List.getD_eq_getElem?_getD, this]
theorem marks_set {m : List Int} {k : Nat} {x : Int} : (m.map D.i).set k (.i x) = (m.set k x).map D.i := by simp
theorem getD_set {m : List Int} {k j : Nat} {x : Int} (hk : k < m.length) : (m.set k x).getD j 0 = if k = j then x else m.getD j 0 := by
  simp only [List.getD_eq_getElem?_getD, List.getElem?_set, hk]
  split <;> simp_all
end
end Go.Proofs.Ytcjapglipkmbhaa

namespace Go.Proofs.Ytcjapglipkmbhaa
open Go.RowKit
set_option linter.unusedVariables false
set_option linter.unusedSimpArgs false

/-- The loop that marks a path as done. -/
def markT (P M : X) : Tree := .loop 16 8 [(.lit (.i 0)), M] (.br (.lt (.tok 8) (.len P)) (.need [(.le (.lit (.i 0)) (.tok 8)), (.lt (.tok 8) (.len P))] (.need [(.le (.lit (.i 0)) (.get P (.tok 8))), (.lt (.get P (.tok 8)) (.len (.tok 9)))] (.need [(.rng .i64 (.add (.tok 8) (.lit (.i 1))))] (.back 16 [(.add (.tok 8) (.lit (.i 1))), (.put (.tok 9) (.get P (.tok 8)) (.lit (.i 2)))])))) (.need [(.rng .i64 (.add (.tok 2) (.lit (.i 1))))] (.back 3 [(.tok 6), (.add (.tok 2) (.lit (.i 1))), (.tok 9)])))

theorem take_mem_snoc {l : List Int} {k : Nat} (h : k < l.length) (x : Int) : x ∈ l.take (k + 1) ↔ x ∈ l.take k ∨ x = l.getD k default := by
  rw [take_snoc h]
  simp

theorem mark_ok {S : Nat → List D → Option (List D)} {R : List D → Prop} {L : List D} {B : Nat → List D → Prop} {P M : X} {l m : List Int} {i : Nat} (hL : L.length = 8) (hP : ∀ e, P.ev (evl S (L ++ e)) = .r (l.map D.i)) (hM : M.ev (evl S L) = .r (m.map D.i))
    (h2 : L.getD 2 .u = .i i) (hi : i64 ((i : Int) + 1)) (hl : ∀ x ∈ l, 0 ≤ x ∧ x < m.length) (hll : l.length ≤ 16777216)
    (hB : ∀ f : List Int, f.length = m.length → (∀ j : Nat, j < m.length → f.getD j 0 = if (j : Int) ∈ l then 2 else m.getD j 0) → B 3 [L.getD 6 .u, .i ((i : Int) + 1), .r (f.map D.i)]) : (markT P M).go S R L B := by
  unfold markT
  rw [go_loop]
  have hM' : (evl S L) = ⟨fun k => L.getD k .u, S⟩ := rfl
  refine ⟨fun st => ∃ (k : Nat) (f : List Int), k ≤ l.length ∧ st = [.i k, .r (f.map D.i)] ∧ f.length = m.length ∧ ∀ j : Nat, j < m.length → f.getD j 0 = if (j : Int) ∈ l.take k then 2 else m.getD j 0, fun st => l.length - (st.getD 0 .u).int.toNat, ⟨0, m, Nat.zero_le _, by simp [X.evs, X.ev, hM], rfl, fun j _ => by simp⟩, ?_⟩
  rintro st - ⟨k, f, hk, rfl, hfl, hf⟩
  rw [List.take_of_length_le (by omega)]
  have t : ∀ j, j < 8 → (L ++ [D.i k, D.r (f.map D.i)]).getD j .u = L.getD j .u := fun j hj => by
    simp only [List.getD_eq_getElem?_getD]
    rw [List.getElem?_append_left (by omega)]
  have t8 : (L ++ [D.i k, D.r (f.map D.i)]).getD 8 .u = .i k := by
    simp only [List.getD_eq_getElem?_getD]
    rw [List.getElem?_append_right (by omega), hL]
    rfl
  have t9 : (L ++ [D.i k, D.r (f.map D.i)]).getD 9 .u = .r (f.map D.i) := by
    simp only [List.getD_eq_getElem?_getD]
    rw [List.getElem?_append_right (by omega), hL]
    rfl
  have hP' := hP [D.i k, D.r (f.map D.i)]
  have e2 : (L ++ [D.i k, D.r (f.map D.i)]).getD 2 .u = .i i := (t 2 (by omega)).trans h2
  have e6 := t 6 (by omega)
  generalize hg : evl S (L ++ [D.i k, D.r (f.map D.i)]) = g at hP'
  have hE : ∀ n, g.E n = (L ++ [D.i k, D.r (f.map D.i)]).getD n .u := fun n => by rw [← hg]; rfl
  simp only [go_need, go_br, go_back, allSay, X.says, hg, X.evs, X.ev, hP', hE, t8, t9, e2, e6, int_i, rs_r, tt_b, List.length_map, decide_eq_true_eq, decide_eq_false_iff_not, and_true]
  refine ⟨fun hlt => ?_, fun hlt => ?_⟩
  · have hkl : k < l.length := by omega
    have hm := getD_mem hkl
    have hr := hl _ hm
    have hget : (D.r (l.map D.i)).get (k : Int) = .i (l.getD k default) := get_n D.i hkl
    rw [hget]
    generalize hx : l.getD k default = x at hm hr
    simp only [int_i]
    refine ⟨⟨by omega, hlt⟩, ⟨hr.1, by omega⟩, rng64.2 ⟨by omega, by omega⟩, ?_⟩
    rw [updB, if_pos rfl]
    refine ⟨⟨k + 1, f.set x.toNat 2, hkl, by simp, by simp [hfl], fun j hj => ?_⟩, ?_⟩
    · rw [getD_set (by omega), hf j hj]
      by_cases hjx : x.toNat = j
      · have : (j : Int) ∈ l.take (k + 1) := (take_mem_snoc hkl _).2 (.inr (by omega))
        rw [if_pos hjx, if_pos this]
      · rw [if_neg hjx]
        by_cases hm2 : (j : Int) ∈ l.take k
        · rw [if_pos hm2, if_pos ((take_mem_snoc hkl _).2 (.inl hm2))]
        · rw [if_neg hm2, if_neg fun h => ?_]
          rcases (take_mem_snoc hkl _).1 h with h | h
          · exact hm2 h
          · omega
    · simp [D.int]
      omega
  · have : k = l.length := by omega
    subst this
    refine ⟨rng64.2 hi, ?_⟩
    rw [updB, if_neg (by decide)]
    rw [List.take_length] at hf
    exact hB f hfl hf

instance {s : So} {n : Int} : Decidable (Ns s n) := inferInstanceAs (Decidable (_ ∧ _))

theorem ok_cells_acyclic : FOk ct_cells_acyclic (gSbP acyQ acyP) := fok_cells_acyclic fun ds outs hw hg => by
  obtain ⟨d, r, rfl, hd, rfl⟩ := hw
  obtain ⟨s, rfl, hs⟩ := wfS hd
  simp only [gSbP, dS_eS, Option.ite_none_right_eq_some, Option.some.injEq, acyQ, Bool.and_eq_true, decide_eq_true_eq] at hg
  obtain ⟨⟨hlen, hrf⟩, rfl⟩ := hg
  have hrange : ∀ n : Int, Ns s n → inS s (nx s n) = true := fun n hn => by
    have h1 := inS_iff.1 hn.inS
    have h2 := all_of hrf (k := n.toNat) (by omega)
    have e : ((n.toNat : Nat) : Int) = n := by omega
    have h0 : (cellAt s n).t = 0 := by rw [← tagS_in hn.inS]; exact hn.1
    rw [e] at h2
    simpa [h0] using h2
  rw [tree_cells_acyclic, go_need]
  refine ⟨by simp only [go_need, go_br, go_leaf, go_back, allSay, X.says, X.ev, X.evs, evl, tblS, List.getD_cons_zero, List.getD_cons_succ, List.getElem?_cons_zero, List.getElem?_cons_succ, tt_b, int_i, str_s, rs_r, Option.isSome_some, Option.getD_some, decide_eq_true_eq, decide_eq_false_iff_not, dS_eS, dC_eC, dU_eU, dW_eW, dY_eY, eC_0, eC_1, eU_0, eU_1, eW_0, eW_1, eW_2, eY_0, eY_1, eS_0, eS_1, eS_2, eS_3, eS_4, eS_5, List.length_map, i_inj, b_inj, s_inj, eC_eq, eU_eq, eW_eq, eY_eq, eS_eq, rng64, List.take_succ_cons, List.take_zero, List.nil_append, List.cons_append, decide_true, decide_false, Bool.or_true, true_and, and_true]; omega, ?_⟩
  rw [go_loop]
  refine ⟨fun st => ∃ (i : Nat) (m : List Int), i ≤ s.cs.length ∧ st = [.b false, .i i, .r (m.map D.i)] ∧ Mk0 s m ∧ (∀ j : Nat, j < s.cs.length → m.getD j 0 = 0 ∨ m.getD j 0 = 2) ∧ ∀ j : Nat, j < i → En s j, fun st => s.cs.length - (st.getD 1 .u).int.toNat,
    ⟨0, List.replicate s.cs.length 0, Nat.zero_le _, by simp [X.evs, X.ev, evl, eS_0, D.int, D.rs], ⟨by simp, fun j hj => ?_⟩, fun j hj => ?_, fun j hj => absurd hj (Nat.not_lt_zero _)⟩, ?_⟩
  · exfalso
    simp only [List.getD_eq_getElem?_getD, List.getElem?_replicate] at hj
    split at hj <;> simp at hj
  · left
    simp [List.getD_eq_getElem?_getD, List.getElem?_replicate, hj]
  rintro st - ⟨i, m, hi, rfl, hm, hm02, hdone⟩
  rw [go_br]
  refine ⟨fun hlt => ?_, fun hlt => ?_⟩
  · have hil : i < s.cs.length := by simpa [X.ev, evl, eS_0, D.int, D.rs, D.tt] using hlt
    rw [go_loop]
    refine ⟨fun st => ∃ (l : List Int) (a : Int) (f : List Int), st = [.r (l.map D.i), .i a, .b false, .r (f.map D.i)] ∧ inS s a = true ∧ f.length = s.cs.length ∧ Ch s l a ∧ l.headD a = (i : Int) ∧ (∀ x ∈ l, inS s x = true) ∧ l.length ≤ s.cs.length - f.count 0 ∧ ¬ f.getD a.toNat 0 = 1 ∧
      ∀ j : Nat, j < s.cs.length → f.getD j 0 = if (j : Int) ∈ l then 1 else m.getD j 0, fun st => ((st.getD 3 .u).rs.map D.int).count 0, ⟨[], i, m, by simp [X.evs, X.ev, evl], inS_iff.2 ⟨by omega, by omega⟩, hm.len, trivial, rfl, (fun x hx => by cases hx), Nat.zero_le _, ?_, fun j hj => by simp⟩, ?_⟩
    · have := hm02 i hil
      simp only [Int.toNat_natCast]
      omega
    rintro st - ⟨l, a, f, rfl, hin, hfl, hch, hhd, hl, hll, hna, hf⟩
    have ha := inS_iff.1 hin
    have hfa : (f.getD a.toNat 0) = if a ∈ l then 1 else m.getD a.toNat 0 := by
      have := hf a.toNat (by omega)
      rwa [show ((a.toNat : Nat) : Int) = a by omega] at this
    have hal : a ∉ l := fun h => hna (by rw [hfa, if_pos h])
    rw [if_neg hal] at hfa
    have hmark : (D.r (f.map D.i)).get a = .i (f.getD a.toNat 0) := marks_get ha.1 (by omega)
    rw [go_need]
    refine ⟨by simp only [go_need, go_br, go_leaf, go_back, allSay, X.says, X.ev, X.evs, evl, tblS, List.getD_cons_zero, List.getD_cons_succ, List.getElem?_cons_zero, List.getElem?_cons_succ, tt_b, int_i, str_s, rs_r, Option.isSome_some, Option.getD_some, decide_eq_true_eq, decide_eq_false_iff_not, dS_eS, dC_eC, dU_eU, dW_eW, dY_eY, eC_0, eC_1, eU_0, eU_1, eW_0, eW_1, eW_2, eY_0, eY_1, eS_0, eS_1, eS_2, eS_3, eS_4, eS_5, List.length_map, i_inj, b_inj, s_inj, eC_eq, eU_eq, eW_eq, eY_eq, eS_eq, rng64, List.take_succ_cons, List.take_zero, List.nil_append, List.cons_append, decide_true, decide_false, Bool.or_true, true_and, and_true]; omega, ?_⟩
    rw [go_br]
    -- what the marks are when a path is done
    have finish : ∀ (p : List Int), (∀ x ∈ p, inS s x = true) → (∀ x ∈ p, En s x) → En s i → (∀ x ∈ l, x ∈ p) → ∀ (f' : List Int), f'.length = s.cs.length → (∀ j : Nat, j < s.cs.length → f'.getD j 0 = if (j : Int) ∈ p then 2 else m.getD j 0) →
        updB (fun x x_1 => False) 3 (fun st' => (∃ (i : Nat) (m : List Int), i ≤ s.cs.length ∧ st' = [.b false, .i i, .r (m.map D.i)] ∧ Mk0 s m ∧ (∀ j : Nat, j < s.cs.length → m.getD j 0 = 0 ∨ m.getD j 0 = 2) ∧ ∀ j : Nat, j < i → En s j) ∧ s.cs.length - (st'.getD 1 .u).int.toNat < s.cs.length - (([D.b false, D.i i, D.r (m.map D.i)] : List D).getD 1 .u).int.toNat) 3 [.b false, .i ((i : Int) + 1), .r (f'.map D.i)] := by
      intro p hp1 hp2 hei hlp f' hf1 hf2
      rw [updB, if_pos rfl]
      refine ⟨⟨i + 1, f', hil, by simp, ⟨hf1, fun j hj => ?_⟩, fun j hj => ?_, fun j hj => ?_⟩, ?_⟩
      · by_cases hjl : j < s.cs.length
        · rw [hf2 j hjl] at hj
          split at hj
          · rename_i hjp; exact hp2 _ hjp
          · exact hm.en j hj
        · rw [List.getD_eq_getElem?_getD, List.getElem?_eq_none (by omega)] at hj
          cases hj
      · rw [hf2 j hj]
        split
        · exact .inr rfl
        · exact hm02 j hj
      · rcases Nat.lt_succ_iff_lt_or_eq.1 hj with h | h
        · exact hdone j h
        · rw [h]; exact hei
      · simp [D.int]
        omega
    have hend : En s a → En s i := fun he => by
      cases l with
      | nil => rw [← hhd]; exact he
      | cons y l => rw [← hhd]; exact hch.en he y List.mem_cons_self
    refine ⟨fun hz => ?_, fun hz => ?_⟩
    · -- an unknown cell
      have hz' : f.getD a.toNat 0 = 0 := by
        simp only [go_need, go_br, go_leaf, go_back, allSay, X.says, X.ev, X.evs, evl, tblS, List.getD_cons_zero, List.getD_cons_succ, List.getElem?_cons_zero, List.getElem?_cons_succ, tt_b, int_i, str_s, rs_r, Option.isSome_some, Option.getD_some, decide_eq_true_eq, decide_eq_false_iff_not, dS_eS, dC_eC, dU_eU, dW_eW, dY_eY, eC_0, eC_1, eU_0, eU_1, eW_0, eW_1, eW_2, eY_0, eY_1, eS_0, eS_1, eS_2, eS_3, eS_4, eS_5, List.length_map, i_inj, b_inj, s_inj, eC_eq, eU_eq, eW_eq, eY_eq, eS_eq, rng64, List.take_succ_cons, List.take_zero, List.nil_append, List.cons_append, decide_true, decide_false, Bool.or_true, true_and, and_true, hmark] at hz
        exact hz
      have hc0 : 0 < f.count 0 := List.count_pos_iff.2 (by
        rw [List.getD_eq_getElem?_getD, List.getElem?_eq_getElem (by omega)] at hz'
        have : f[a.toNat] = 0 := hz'
        exact List.mem_iff_getElem.2 ⟨a.toNat, by omega, this⟩)
      have hcl : f.count 0 ≤ f.length := List.count_le_length
      have hset : (f.set a.toNat 1).count 0 = f.count 0 - 1 := by
        rw [List.count_set (by omega)]
        have : f[a.toNat]'(by omega) = 0 := by
          rw [List.getD_eq_getElem?_getD, List.getElem?_eq_getElem (by omega)] at hz'
          exact hz'
        simp [this]
      rw [go_need, go_need, go_need]
      refine ⟨by simp only [go_need, go_br, go_leaf, go_back, allSay, X.says, X.ev, X.evs, evl, tblS, List.getD_cons_zero, List.getD_cons_succ, List.getElem?_cons_zero, List.getElem?_cons_succ, tt_b, int_i, str_s, rs_r, Option.isSome_some, Option.getD_some, decide_eq_true_eq, decide_eq_false_iff_not, dS_eS, dC_eC, dU_eU, dW_eW, dY_eY, eC_0, eC_1, eU_0, eU_1, eW_0, eW_1, eW_2, eY_0, eY_1, eS_0, eS_1, eS_2, eS_3, eS_4, eS_5, List.length_map, i_inj, b_inj, s_inj, eC_eq, eU_eq, eW_eq, eY_eq, eS_eq, rng64, List.take_succ_cons, List.take_zero, List.nil_append, List.cons_append, decide_true, decide_false, Bool.or_true, true_and, and_true]; omega, by simp only [go_need, go_br, go_leaf, go_back, allSay, X.says, X.ev, X.evs, evl, tblS, List.getD_cons_zero, List.getD_cons_succ, List.getElem?_cons_zero, List.getElem?_cons_succ, tt_b, int_i, str_s, rs_r, Option.isSome_some, Option.getD_some, decide_eq_true_eq, decide_eq_false_iff_not, dS_eS, dC_eC, dU_eU, dW_eW, dY_eY, eC_0, eC_1, eU_0, eU_1, eW_0, eW_1, eW_2, eY_0, eY_1, eS_0, eS_1, eS_2, eS_3, eS_4, eS_5, List.length_map, i_inj, b_inj, s_inj, eC_eq, eU_eq, eW_eq, eY_eq, eS_eq, rng64, List.take_succ_cons, List.take_zero, List.nil_append, List.cons_append, decide_true, decide_false, Bool.or_true, true_and, and_true]; omega, by simp only [go_need, go_br, go_leaf, go_back, allSay, X.says, X.ev, X.evs, evl, tblS, List.getD_cons_zero, List.getD_cons_succ, List.getElem?_cons_zero, List.getElem?_cons_succ, tt_b, int_i, str_s, rs_r, Option.isSome_some, Option.getD_some, decide_eq_true_eq, decide_eq_false_iff_not, dS_eS, dC_eC, dU_eU, dW_eW, dY_eY, eC_0, eC_1, eU_0, eU_1, eW_0, eW_1, eW_2, eY_0, eY_1, eS_0, eS_1, eS_2, eS_3, eS_4, eS_5, List.length_map, i_inj, b_inj, s_inj, eC_eq, eU_eq, eW_eq, eY_eq, eS_eq, rng64, List.take_succ_cons, List.take_zero, List.nil_append, List.cons_append, decide_true, decide_false, Bool.or_true, true_and, and_true]; omega, ?_⟩
      rw [go_br]
      have hcond : (X.ev (evl (tblS []) ([eS s, D.b false, D.i i, D.r (m.map D.i)] ++ [D.r (l.map D.i), D.i a, D.b false, D.r (f.map D.i)])) ((.or (.not (.eq (.fld (.get (.fld (.tok 0) 0) (.tok 5)) 0) (.lit (.i 0)))) (.eq (.fld (.get (.fld (.tok 0) 0) (.tok 5)) 1) (.tok 5))))).tt = !decide (Ns s a) := by
        simp only [go_need, go_br, go_leaf, go_back, allSay, X.says, X.ev, X.evs, evl, tblS, List.getD_cons_zero, List.getD_cons_succ, List.getElem?_cons_zero, List.getElem?_cons_succ, tt_b, int_i, str_s, rs_r, Option.isSome_some, Option.getD_some, decide_eq_true_eq, decide_eq_false_iff_not, dS_eS, dC_eC, dU_eU, dW_eW, dY_eY, eC_0, eC_1, eU_0, eU_1, eW_0, eW_1, eW_2, eY_0, eY_1, eS_0, eS_1, eS_2, eS_3, eS_4, eS_5, List.length_map, i_inj, b_inj, s_inj, eC_eq, eU_eq, eW_eq, eY_eq, eS_eq, rng64, List.take_succ_cons, List.take_zero, List.nil_append, List.cons_append, decide_true, decide_false, Bool.or_true, true_and, and_true, cell_get hin, Ns, tagS_in hin]
        by_cases h0 : (cellAt s a).t = 0 <;> simp [h0]
      refine ⟨fun hst => ?_, fun hst => ?_⟩
      · have hns : ¬ Ns s a := by
          have := hcond.symm.trans hst
          simpa using this
        have hea := En.st hns
        refine mark_ok (P := .app (.tok 4) (.row [.tok 5])) (l := l ++ [a]) (m := f.set a.toNat 1) (i := i) rfl (fun e => by simp [X.ev, X.evs, evl, D.rs]) (by simp [X.ev, evl, D.rs, D.int]) rfl ⟨by omega, by omega⟩ (fun x hx => ?_) (by simp; omega) fun f' hf1 hf2 => ?_
        · rcases List.mem_append.1 hx with hx | hx
          · have := inS_iff.1 (hl x hx); simp; omega
          · obtain rfl : x = a := by simpa using hx
            simp; omega
        · refine finish (l ++ [a]) (fun x hx => ?_) (fun x hx => ?_) (hend hea) (fun x hx => List.mem_append_left _ hx) f' (by simpa [hfl] using hf1) fun j hj => ?_
          · rcases List.mem_append.1 hx with hx | hx
            · exact hl x hx
            · obtain rfl : x = a := by simpa using hx
              exact hin
          · rcases List.mem_append.1 hx with hx | hx
            · exact hch.en hea x hx
            · obtain rfl : x = a := by simpa using hx
              exact hea
          · rw [hf2 j (by simp; omega)]
            by_cases hjm : (j : Int) ∈ l ++ [a]
            · rw [if_pos hjm, if_pos hjm]
            · rw [if_neg hjm, if_neg hjm, getD_set (by omega), if_neg, hf j hj, if_neg fun h => hjm (List.mem_append_left _ h)]
              intro e
              exact hjm (List.mem_append_right _ (by simp; omega))
      · have hns : Ns s a := by
          have := hcond.symm.trans hst
          simpa using this
        have hin2 : inS s (cellAt s a).n = true := hrange a hns
        have hb := inS_iff.1 hin2
        have hgb : (D.r ((f.set a.toNat 1).map D.i)).get ((cellAt s a).n) = .i ((f.set a.toNat 1).getD ((cellAt s a).n).toNat 0) := marks_get hb.1 (by simp; omega)
        have hput : D.r ((f.map D.i).set a.toNat (.i 1)) = D.r ((f.set a.toNat 1).map D.i) := by rw [marks_set]
        rw [go_need]
        refine ⟨by simp only [go_need, go_br, go_leaf, go_back, allSay, X.says, X.ev, X.evs, evl, tblS, List.getD_cons_zero, List.getD_cons_succ, List.getElem?_cons_zero, List.getElem?_cons_succ, tt_b, int_i, str_s, rs_r, Option.isSome_some, Option.getD_some, decide_eq_true_eq, decide_eq_false_iff_not, dS_eS, dC_eC, dU_eU, dW_eW, dY_eY, eC_0, eC_1, eU_0, eU_1, eW_0, eW_1, eW_2, eY_0, eY_1, eS_0, eS_1, eS_2, eS_3, eS_4, eS_5, List.length_map, i_inj, b_inj, s_inj, eC_eq, eU_eq, eW_eq, eY_eq, eS_eq, rng64, List.take_succ_cons, List.take_zero, List.nil_append, List.cons_append, decide_true, decide_false, Bool.or_true, true_and, and_true, cell_get hin, List.length_set]; omega, ?_⟩
        rw [go_br]
        simp only [go_need, go_br, go_leaf, go_back, allSay, X.says, X.ev, X.evs, evl, tblS, List.getD_cons_zero, List.getD_cons_succ, List.getElem?_cons_zero, List.getElem?_cons_succ, tt_b, int_i, str_s, rs_r, Option.isSome_some, Option.getD_some, decide_eq_true_eq, decide_eq_false_iff_not, dS_eS, dC_eC, dU_eU, dW_eW, dY_eY, eC_0, eC_1, eU_0, eU_1, eW_0, eW_1, eW_2, eY_0, eY_1, eS_0, eS_1, eS_2, eS_3, eS_4, eS_5, List.length_map, i_inj, b_inj, s_inj, eC_eq, eU_eq, eW_eq, eY_eq, eS_eq, rng64, List.take_succ_cons, List.take_zero, List.nil_append, List.cons_append, decide_true, decide_false, Bool.or_true, true_and, and_true, cell_get hin, hput, hgb]
        have hf' : ∀ j : Nat, j < s.cs.length → (f.set a.toNat 1).getD j 0 = if (j : Int) ∈ l ++ [a] then 1 else m.getD j 0 := fun j hj => by
          rw [getD_set (by omega), hf j hj]
          by_cases hja : a.toNat = j
          · rw [if_pos hja, if_pos (List.mem_append_right _ (by simp; omega))]
          · rw [if_neg hja]
            by_cases hjl : (j : Int) ∈ l
            · rw [if_pos hjl, if_pos (List.mem_append_left _ hjl)]
            · rw [if_neg hjl, if_neg fun h => ?_]
              rcases List.mem_append.1 h with h | h
              · exact hjl h
              · simp at h; omega
        refine ⟨fun hact => ?_, fun hact => ?_⟩
        · have hmem : (cellAt s a).n ∈ l ++ [a] := by
            rw [hf' _ (by omega), show ((((cellAt s a).n).toNat : Nat) : Int) = (cellAt s a).n by omega] at hact
            split at hact
            · assumption
            · have := hm02 ((cellAt s a).n).toNat (by omega)
              omega
          have hcl := closed_no (s := s) (Q := l ++ [a]) fun q hq => by
            rcases List.mem_append.1 hq with hq | hq
            · obtain ⟨g1, g2⟩ := hch.next q hq
              refine ⟨g1, g2.elim (List.mem_append_left _) fun e => List.mem_append_right _ (by simp [e])⟩
            · obtain rfl : q = a := by simpa using hq
              exact ⟨hns, hmem⟩
          have : acyP s = false := all_not hil (hcl _ _ (by
            rw [← hhd]
            cases l <;> simp))
          rw [this]
        · rw [updB, if_pos rfl]
          refine ⟨⟨l ++ [a], (cellAt s a).n, f.set a.toNat 1, by simp, hin2, by simp [hfl], hch.snoc hns rfl, by cases l <;> simpa using hhd, fun x hx => ?_, ?_, hact, hf'⟩, ?_⟩
          · rcases List.mem_append.1 hx with hx | hx
            · exact hl x hx
            · obtain rfl : x = a := by simpa using hx
              exact hin
          · rw [hset]
            simp
            omega
          · show List.count 0 (((f.set a.toNat 1).map D.i).map D.int) < List.count 0 ((f.map D.i).map D.int)
            rw [map_id' int_i, map_id' int_i, hset]
            omega
    · -- a cell that is done
      have hz' : ¬ f.getD a.toNat 0 = 0 := by
        simp only [go_need, go_br, go_leaf, go_back, allSay, X.says, X.ev, X.evs, evl, tblS, List.getD_cons_zero, List.getD_cons_succ, List.getElem?_cons_zero, List.getElem?_cons_succ, tt_b, int_i, str_s, rs_r, Option.isSome_some, Option.getD_some, decide_eq_true_eq, decide_eq_false_iff_not, dS_eS, dC_eC, dU_eU, dW_eW, dY_eY, eC_0, eC_1, eU_0, eU_1, eW_0, eW_1, eW_2, eY_0, eY_1, eS_0, eS_1, eS_2, eS_3, eS_4, eS_5, List.length_map, i_inj, b_inj, s_inj, eC_eq, eU_eq, eW_eq, eY_eq, eS_eq, rng64, List.take_succ_cons, List.take_zero, List.nil_append, List.cons_append, decide_true, decide_false, Bool.or_true, true_and, and_true, hmark] at hz
        exact hz
      have hea : En s a := by
        have h2 : m.getD a.toNat 0 = 2 := by
          have := hm02 a.toNat (by omega)
          omega
        have := hm.en _ h2
        rwa [show ((a.toNat : Nat) : Int) = a by omega] at this
      refine mark_ok (P := .tok 4) (l := l) (m := f) (i := i) rfl (fun e => by simp [X.ev, evl]) (by simp [X.ev, evl]) rfl ⟨by omega, by omega⟩ (fun x hx => ?_) (by omega) fun f' hf1 hf2 => ?_
      · have := inS_iff.1 (hl x hx); omega
      · refine finish l hl (hch.en hea) (hend hea) (fun x hx => hx) f' (by omega) fun j hj => ?_
        rw [hf2 j (by omega)]
        by_cases hjm : (j : Int) ∈ l
        · rw [if_pos hjm, if_pos hjm]
        · rw [if_neg hjm, if_neg hjm, hf j hj, if_neg hjm]
  · have : i = s.cs.length := by
      have : ¬ (i < s.cs.length) := by simpa [X.ev, evl, eS_0, D.int, D.rs, D.tt] using hlt
      omega
    subst this
    have : acyP s = true := all_yes fun j hj => (hdone j hj).ends
    rw [this]
    rfl
end Go.Proofs.Ytcjapglipkmbhaa

namespace Go.Proofs.Ytcjapglipkmbhaa
open Go.RowKit
set_option linter.unusedVariables false
set_option linter.unusedSimpArgs false

/-- A loop that looks at each element in turn. -/
theorem scan_ok {S : Nat → List D → Option (List D)} {R : List D → Prop} {id n : Nat} {x0 : X} {body : Tree} {l : List D} {B : Nat → List D → Prop} {v0 : D} (N : Nat) (P : Nat → Bool) (h0 : x0.ev (evl S l) = v0)
    (h : ∀ (k : Nat) (B' : Nat → List D → Prop), k ≤ N → (∀ j, j < k → P j = true) → (k < N → P k = true → B' id [v0, .i ((k : Int) + 1)]) → (∀ j, j ≠ id → B' j = B j) → body.go S R (l.take n ++ [v0, .i k]) B') : (Tree.loop id n [x0, .lit (.i 0)] body).go S R l B := by
  rw [go_loop]
  refine ⟨fun st => ∃ k : Nat, k ≤ N ∧ st = [v0, .i k] ∧ ∀ j, j < k → P j = true, fun st => N - (st.getD 1 .u).int.toNat, ⟨0, Nat.zero_le _, by simp [X.evs, X.ev, h0], fun j hj => absurd hj (Nat.not_lt_zero _)⟩, ?_⟩
  rintro st - ⟨k, hk, rfl, hP⟩
  refine h k _ hk hP (fun hlt hp => ?_) fun j hj => by rw [updB, if_neg hj]
  rw [updB, if_pos rfl]
  refine ⟨⟨k + 1, hlt, by simp, upto_succ hP hp⟩, ?_⟩
  simp [D.int]
  omega

def wkB (vc : So → Ce → Bool) (s : So) (w : Wk) : Bool := decide (1 ≤ w.ser) && (decide (w.ser ≤ s.ser) && (vc s w.att && vc s w.val))
def headB (s : So) : Bool := decide (1 ≤ s.mx) && (decide (s.mx ≤ 1048576) && (decide ((s.cs.length : Int) ≤ s.mx) && (decide (0 ≤ s.ser) && symsB s.ys)))
def validR (s : So) : Bool := headB s && ((List.range s.cs.length).all (fun i => cellR s (i : Nat)) && ((List.range s.tr.length).all (fun i => oldR s (s.tr.getD i default)) && (List.range s.wk.length).all fun i => wkB vcR s (s.wk.getD i default)))
def validP (s : So) : Bool := headB s && ((List.range s.cs.length).all (fun i => fitsP s (i : Nat)) && (acyP s && ((List.range s.tr.length).all (fun i => oldP s (s.tr.getD i default)) && (List.range s.wk.length).all fun i => wkB vcP s (s.wk.getD i default))))

theorem tag_nn {s : So} {n : Int} (h : 0 ≤ tagS s n) : inS s n = true := by
  cases hi : inS s n with
  | true => rfl
  | false => rw [tagS_out hi] at h; omega
theorem fits_acyQ {s : So} (hh : headB s = true) (h : ∀ j, j < s.cs.length → fitsP s (j : Nat) = true) : acyQ s = true := by
  simp only [headB, Bool.and_eq_true, decide_eq_true_eq] at hh
  simp only [acyQ, Bool.and_eq_true, decide_eq_true_eq]
  refine ⟨by omega, all_yes fun j hj => ?_⟩
  have := h j hj
  by_cases h0 : (cellAt s (j : Nat)).t = 0
  · simp only [fitsP, h0, vcP] at this
    have h1 : 0 ≤ tagS s (cellAt s (j : Nat)).n := by
      simp at this
      exact this.1
    simp [tag_nn h1]
  · simp [h0]

theorem ok_ref30_Valid : FOk ct_ref30_Valid (gSb validR) := fok_ref30_Valid ok_ref30_symbols ok_ref30_cell ok_ref30_old ok_ref30_ValidCell fun ds outs hw hg => by
  obtain ⟨d, r, rfl, hd, rfl⟩ := hw
  obtain ⟨s, rfl, hs⟩ := wfS hd
  simp only [gSb, dS_eS, Option.some.injEq] at hg
  subst hg
  have hl := hs.cs.1
  have hl2 := hs.tr.1
  have hl3 := hs.wk.1
  simp only [LIM] at hl hl2 hl3
  have hsy : gYsb symsB [D.r (s.ys.map eY)] = some [.b (symsB s.ys)] := by simp [gYsb, rs_r, map_id' dY_eY]
  rw [tree_ref30_Valid, go_need]
  refine ⟨by simp only [go_need, go_br, go_leaf, go_back, allSay, X.says, X.ev, X.evs, evl, tblS, List.getD_cons_zero, List.getD_cons_succ, List.getElem?_cons_zero, List.getElem?_cons_succ, tt_b, int_i, str_s, rs_r, Option.isSome_some, Option.getD_some, decide_eq_true_eq, decide_eq_false_iff_not, dS_eS, dC_eC, dU_eU, dW_eW, dY_eY, eC_0, eC_1, eU_0, eU_1, eW_0, eW_1, eW_2, eY_0, eY_1, eS_0, eS_1, eS_2, eS_3, eS_4, eS_5, List.length_map, i_inj, b_inj, s_inj, eC_eq, eU_eq, eW_eq, eY_eq, eS_eq, rng64, List.take_succ_cons, List.take_zero, List.nil_append, List.cons_append, decide_true, decide_false, Bool.or_true, true_and, and_true, hsy], ?_⟩
  rw [go_br]
  have hcond : (X.ev (evl (tblS [(ct_ref30_symbols, gYsb symsB), (ct_ref30_cell, gSIbP cellQ cellR), (ct_ref30_old, gSUb oldR), (ct_ref30_ValidCell, gSCb vcR)]) [eS s]) (.or (.or (.or (.or (.lt (.fld (.tok 0) 5) (.lit (.i 1))) (.lt (.lit (.i 1048576)) (.fld (.tok 0) 5))) (.lt (.fld (.tok 0) 5) (.len (.fld (.tok 0) 0)))) (.lt (.fld (.tok 0) 4) (.lit (.i 0)))) (.not (.call 0 0 [(.fld (.tok 0) 1)])))).tt = !headB s := by
    simp only [go_need, go_br, go_leaf, go_back, allSay, X.says, X.ev, X.evs, evl, tblS, List.getD_cons_zero, List.getD_cons_succ, List.getElem?_cons_zero, List.getElem?_cons_succ, tt_b, int_i, str_s, rs_r, Option.isSome_some, Option.getD_some, decide_eq_true_eq, decide_eq_false_iff_not, dS_eS, dC_eC, dU_eU, dW_eW, dY_eY, eC_0, eC_1, eU_0, eU_1, eW_0, eW_1, eW_2, eY_0, eY_1, eS_0, eS_1, eS_2, eS_3, eS_4, eS_5, List.length_map, i_inj, b_inj, s_inj, eC_eq, eU_eq, eW_eq, eY_eq, eS_eq, rng64, List.take_succ_cons, List.take_zero, List.nil_append, List.cons_append, decide_true, decide_false, Bool.or_true, true_and, and_true, hsy, headB]
    by_cases h1 : s.mx < 1
    · have : ¬ 1 ≤ s.mx := by omega
      simp [h1, this]
    · by_cases h2 : 1048576 < s.mx
      · have : ¬ s.mx ≤ 1048576 := by omega
        simp [h2, this]
      · by_cases h3 : s.mx < s.cs.length
        · have : ¬ (s.cs.length : Int) ≤ s.mx := by omega
          simp [h3, this]
        · by_cases h4 : s.ser < 0
          · have : ¬ 0 ≤ s.ser := by omega
            simp [h4, this]
          · have a1 : 1 ≤ s.mx := by omega
            have a2 : s.mx ≤ 1048576 := by omega
            have a3 : (s.cs.length : Int) ≤ s.mx := by omega
            have a4 : 0 ≤ s.ser := by omega
            simp [h1, h2, h3, h4, a1, a2, a3, a4]
  refine ⟨fun hx => ?_, fun hx => ?_⟩
  · have hh : headB s = false := by
      have := hcond.symm.trans hx
      simpa using this
    simp [go_leaf, X.evs, X.ev, validR, hh]
  have hh : headB s = true := by
    have := hcond.symm.trans hx
    simpa using this
  have hsy2 : symsB s.ys = true := by
    simp only [headB, Bool.and_eq_true] at hh
    exact hh.2.2.2.2
  refine scan_ok s.cs.length (fun i => cellR s (i : Nat)) (v0 := .b false) rfl fun k B' hk hP hB _ => ?_
  rw [go_br]
  refine ⟨fun hlt => ?_, fun hlt => ?_⟩
  · have hkl : k < s.cs.length := by simpa [X.ev, evl, eS_0, D.int, D.rs, D.tt] using hlt
    have hin : inS s (k : Nat) = true := inS_iff.2 ⟨by omega, by omega⟩
    have hQ : cellQ s (k : Nat) = true := by simp [cellQ, hin, hsy2]
    simp only [go_need, go_br, go_leaf, go_back, allSay, X.says, X.ev, X.evs, evl, tblS, List.getD_cons_zero, List.getD_cons_succ, List.getElem?_cons_zero, List.getElem?_cons_succ, tt_b, int_i, str_s, rs_r, Option.isSome_some, Option.getD_some, decide_eq_true_eq, decide_eq_false_iff_not, dS_eS, dC_eC, dU_eU, dW_eW, dY_eY, eC_0, eC_1, eU_0, eU_1, eW_0, eW_1, eW_2, eY_0, eY_1, eS_0, eS_1, eS_2, eS_3, eS_4, eS_5, List.length_map, i_inj, b_inj, s_inj, eC_eq, eU_eq, eW_eq, eY_eq, eS_eq, rng64, List.take_succ_cons, List.take_zero, List.nil_append, List.cons_append, decide_true, decide_false, Bool.or_true, true_and, and_true, gSIbP, hQ, if_true]
    refine ⟨fun hb => ?_, fun hb => ⟨⟨by omega, by omega⟩, ?_⟩⟩
    · have : cellR s (k : Nat) = false := by simpa using hb
      have := all_not (P := fun i => cellR s (i : Nat)) hkl this
      simp [validR, this]
    · exact hB hkl (by simpa using hb)
  have hc : (List.range s.cs.length).all (fun i => cellR s (i : Nat)) = true := by
    have : k = s.cs.length := by
      have : ¬ (k < s.cs.length) := by simpa [X.ev, evl, eS_0, D.int, D.rs, D.tt] using hlt
      omega
    subst this
    exact all_yes hP
  refine scan_ok s.tr.length (fun i => oldR s (s.tr.getD i default)) (v0 := .b false) rfl fun k B' hk hP hB _ => ?_
  rw [go_br]
  refine ⟨fun hlt => ?_, fun hlt => ?_⟩
  · have hkl : k < s.tr.length := by simpa [X.ev, evl, eS_2, D.int, D.rs, D.tt] using hlt
    simp only [go_need, go_br, go_leaf, go_back, allSay, X.says, X.ev, X.evs, evl, tblS, List.getD_cons_zero, List.getD_cons_succ, List.getElem?_cons_zero, List.getElem?_cons_succ, tt_b, int_i, str_s, rs_r, Option.isSome_some, Option.getD_some, decide_eq_true_eq, decide_eq_false_iff_not, dS_eS, dC_eC, dU_eU, dW_eW, dY_eY, eC_0, eC_1, eU_0, eU_1, eW_0, eW_1, eW_2, eY_0, eY_1, eS_0, eS_1, eS_2, eS_3, eS_4, eS_5, List.length_map, i_inj, b_inj, s_inj, eC_eq, eU_eq, eW_eq, eY_eq, eS_eq, rng64, List.take_succ_cons, List.take_zero, List.nil_append, List.cons_append, decide_true, decide_false, Bool.or_true, true_and, and_true, gSUb, get_n eU hkl]
    refine ⟨⟨by omega, by omega⟩, fun hb => ?_, fun hb => ⟨⟨by omega, by omega⟩, ?_⟩⟩
    · have : oldR s (s.tr.getD k default) = false := by simpa only [Bool.not_eq_true'] using hb
      have := all_not (P := fun i => oldR s (s.tr.getD i default)) hkl this
      simp only [validR, this, Bool.false_and, Bool.and_false]
    · exact hB hkl (by simpa only [Bool.not_eq_false'] using hb)
  have hc2 : (List.range s.tr.length).all (fun i => oldR s (s.tr.getD i default)) = true := by
    have : k = s.tr.length := by
      have : ¬ (k < s.tr.length) := by simpa [X.ev, evl, eS_2, D.int, D.rs, D.tt] using hlt
      omega
    subst this
    exact all_yes hP
  refine scan_ok s.wk.length (fun i => wkB vcR s (s.wk.getD i default)) (v0 := .b false) rfl fun k B' hk hP hB _ => ?_
  rw [go_br]
  refine ⟨fun hlt => ?_, fun hlt => ?_⟩
  · have hkl : k < s.wk.length := by simpa [X.ev, evl, eS_3, D.int, D.rs, D.tt] using hlt
    simp only [go_need, go_br, go_leaf, go_back, allSay, X.says, X.ev, X.evs, evl, tblS, List.getD_cons_zero, List.getD_cons_succ, List.getElem?_cons_zero, List.getElem?_cons_succ, tt_b, int_i, str_s, rs_r, Option.isSome_some, Option.getD_some, decide_eq_true_eq, decide_eq_false_iff_not, dS_eS, dC_eC, dU_eU, dW_eW, dY_eY, eC_0, eC_1, eU_0, eU_1, eW_0, eW_1, eW_2, eY_0, eY_1, eS_0, eS_1, eS_2, eS_3, eS_4, eS_5, List.length_map, i_inj, b_inj, s_inj, eC_eq, eU_eq, eW_eq, eY_eq, eS_eq, rng64, List.take_succ_cons, List.take_zero, List.nil_append, List.cons_append, decide_true, decide_false, Bool.or_true, true_and, and_true, gSCb, get_n eW hkl]
    have hw : ((decide ((s.wk.getD k default).ser < 1) || decide (s.ser < (s.wk.getD k default).ser) || !vcR s (s.wk.getD k default).att || !vcR s (s.wk.getD k default).val)) = !wkB vcR s (s.wk.getD k default) := by
      generalize s.wk.getD k default = w
      simp only [wkB]
      by_cases h1 : w.ser < 1
      · have : ¬ 1 ≤ w.ser := by omega
        simp [h1, this]
      · by_cases h2 : s.ser < w.ser
        · have : ¬ w.ser ≤ s.ser := by omega
          simp [h2, this]
        · have a1 : 1 ≤ w.ser := by omega
          have a2 : w.ser ≤ s.ser := by omega
          simp [h1, h2, a1, a2]
    refine ⟨⟨by omega, by omega⟩, fun hb => ?_, fun hb => ⟨⟨by omega, by omega⟩, ?_⟩⟩
    · rw [hw] at hb
      have := all_not (P := fun i => wkB vcR s (s.wk.getD i default)) hkl (by simpa only [Bool.not_eq_true'] using hb)
      simp only [validR, this, Bool.and_false]
    · rw [hw] at hb
      exact hB hkl (by simpa only [Bool.not_eq_false'] using hb)
  have hc3 : (List.range s.wk.length).all (fun i => wkB vcR s (s.wk.getD i default)) = true := by
    have : k = s.wk.length := by
      have : ¬ (k < s.wk.length) := by simpa [X.ev, evl, eS_3, D.int, D.rs, D.tt] using hlt
      omega
    subst this
    exact all_yes hP
  simp only [go_leaf, X.evs, X.ev, validR, hh, hc, hc2, hc3, Bool.and_true]
theorem ok_cells_Valid : FOk ct_cells_Valid (gSb validP) := fok_cells_Valid ok_cells_validSymbols ok_cells_fits ok_cells_acyclic ok_cells_validUndo ok_cells_ValidCell fun ds outs hw hg => by
  obtain ⟨d, r, rfl, hd, rfl⟩ := hw
  obtain ⟨s, rfl, hs⟩ := wfS hd
  simp only [gSb, dS_eS, Option.some.injEq] at hg
  subst hg
  have hl := hs.cs.1
  have hl2 := hs.tr.1
  have hl3 := hs.wk.1
  simp only [LIM] at hl hl2 hl3
  have hsy : gYsb symsB [D.r (s.ys.map eY)] = some [.b (symsB s.ys)] := by simp [gYsb, rs_r, map_id' dY_eY]
  rw [tree_cells_Valid, go_need]
  refine ⟨by simp only [go_need, go_br, go_leaf, go_back, allSay, X.says, X.ev, X.evs, evl, tblS, List.getD_cons_zero, List.getD_cons_succ, List.getElem?_cons_zero, List.getElem?_cons_succ, tt_b, int_i, str_s, rs_r, Option.isSome_some, Option.getD_some, decide_eq_true_eq, decide_eq_false_iff_not, dS_eS, dC_eC, dU_eU, dW_eW, dY_eY, eC_0, eC_1, eU_0, eU_1, eW_0, eW_1, eW_2, eY_0, eY_1, eS_0, eS_1, eS_2, eS_3, eS_4, eS_5, List.length_map, i_inj, b_inj, s_inj, eC_eq, eU_eq, eW_eq, eY_eq, eS_eq, rng64, List.take_succ_cons, List.take_zero, List.nil_append, List.cons_append, decide_true, decide_false, Bool.or_true, true_and, and_true, hsy], ?_⟩
  rw [go_br]
  have hcond : (X.ev (evl (tblS [(ct_cells_validSymbols, gYsb symsB), (ct_cells_fits, gSIbP cellQ fitsP), (ct_cells_acyclic, gSbP acyQ acyP), (ct_cells_validUndo, gSUb oldP), (ct_cells_ValidCell, gSCb vcP)]) [eS s]) (.or (.or (.or (.or (.lt (.fld (.tok 0) 5) (.lit (.i 1))) (.lt (.lit (.i 1048576)) (.fld (.tok 0) 5))) (.lt (.fld (.tok 0) 5) (.len (.fld (.tok 0) 0)))) (.lt (.fld (.tok 0) 4) (.lit (.i 0)))) (.not (.call 0 0 [(.fld (.tok 0) 1)])))).tt = !headB s := by
    simp only [go_need, go_br, go_leaf, go_back, allSay, X.says, X.ev, X.evs, evl, tblS, List.getD_cons_zero, List.getD_cons_succ, List.getElem?_cons_zero, List.getElem?_cons_succ, tt_b, int_i, str_s, rs_r, Option.isSome_some, Option.getD_some, decide_eq_true_eq, decide_eq_false_iff_not, dS_eS, dC_eC, dU_eU, dW_eW, dY_eY, eC_0, eC_1, eU_0, eU_1, eW_0, eW_1, eW_2, eY_0, eY_1, eS_0, eS_1, eS_2, eS_3, eS_4, eS_5, List.length_map, i_inj, b_inj, s_inj, eC_eq, eU_eq, eW_eq, eY_eq, eS_eq, rng64, List.take_succ_cons, List.take_zero, List.nil_append, List.cons_append, decide_true, decide_false, Bool.or_true, true_and, and_true, hsy, headB]
    by_cases h1 : s.mx < 1
    · have : ¬ 1 ≤ s.mx := by omega
      simp [h1, this]
    · by_cases h2 : 1048576 < s.mx
      · have : ¬ s.mx ≤ 1048576 := by omega
        simp [h2, this]
      · by_cases h3 : s.mx < s.cs.length
        · have : ¬ (s.cs.length : Int) ≤ s.mx := by omega
          simp [h3, this]
        · by_cases h4 : s.ser < 0
          · have : ¬ 0 ≤ s.ser := by omega
            simp [h4, this]
          · have a1 : 1 ≤ s.mx := by omega
            have a2 : s.mx ≤ 1048576 := by omega
            have a3 : (s.cs.length : Int) ≤ s.mx := by omega
            have a4 : 0 ≤ s.ser := by omega
            simp [h1, h2, h3, h4, a1, a2, a3, a4]
  refine ⟨fun hx => ?_, fun hx => ?_⟩
  · have hh : headB s = false := by
      have := hcond.symm.trans hx
      simpa using this
    simp [go_leaf, X.evs, X.ev, validP, hh]
  have hh : headB s = true := by
    have := hcond.symm.trans hx
    simpa using this
  have hsy2 : symsB s.ys = true := by
    simp only [headB, Bool.and_eq_true] at hh
    exact hh.2.2.2.2
  refine scan_ok s.cs.length (fun i => fitsP s (i : Nat)) (v0 := .b false) rfl fun k B' hk hP hB _ => ?_
  rw [go_br]
  refine ⟨fun hlt => ?_, fun hlt => ?_⟩
  · have hkl : k < s.cs.length := by simpa [X.ev, evl, eS_0, D.int, D.rs, D.tt] using hlt
    have hin : inS s (k : Nat) = true := inS_iff.2 ⟨by omega, by omega⟩
    have hQ : cellQ s (k : Nat) = true := by simp [cellQ, hin, hsy2]
    simp only [go_need, go_br, go_leaf, go_back, allSay, X.says, X.ev, X.evs, evl, tblS, List.getD_cons_zero, List.getD_cons_succ, List.getElem?_cons_zero, List.getElem?_cons_succ, tt_b, int_i, str_s, rs_r, Option.isSome_some, Option.getD_some, decide_eq_true_eq, decide_eq_false_iff_not, dS_eS, dC_eC, dU_eU, dW_eW, dY_eY, eC_0, eC_1, eU_0, eU_1, eW_0, eW_1, eW_2, eY_0, eY_1, eS_0, eS_1, eS_2, eS_3, eS_4, eS_5, List.length_map, i_inj, b_inj, s_inj, eC_eq, eU_eq, eW_eq, eY_eq, eS_eq, rng64, List.take_succ_cons, List.take_zero, List.nil_append, List.cons_append, decide_true, decide_false, Bool.or_true, true_and, and_true, gSIbP, hQ, if_true]
    refine ⟨fun hb => ?_, fun hb => ⟨⟨by omega, by omega⟩, ?_⟩⟩
    · have : fitsP s (k : Nat) = false := by simpa using hb
      have := all_not (P := fun i => fitsP s (i : Nat)) hkl this
      simp [validP, this]
    · exact hB hkl (by simpa using hb)
  have hc : (List.range s.cs.length).all (fun i => fitsP s (i : Nat)) = true := by
    have : k = s.cs.length := by
      have : ¬ (k < s.cs.length) := by simpa [X.ev, evl, eS_0, D.int, D.rs, D.tt] using hlt
      omega
    subst this
    exact all_yes hP
  have hq : acyQ s = true := fits_acyQ hh fun j hj => all_of (P := fun i => fitsP s (i : Nat)) hc hj
  rw [go_need]
  refine ⟨by simp only [go_need, go_br, go_leaf, go_back, allSay, X.says, X.ev, X.evs, evl, tblS, List.getD_cons_zero, List.getD_cons_succ, List.getElem?_cons_zero, List.getElem?_cons_succ, tt_b, int_i, str_s, rs_r, Option.isSome_some, Option.getD_some, decide_eq_true_eq, decide_eq_false_iff_not, dS_eS, dC_eC, dU_eU, dW_eW, dY_eY, eC_0, eC_1, eU_0, eU_1, eW_0, eW_1, eW_2, eY_0, eY_1, eS_0, eS_1, eS_2, eS_3, eS_4, eS_5, List.length_map, i_inj, b_inj, s_inj, eC_eq, eU_eq, eW_eq, eY_eq, eS_eq, rng64, List.take_succ_cons, List.take_zero, List.nil_append, List.cons_append, decide_true, decide_false, Bool.or_true, true_and, and_true, gSbP, hq, if_true], ?_⟩
  rw [go_br]
  refine ⟨fun hb => ?_, fun hb => ?_⟩
  · have : acyP s = false := by
      simp only [go_need, go_br, go_leaf, go_back, allSay, X.says, X.ev, X.evs, evl, tblS, List.getD_cons_zero, List.getD_cons_succ, List.getElem?_cons_zero, List.getElem?_cons_succ, tt_b, int_i, str_s, rs_r, Option.isSome_some, Option.getD_some, decide_eq_true_eq, decide_eq_false_iff_not, dS_eS, dC_eC, dU_eU, dW_eW, dY_eY, eC_0, eC_1, eU_0, eU_1, eW_0, eW_1, eW_2, eY_0, eY_1, eS_0, eS_1, eS_2, eS_3, eS_4, eS_5, List.length_map, i_inj, b_inj, s_inj, eC_eq, eU_eq, eW_eq, eY_eq, eS_eq, rng64, List.take_succ_cons, List.take_zero, List.nil_append, List.cons_append, decide_true, decide_false, Bool.or_true, true_and, and_true, gSbP, hq, if_true] at hb
      simpa only [Bool.not_eq_true'] using hb
    simp only [go_leaf, X.evs, X.ev, validP, this, Bool.false_and, Bool.and_false]
  have ha : acyP s = true := by
    simp only [go_need, go_br, go_leaf, go_back, allSay, X.says, X.ev, X.evs, evl, tblS, List.getD_cons_zero, List.getD_cons_succ, List.getElem?_cons_zero, List.getElem?_cons_succ, tt_b, int_i, str_s, rs_r, Option.isSome_some, Option.getD_some, decide_eq_true_eq, decide_eq_false_iff_not, dS_eS, dC_eC, dU_eU, dW_eW, dY_eY, eC_0, eC_1, eU_0, eU_1, eW_0, eW_1, eW_2, eY_0, eY_1, eS_0, eS_1, eS_2, eS_3, eS_4, eS_5, List.length_map, i_inj, b_inj, s_inj, eC_eq, eU_eq, eW_eq, eY_eq, eS_eq, rng64, List.take_succ_cons, List.take_zero, List.nil_append, List.cons_append, decide_true, decide_false, Bool.or_true, true_and, and_true, gSbP, hq, if_true] at hb
    simpa only [Bool.not_eq_false'] using hb
  refine scan_ok s.tr.length (fun i => oldP s (s.tr.getD i default)) (v0 := .b false) rfl fun k B' hk hP hB _ => ?_
  rw [go_br]
  refine ⟨fun hlt => ?_, fun hlt => ?_⟩
  · have hkl : k < s.tr.length := by simpa [X.ev, evl, eS_2, D.int, D.rs, D.tt] using hlt
    simp only [go_need, go_br, go_leaf, go_back, allSay, X.says, X.ev, X.evs, evl, tblS, List.getD_cons_zero, List.getD_cons_succ, List.getElem?_cons_zero, List.getElem?_cons_succ, tt_b, int_i, str_s, rs_r, Option.isSome_some, Option.getD_some, decide_eq_true_eq, decide_eq_false_iff_not, dS_eS, dC_eC, dU_eU, dW_eW, dY_eY, eC_0, eC_1, eU_0, eU_1, eW_0, eW_1, eW_2, eY_0, eY_1, eS_0, eS_1, eS_2, eS_3, eS_4, eS_5, List.length_map, i_inj, b_inj, s_inj, eC_eq, eU_eq, eW_eq, eY_eq, eS_eq, rng64, List.take_succ_cons, List.take_zero, List.nil_append, List.cons_append, decide_true, decide_false, Bool.or_true, true_and, and_true, gSUb, get_n eU hkl]
    refine ⟨⟨by omega, by omega⟩, fun hb => ?_, fun hb => ⟨⟨by omega, by omega⟩, ?_⟩⟩
    · have : oldP s (s.tr.getD k default) = false := by simpa only [Bool.not_eq_true'] using hb
      have := all_not (P := fun i => oldP s (s.tr.getD i default)) hkl this
      simp only [validP, this, Bool.false_and, Bool.and_false]
    · exact hB hkl (by simpa only [Bool.not_eq_false'] using hb)
  have hc2 : (List.range s.tr.length).all (fun i => oldP s (s.tr.getD i default)) = true := by
    have : k = s.tr.length := by
      have : ¬ (k < s.tr.length) := by simpa [X.ev, evl, eS_2, D.int, D.rs, D.tt] using hlt
      omega
    subst this
    exact all_yes hP
  refine scan_ok s.wk.length (fun i => wkB vcP s (s.wk.getD i default)) (v0 := .b false) rfl fun k B' hk hP hB _ => ?_
  rw [go_br]
  refine ⟨fun hlt => ?_, fun hlt => ?_⟩
  · have hkl : k < s.wk.length := by simpa [X.ev, evl, eS_3, D.int, D.rs, D.tt] using hlt
    simp only [go_need, go_br, go_leaf, go_back, allSay, X.says, X.ev, X.evs, evl, tblS, List.getD_cons_zero, List.getD_cons_succ, List.getElem?_cons_zero, List.getElem?_cons_succ, tt_b, int_i, str_s, rs_r, Option.isSome_some, Option.getD_some, decide_eq_true_eq, decide_eq_false_iff_not, dS_eS, dC_eC, dU_eU, dW_eW, dY_eY, eC_0, eC_1, eU_0, eU_1, eW_0, eW_1, eW_2, eY_0, eY_1, eS_0, eS_1, eS_2, eS_3, eS_4, eS_5, List.length_map, i_inj, b_inj, s_inj, eC_eq, eU_eq, eW_eq, eY_eq, eS_eq, rng64, List.take_succ_cons, List.take_zero, List.nil_append, List.cons_append, decide_true, decide_false, Bool.or_true, true_and, and_true, gSCb, get_n eW hkl]
    have hw : ((decide ((s.wk.getD k default).ser < 1) || decide (s.ser < (s.wk.getD k default).ser) || !vcP s (s.wk.getD k default).att || !vcP s (s.wk.getD k default).val)) = !wkB vcP s (s.wk.getD k default) := by
      generalize s.wk.getD k default = w
      simp only [wkB]
      by_cases h1 : w.ser < 1
      · have : ¬ 1 ≤ w.ser := by omega
        simp [h1, this]
      · by_cases h2 : s.ser < w.ser
        · have : ¬ w.ser ≤ s.ser := by omega
          simp [h2, this]
        · have a1 : 1 ≤ w.ser := by omega
          have a2 : w.ser ≤ s.ser := by omega
          simp [h1, h2, a1, a2]
    refine ⟨⟨by omega, by omega⟩, fun hb => ?_, fun hb => ⟨⟨by omega, by omega⟩, ?_⟩⟩
    · rw [hw] at hb
      have := all_not (P := fun i => wkB vcP s (s.wk.getD i default)) hkl (by simpa only [Bool.not_eq_true'] using hb)
      simp only [validP, this, Bool.and_false]
    · rw [hw] at hb
      exact hB hkl (by simpa only [Bool.not_eq_false'] using hb)
  have hc3 : (List.range s.wk.length).all (fun i => wkB vcP s (s.wk.getD i default)) = true := by
    have : k = s.wk.length := by
      have : ¬ (k < s.wk.length) := by simpa [X.ev, evl, eS_3, D.int, D.rs, D.tt] using hlt
      omega
    subst this
    exact all_yes hP
  simp only [go_leaf, X.evs, X.ev, validP, hh, hc, ha, hc2, hc3, Bool.and_true]
end Go.Proofs.Ytcjapglipkmbhaa

namespace Go.Proofs.Ytcjapglipkmbhaa
open Go.RowKit
set_option linter.unusedVariables false
set_option linter.unusedSimpArgs false

theorem rows_eq {l m : List D} (hl : l.length = m.length) (h : ∀ j, j < l.length → l.getD j .u = m.getD j .u) : l = m := by
  refine List.ext_getElem hl fun j h1 h2 => ?_
  have := h j h1
  simpa [List.getD_eq_getElem?_getD, h1, h2] using this
theorem get_k (l : List D) (k : Nat) : (D.r l).get (k : Int) = l.getD k .u := rfl

def eqT : Tree := (.br (.not (.eq (.len (.tok 0)) (.len (.tok 1)))) (.leaf [(.lit (.b .false))]) (.loop 4 2 [(.lit (.b .false)), (.lit (.i 0))] (.br (.lt (.tok 3) (.len (.tok 0))) (.need [(.le (.lit (.i 0)) (.tok 3)), (.lt (.tok 3) (.len (.tok 1))), (.le (.lit (.i 0)) (.tok 3)), (.lt (.tok 3) (.len (.tok 0)))] (.br (.not (.eq (.get (.tok 0) (.tok 3)) (.get (.tok 1) (.tok 3)))) (.leaf [(.lit (.b .false))]) (.need [(.rng .i64 (.add (.tok 3) (.lit (.i 1))))] (.back 4 [(.tok 2), (.add (.tok 3) (.lit (.i 1)))])))) (.leaf [(.lit (.b .true))]))))
theorem eqT_ok {S : Nat → List D → Option (List D)} {l m : List D} {R : List D → Prop} {B : Nat → List D → Prop} (hl : l.length ≤ LIM) (hR : R [.b (decide (l = m))]) : eqT.go S R [.r l, .r m] B := by
  simp only [LIM] at hl
  rw [eqT, go_br]
  refine ⟨fun hx => ?_, fun hx => ?_⟩
  · have : ¬ l = m := fun e => by subst e; simp [X.ev, evl, D.rs, D.tt] at hx
    rw [decide_eq_false this] at hR
    exact hR
  have hlen : l.length = m.length := by
    simp [X.ev, evl, D.rs, D.tt] at hx
    omega
  refine scan_ok l.length (fun j => decide (l.getD j .u = m.getD j .u)) (v0 := .b false) rfl fun k B' hk hP hB _ => ?_
  rw [go_br]
  refine ⟨fun hlt => ?_, fun hlt => ?_⟩
  · have hkl : k < l.length := by simpa [X.ev, evl, D.int, D.rs, D.tt] using hlt
    simp only [go_need, go_br, go_leaf, go_back, allSay, X.says, X.ev, X.evs, evl, tblS, List.getD_cons_zero, List.getD_cons_succ, List.getElem?_cons_zero, List.getElem?_cons_succ, tt_b, int_i, str_s, rs_r, Option.isSome_some, Option.getD_some, decide_eq_true_eq, decide_eq_false_iff_not, dS_eS, dC_eC, dU_eU, dW_eW, dY_eY, eC_0, eC_1, eU_0, eU_1, eW_0, eW_1, eW_2, eY_0, eY_1, eS_0, eS_1, eS_2, eS_3, eS_4, eS_5, List.length_map, i_inj, b_inj, s_inj, eC_eq, eU_eq, eW_eq, eY_eq, eS_eq, rng64, List.take_succ_cons, List.take_zero, List.nil_append, List.cons_append, decide_true, decide_false, Bool.or_true, true_and, and_true, get_k]
    refine ⟨⟨by omega, by omega, by omega, by omega⟩, fun hb => ?_, fun hb => ⟨⟨by omega, by omega⟩, ?_⟩⟩
    · have : ¬ l = m := fun e => by subst e; simp at hb
      rw [decide_eq_false this] at hR
      exact hR
    · exact hB hkl (by simpa using hb)
  · have : k = l.length := by
      have : ¬ (k < l.length) := by simpa [X.ev, evl, D.int, D.rs, D.tt] using hlt
      omega
    subst this
    have : l = m := rows_eq hlen fun j hj => by simpa using hP j hj
    rw [decide_eq_true this] at hR
    exact hR

def gEq : List D → Option (List D)
  | [a, b] => some [.b (decide (a = b))]
  | _ => none
theorem eq_rows {l m : List D} : decide (D.r l = D.r m) = decide (l = m) := by simp
theorem ok_slices_Equal_Cell : FOk ct_slices_Equal_Cell gEq := fok_slices_Equal_Cell fun ds outs hw hg => by
  obtain ⟨d, r, rfl, hd, e, r2, rfl, he, rfl⟩ := hw
  obtain ⟨l, te, rfl, -, hl, -⟩ := hd.row
  obtain ⟨m, te2, rfl, -⟩ := he.row
  simp only [gEq, Option.some.injEq, eq_rows] at hg
  subst hg
  exact eqT_ok hl rfl
theorem ok_slices_Equal_Symbol : FOk ct_slices_Equal_Symbol gEq := fok_slices_Equal_Symbol fun ds outs hw hg => by
  obtain ⟨d, r, rfl, hd, e, r2, rfl, he, rfl⟩ := hw
  obtain ⟨l, te, rfl, -, hl, -⟩ := hd.row
  obtain ⟨m, te2, rfl, -⟩ := he.row
  simp only [gEq, Option.some.injEq, eq_rows] at hg
  subst hg
  exact eqT_ok hl rfl
theorem ok_slices_Equal_Undo : FOk ct_slices_Equal_Undo gEq := fok_slices_Equal_Undo fun ds outs hw hg => by
  obtain ⟨d, r, rfl, hd, e, r2, rfl, he, rfl⟩ := hw
  obtain ⟨l, te, rfl, -, hl, -⟩ := hd.row
  obtain ⟨m, te2, rfl, -⟩ := he.row
  simp only [gEq, Option.some.injEq, eq_rows] at hg
  subst hg
  exact eqT_ok hl rfl
theorem ok_slices_Equal_Wake : FOk ct_slices_Equal_Wake gEq := fok_slices_Equal_Wake fun ds outs hw hg => by
  obtain ⟨d, r, rfl, hd, e, r2, rfl, he, rfl⟩ := hw
  obtain ⟨l, te, rfl, -, hl, -⟩ := hd.row
  obtain ⟨m, te2, rfl, -⟩ := he.row
  simp only [gEq, Option.some.injEq, eq_rows] at hg
  subst hg
  exact eqT_ok hl rfl

def rowQ (d : D) : Bool := decide (d.rs.length ≤ 34359738368)
theorem rowQ_r (l : List D) : (rowQ (.r l) = true) = (l.length ≤ 34359738368) := by simp only [rowQ, decide_eq_true_eq]; rfl
def gCl : List D → Option (List D)
  | [a] => if rowQ a then some [a] else none
  | _ => none
def clT : Tree := (.amb (.tok 0) .false (.leaf [(.lit (.r []))]) (.need [(.le (.add (.lit (.i 0)) (.len (.tok 0))) (.lit (.i 34359738368)))] (.leaf [(.app (.row []) (.tok 0))])))
theorem clT_ok {S : Nat → List D → Option (List D)} {l : List D} {R : List D → Prop} {B : Nat → List D → Prop} (hl : l.length ≤ 34359738368) (hR : R [.r l]) : clT.go S R [.r l] B := by
  refine ⟨fun h => ?_, fun _ => ?_⟩
  · have : l = [] := h rfl
    subst this
    exact hR
  · rw [go_need]
    refine ⟨by simp only [go_need, go_br, go_leaf, go_back, allSay, X.says, X.ev, X.evs, evl, tblS, List.getD_cons_zero, List.getD_cons_succ, List.getElem?_cons_zero, List.getElem?_cons_succ, tt_b, int_i, str_s, rs_r, Option.isSome_some, Option.getD_some, decide_eq_true_eq, decide_eq_false_iff_not, dS_eS, dC_eC, dU_eU, dW_eW, dY_eY, eC_0, eC_1, eU_0, eU_1, eW_0, eW_1, eW_2, eY_0, eY_1, eS_0, eS_1, eS_2, eS_3, eS_4, eS_5, List.length_map, i_inj, b_inj, s_inj, eC_eq, eU_eq, eW_eq, eY_eq, eS_eq, rng64, List.take_succ_cons, List.take_zero, List.nil_append, List.cons_append, decide_true, decide_false, Bool.or_true, true_and, and_true]; omega, ?_⟩
    simpa [go_leaf, X.evs, X.ev, evl, D.rs] using hR
theorem ok_slices_Clone_Cell : FOk ct_slices_Clone_Cell gCl := fok_slices_Clone_Cell fun ds outs hw hg => by
  obtain ⟨d, r, rfl, hd, rfl⟩ := hw
  obtain ⟨l, te, rfl, -⟩ := hd.row
  simp only [gCl, rowQ_r, Option.ite_none_right_eq_some, Option.some.injEq] at hg
  obtain ⟨h1, rfl⟩ := hg
  exact clT_ok h1 rfl
theorem ok_slices_Clone_Symbol : FOk ct_slices_Clone_Symbol gCl := fok_slices_Clone_Symbol fun ds outs hw hg => by
  obtain ⟨d, r, rfl, hd, rfl⟩ := hw
  obtain ⟨l, te, rfl, -⟩ := hd.row
  simp only [gCl, rowQ_r, Option.ite_none_right_eq_some, Option.some.injEq] at hg
  obtain ⟨h1, rfl⟩ := hg
  exact clT_ok h1 rfl
theorem ok_slices_Clone_Undo : FOk ct_slices_Clone_Undo gCl := fok_slices_Clone_Undo fun ds outs hw hg => by
  obtain ⟨d, r, rfl, hd, rfl⟩ := hw
  obtain ⟨l, te, rfl, -⟩ := hd.row
  simp only [gCl, rowQ_r, Option.ite_none_right_eq_some, Option.some.injEq] at hg
  obtain ⟨h1, rfl⟩ := hg
  exact clT_ok h1 rfl
theorem ok_slices_Clone_Wake : FOk ct_slices_Clone_Wake gCl := fok_slices_Clone_Wake fun ds outs hw hg => by
  obtain ⟨d, r, rfl, hd, rfl⟩ := hw
  obtain ⟨l, te, rfl, -⟩ := hd.row
  simp only [gCl, rowQ_r, Option.ite_none_right_eq_some, Option.some.injEq] at hg
  obtain ⟨h1, rfl⟩ := hg
  exact clT_ok h1 rfl

/-- A store that can be copied. -/
def clQ (s : So) : Bool := decide (s.cs.length ≤ 34359738368) && (decide (s.ys.length ≤ 34359738368) && (decide (s.tr.length ≤ 34359738368) && decide (s.wk.length ≤ 34359738368)))
def gClone : List D → Option (List D)
  | [s] => if clQ (dS s) then some [eS (dS s)] else none
  | _ => none
theorem ok_ref30_Clone : FOk ct_ref30_Clone gClone := fok_ref30_Clone fun ds outs hw hg => by
  obtain ⟨d, r, rfl, hd, rfl⟩ := hw
  obtain ⟨s, rfl, hs⟩ := wfS hd
  simp only [gClone, dS_eS, Option.ite_none_right_eq_some, Option.some.injEq] at hg
  obtain ⟨hq, rfl⟩ := hg
  simp only [clQ, Bool.and_eq_true, decide_eq_true_eq] at hq
  simp only [tree_ref30_Clone, go_need, go_br, go_leaf, go_back, allSay, X.says, X.ev, X.evs, evl, tblS, List.getD_cons_zero, List.getD_cons_succ, List.getElem?_cons_zero, List.getElem?_cons_succ, tt_b, int_i, str_s, rs_r, Option.isSome_some, Option.getD_some, decide_eq_true_eq, decide_eq_false_iff_not, dS_eS, dC_eC, dU_eU, dW_eW, dY_eY, eC_0, eC_1, eU_0, eU_1, eW_0, eW_1, eW_2, eY_0, eY_1, eS_0, eS_1, eS_2, eS_3, eS_4, eS_5, List.length_map, i_inj, b_inj, s_inj, eC_eq, eU_eq, eW_eq, eY_eq, eS_eq, rng64, List.take_succ_cons, List.take_zero, List.nil_append, List.cons_append, decide_true, decide_false, Bool.or_true, true_and, and_true, eS, D.fs, D.fld]
  simp
  omega
theorem ok_cells_Clone : FOk ct_cells_Clone gClone := fok_cells_Clone ok_slices_Clone_Cell ok_slices_Clone_Symbol ok_slices_Clone_Undo ok_slices_Clone_Wake fun ds outs hw hg => by
  obtain ⟨d, r, rfl, hd, rfl⟩ := hw
  obtain ⟨s, rfl, hs⟩ := wfS hd
  simp only [gClone, dS_eS, Option.ite_none_right_eq_some, Option.some.injEq] at hg
  obtain ⟨hq, rfl⟩ := hg
  simp only [clQ, Bool.and_eq_true, decide_eq_true_eq] at hq
  obtain ⟨h1, h2, h3, h4⟩ := hq
  simp only [tree_cells_Clone, go_need, go_br, go_leaf, go_back, allSay, X.says, X.ev, X.evs, evl, tblS, List.getD_cons_zero, List.getD_cons_succ, List.getElem?_cons_zero, List.getElem?_cons_succ, tt_b, int_i, str_s, rs_r, Option.isSome_some, Option.getD_some, decide_eq_true_eq, decide_eq_false_iff_not, dS_eS, dC_eC, dU_eU, dW_eW, dY_eY, eC_0, eC_1, eU_0, eU_1, eW_0, eW_1, eW_2, eY_0, eY_1, eS_0, eS_1, eS_2, eS_3, eS_4, eS_5, List.length_map, i_inj, b_inj, s_inj, eC_eq, eU_eq, eW_eq, eY_eq, eS_eq, rng64, List.take_succ_cons, List.take_zero, List.nil_append, List.cons_append, decide_true, decide_false, Bool.or_true, true_and, and_true, gCl, rowQ_r, h1, h2, h3, h4, if_true]
  simp [eS, D.fs, D.fld]

def gSame : List D → Option (List D)
  | [a, b] => some [.b (decide (a = b))]
  | _ => none
theorem ok_cells_Same : FOk ct_cells_Same gSame := fok_cells_Same ok_slices_Equal_Cell ok_slices_Equal_Symbol ok_slices_Equal_Undo ok_slices_Equal_Wake fun ds outs hw hg => by
  obtain ⟨d, r, rfl, hd, e, r', rfl, he, rfl⟩ := hw
  obtain ⟨s, rfl, hs⟩ := wfS hd
  obtain ⟨t, rfl, ht⟩ := wfS he
  simp only [gSame, Option.some.injEq] at hg
  subst hg
  simp only [tree_cells_Same, go_need, go_br, go_leaf, go_back, allSay, X.says, X.ev, X.evs, evl, tblS, List.getD_cons_zero, List.getD_cons_succ, List.getElem?_cons_zero, List.getElem?_cons_succ, tt_b, int_i, str_s, rs_r, Option.isSome_some, Option.getD_some, decide_eq_true_eq, decide_eq_false_iff_not, dS_eS, dC_eC, dU_eU, dW_eW, dY_eY, eC_0, eC_1, eU_0, eU_1, eW_0, eW_1, eW_2, eY_0, eY_1, eS_0, eS_1, eS_2, eS_3, eS_4, eS_5, List.length_map, i_inj, b_inj, s_inj, eC_eq, eU_eq, eW_eq, eY_eq, eS_eq, rng64, List.take_succ_cons, List.take_zero, List.nil_append, List.cons_append, decide_true, decide_false, Bool.or_true, true_and, and_true, gEq]
  have e0 : (s = t) = (s.cs.map eC = t.cs.map eC ∧ s.ys.map eY = t.ys.map eY ∧ s.tr.map eU = t.tr.map eU ∧ s.wk.map eW = t.wk.map eW ∧ s.ser = t.ser ∧ s.mx = t.mx) := by
    rw [← eS_eq]
    simp [eS]
  simp only [e0, r_inj]
  by_cases h1 : s.cs.map eC = t.cs.map eC <;> by_cases h2 : s.ys.map eY = t.ys.map eY <;> by_cases h3 : s.tr.map eU = t.tr.map eU <;> by_cases h4 : s.wk.map eW = t.wk.map eW <;> by_cases h5 : s.ser = t.ser <;> by_cases h6 : s.mx = t.mx <;> simp [h1, h2, h3, h4, h5, h6]
theorem ok_ref30_Same : FOk ct_ref30_Same gSame := fok_ref30_Same fun ds outs hw hg => by
  obtain ⟨d, r, rfl, hd, e, r', rfl, he, rfl⟩ := hw
  obtain ⟨s, rfl, hs⟩ := wfS hd
  obtain ⟨t, rfl, ht⟩ := wfS he
  simp only [gSame, Option.some.injEq] at hg
  subst hg
  have hl := hs.cs.1
  have hl1 := hs.ys.1
  have hl2 := hs.tr.1
  have hl3 := hs.wk.1
  simp only [LIM] at hl hl1 hl2 hl3
  have e0 : decide (eS s = eS t) = decide (s = t) := by simp [eS_eq]
  rw [e0]
  have no : ¬ s = t → [D.b false] = [D.b (decide (s = t))] := fun h => by rw [decide_eq_false h]
  rw [tree_ref30_Same, go_br]
  refine ⟨fun hx => ?_, fun hx => ?_⟩
  · refine no fun e => ?_
    subst e
    simp [X.ev, evl, D.tt] at hx
  simp only [go_need, go_br, go_leaf, go_back, allSay, X.says, X.ev, X.evs, evl, tblS, List.getD_cons_zero, List.getD_cons_succ, List.getElem?_cons_zero, List.getElem?_cons_succ, tt_b, int_i, str_s, rs_r, Option.isSome_some, Option.getD_some, decide_eq_true_eq, decide_eq_false_iff_not, dS_eS, dC_eC, dU_eU, dW_eW, dY_eY, eC_0, eC_1, eU_0, eU_1, eW_0, eW_1, eW_2, eY_0, eY_1, eS_0, eS_1, eS_2, eS_3, eS_4, eS_5, List.length_map, i_inj, b_inj, s_inj, eC_eq, eU_eq, eW_eq, eY_eq, eS_eq, rng64, List.take_succ_cons, List.take_zero, List.nil_append, List.cons_append, decide_true, decide_false, Bool.or_true, true_and, and_true] at hx
  have hx' : s.cs.length = t.cs.length ∧ s.ys.length = t.ys.length ∧ s.tr.length = t.tr.length ∧ s.wk.length = t.wk.length ∧ s.ser = t.ser ∧ s.mx = t.mx := by
    simp at hx
    omega
  obtain ⟨q1, q2, q3, q4, q5, q6⟩ := hx'
  refine scan_ok s.cs.length (fun j => decide ((s.cs.map eC).getD j .u = (t.cs.map eC).getD j .u)) (v0 := .b false) rfl fun k B' hk hP hB _ => ?_
  rw [go_br]
  refine ⟨fun hlt => ?_, fun hlt => ?_⟩
  · have hkl : k < s.cs.length := by simpa [X.ev, evl, eS_0, D.int, D.rs, D.tt] using hlt
    simp only [go_need, go_br, go_leaf, go_back, allSay, X.says, X.ev, X.evs, evl, tblS, List.getD_cons_zero, List.getD_cons_succ, List.getElem?_cons_zero, List.getElem?_cons_succ, tt_b, int_i, str_s, rs_r, Option.isSome_some, Option.getD_some, decide_eq_true_eq, decide_eq_false_iff_not, dS_eS, dC_eC, dU_eU, dW_eW, dY_eY, eC_0, eC_1, eU_0, eU_1, eW_0, eW_1, eW_2, eY_0, eY_1, eS_0, eS_1, eS_2, eS_3, eS_4, eS_5, List.length_map, i_inj, b_inj, s_inj, eC_eq, eU_eq, eW_eq, eY_eq, eS_eq, rng64, List.take_succ_cons, List.take_zero, List.nil_append, List.cons_append, decide_true, decide_false, Bool.or_true, true_and, and_true, get_k]
    refine ⟨⟨by omega, by omega, by omega, by omega⟩, fun hb => ?_, fun hb => ⟨⟨by omega, by omega⟩, ?_⟩⟩
    · refine no fun e => ?_
      subst e
      simp at hb
    · exact hB hkl (by simpa only [Bool.not_eq_false'] using hb)
  have hc0 : ∀ j, j < (s.cs.map eC).length → (s.cs.map eC).getD j .u = (t.cs.map eC).getD j .u := by
    have : k = s.cs.length := by
      have : ¬ (k < s.cs.length) := by simpa [X.ev, evl, eS_0, D.int, D.rs, D.tt] using hlt
      omega
    subst this
    exact fun j hj => by simpa only [decide_eq_true_eq] using hP j (by simpa using hj)
  refine scan_ok s.ys.length (fun j => decide ((s.ys.map eY).getD j .u = (t.ys.map eY).getD j .u)) (v0 := .b false) rfl fun k B' hk hP hB _ => ?_
  rw [go_br]
  refine ⟨fun hlt => ?_, fun hlt => ?_⟩
  · have hkl : k < s.ys.length := by simpa [X.ev, evl, eS_1, D.int, D.rs, D.tt] using hlt
    simp only [go_need, go_br, go_leaf, go_back, allSay, X.says, X.ev, X.evs, evl, tblS, List.getD_cons_zero, List.getD_cons_succ, List.getElem?_cons_zero, List.getElem?_cons_succ, tt_b, int_i, str_s, rs_r, Option.isSome_some, Option.getD_some, decide_eq_true_eq, decide_eq_false_iff_not, dS_eS, dC_eC, dU_eU, dW_eW, dY_eY, eC_0, eC_1, eU_0, eU_1, eW_0, eW_1, eW_2, eY_0, eY_1, eS_0, eS_1, eS_2, eS_3, eS_4, eS_5, List.length_map, i_inj, b_inj, s_inj, eC_eq, eU_eq, eW_eq, eY_eq, eS_eq, rng64, List.take_succ_cons, List.take_zero, List.nil_append, List.cons_append, decide_true, decide_false, Bool.or_true, true_and, and_true, get_k]
    refine ⟨⟨by omega, by omega, by omega, by omega⟩, fun hb => ?_, fun hb => ⟨⟨by omega, by omega⟩, ?_⟩⟩
    · refine no fun e => ?_
      subst e
      simp at hb
    · exact hB hkl (by simpa only [Bool.not_eq_false'] using hb)
  have hc1 : ∀ j, j < (s.ys.map eY).length → (s.ys.map eY).getD j .u = (t.ys.map eY).getD j .u := by
    have : k = s.ys.length := by
      have : ¬ (k < s.ys.length) := by simpa [X.ev, evl, eS_1, D.int, D.rs, D.tt] using hlt
      omega
    subst this
    exact fun j hj => by simpa only [decide_eq_true_eq] using hP j (by simpa using hj)
  refine scan_ok s.tr.length (fun j => decide ((s.tr.map eU).getD j .u = (t.tr.map eU).getD j .u)) (v0 := .b false) rfl fun k B' hk hP hB _ => ?_
  rw [go_br]
  refine ⟨fun hlt => ?_, fun hlt => ?_⟩
  · have hkl : k < s.tr.length := by simpa [X.ev, evl, eS_2, D.int, D.rs, D.tt] using hlt
    simp only [go_need, go_br, go_leaf, go_back, allSay, X.says, X.ev, X.evs, evl, tblS, List.getD_cons_zero, List.getD_cons_succ, List.getElem?_cons_zero, List.getElem?_cons_succ, tt_b, int_i, str_s, rs_r, Option.isSome_some, Option.getD_some, decide_eq_true_eq, decide_eq_false_iff_not, dS_eS, dC_eC, dU_eU, dW_eW, dY_eY, eC_0, eC_1, eU_0, eU_1, eW_0, eW_1, eW_2, eY_0, eY_1, eS_0, eS_1, eS_2, eS_3, eS_4, eS_5, List.length_map, i_inj, b_inj, s_inj, eC_eq, eU_eq, eW_eq, eY_eq, eS_eq, rng64, List.take_succ_cons, List.take_zero, List.nil_append, List.cons_append, decide_true, decide_false, Bool.or_true, true_and, and_true, get_k]
    refine ⟨⟨by omega, by omega, by omega, by omega⟩, fun hb => ?_, fun hb => ⟨⟨by omega, by omega⟩, ?_⟩⟩
    · refine no fun e => ?_
      subst e
      simp at hb
    · exact hB hkl (by simpa only [Bool.not_eq_false'] using hb)
  have hc2 : ∀ j, j < (s.tr.map eU).length → (s.tr.map eU).getD j .u = (t.tr.map eU).getD j .u := by
    have : k = s.tr.length := by
      have : ¬ (k < s.tr.length) := by simpa [X.ev, evl, eS_2, D.int, D.rs, D.tt] using hlt
      omega
    subst this
    exact fun j hj => by simpa only [decide_eq_true_eq] using hP j (by simpa using hj)
  refine scan_ok s.wk.length (fun j => decide ((s.wk.map eW).getD j .u = (t.wk.map eW).getD j .u)) (v0 := .b false) rfl fun k B' hk hP hB _ => ?_
  rw [go_br]
  refine ⟨fun hlt => ?_, fun hlt => ?_⟩
  · have hkl : k < s.wk.length := by simpa [X.ev, evl, eS_3, D.int, D.rs, D.tt] using hlt
    simp only [go_need, go_br, go_leaf, go_back, allSay, X.says, X.ev, X.evs, evl, tblS, List.getD_cons_zero, List.getD_cons_succ, List.getElem?_cons_zero, List.getElem?_cons_succ, tt_b, int_i, str_s, rs_r, Option.isSome_some, Option.getD_some, decide_eq_true_eq, decide_eq_false_iff_not, dS_eS, dC_eC, dU_eU, dW_eW, dY_eY, eC_0, eC_1, eU_0, eU_1, eW_0, eW_1, eW_2, eY_0, eY_1, eS_0, eS_1, eS_2, eS_3, eS_4, eS_5, List.length_map, i_inj, b_inj, s_inj, eC_eq, eU_eq, eW_eq, eY_eq, eS_eq, rng64, List.take_succ_cons, List.take_zero, List.nil_append, List.cons_append, decide_true, decide_false, Bool.or_true, true_and, and_true, get_k]
    refine ⟨⟨by omega, by omega, by omega, by omega⟩, fun hb => ?_, fun hb => ⟨⟨by omega, by omega⟩, ?_⟩⟩
    · refine no fun e => ?_
      subst e
      simp at hb
    · exact hB hkl (by simpa only [Bool.not_eq_false'] using hb)
  have hc3 : ∀ j, j < (s.wk.map eW).length → (s.wk.map eW).getD j .u = (t.wk.map eW).getD j .u := by
    have : k = s.wk.length := by
      have : ¬ (k < s.wk.length) := by simpa [X.ev, evl, eS_3, D.int, D.rs, D.tt] using hlt
      omega
    subst this
    exact fun j hj => by simpa only [decide_eq_true_eq] using hP j (by simpa using hj)
  have e1 := map_inj (fun _ _ => eC_inj) (rows_eq (by simpa using q1) hc0)
  have e2 := map_inj (fun _ _ => eY_inj) (rows_eq (by simpa using q2) hc1)
  have e3 := map_inj (fun _ _ => eU_inj) (rows_eq (by simpa using q3) hc2)
  have e4 := map_inj (fun _ _ => eW_inj) (rows_eq (by simpa using q4) hc3)
  have : s = t := by cases s; cases t; simp_all
  subst this
  simp [go_leaf, X.evs, X.ev]
end Go.Proofs.Ytcjapglipkmbhaa

namespace Go.Proofs.Ytcjapglipkmbhaa
open Go.RowKit
set_option linter.unusedVariables false
set_option linter.unusedSimpArgs false

theorem ok_trail_in : FOk ct_trail_in (gSIb inS) := fok_trail_in fun ds outs hw hg => by
  obtain ⟨d, r, rfl, hd, e, r', rfl, he, rfl⟩ := hw
  obtain ⟨s, rfl, hs⟩ := wfS hd
  obtain ⟨i, rfl, hi⟩ := wfI he
  simp only [gSIb, dS_eS, int_i, Option.some.injEq] at hg
  subst hg
  simp only [tree_trail_in, go_need, go_br, go_leaf, go_back, allSay, X.says, X.ev, X.evs, evl, tblS, List.getD_cons_zero, List.getD_cons_succ, List.getElem?_cons_zero, List.getElem?_cons_succ, tt_b, int_i, str_s, rs_r, Option.isSome_some, Option.getD_some, decide_eq_true_eq, decide_eq_false_iff_not, dS_eS, dC_eC, dU_eU, dW_eW, dY_eY, eC_0, eC_1, eU_0, eU_1, eW_0, eW_1, eW_2, eY_0, eY_1, eS_0, eS_1, eS_2, eS_3, eS_4, eS_5, List.length_map, i_inj, b_inj, s_inj, eC_eq, eU_eq, eW_eq, eY_eq, eS_eq, rng64, List.take_succ_cons, List.take_zero, List.nil_append, List.cons_append, decide_true, decide_false, Bool.or_true, true_and, and_true, inS]
def keptC (c : Ce) : Ce := if c.t = 5 then ⟨0, c.n⟩ else c
def gKept : List D → Option (List D)
  | [c] => some [eC (keptC (dC c))]
  | _ => none
theorem ok_trail_kept : FOk ct_trail_kept gKept := fok_trail_kept fun ds outs hw hg => by
  obtain ⟨d, r, rfl, hd, rfl⟩ := hw
  obtain ⟨c, rfl, hc⟩ := wfC hd
  simp only [gKept, dC_eC, Option.some.injEq] at hg
  subst hg
  simp only [tree_trail_kept, go_need, go_br, go_leaf, go_back, allSay, X.says, X.ev, X.evs, evl, tblS, List.getD_cons_zero, List.getD_cons_succ, List.getElem?_cons_zero, List.getElem?_cons_succ, tt_b, int_i, str_s, rs_r, Option.isSome_some, Option.getD_some, decide_eq_true_eq, decide_eq_false_iff_not, dS_eS, dC_eC, dU_eU, dW_eW, dY_eY, eC_0, eC_1, eU_0, eU_1, eW_0, eW_1, eW_2, eY_0, eY_1, eS_0, eS_1, eS_2, eS_3, eS_4, eS_5, List.length_map, i_inj, b_inj, s_inj, eC_eq, eU_eq, eW_eq, eY_eq, eS_eq, rng64, List.take_succ_cons, List.take_zero, List.nil_append, List.cons_append, decide_true, decide_false, Bool.or_true, true_and, and_true, keptC, eC_s0]
  exact ⟨fun h => by rw [if_pos h], fun h => by rw [if_neg h]⟩
theorem ok_ref30_Kept : FOk ct_ref30_Kept gKept := fok_ref30_Kept fun ds outs hw hg => by
  obtain ⟨d, r, rfl, hd, rfl⟩ := hw
  obtain ⟨c, rfl, hc⟩ := wfC hd
  simp only [gKept, dC_eC, Option.some.injEq] at hg
  subst hg
  simp only [tree_ref30_Kept, go_need, go_br, go_leaf, go_back, allSay, X.says, X.ev, X.evs, evl, tblS, List.getD_cons_zero, List.getD_cons_succ, List.getElem?_cons_zero, List.getElem?_cons_succ, tt_b, int_i, str_s, rs_r, Option.isSome_some, Option.getD_some, decide_eq_true_eq, decide_eq_false_iff_not, dS_eS, dC_eC, dU_eU, dW_eW, dY_eY, eC_0, eC_1, eU_0, eU_1, eW_0, eW_1, eW_2, eY_0, eY_1, eS_0, eS_1, eS_2, eS_3, eS_4, eS_5, List.length_map, i_inj, b_inj, s_inj, eC_eq, eU_eq, eW_eq, eY_eq, eS_eq, rng64, List.take_succ_cons, List.take_zero, List.nil_append, List.cons_append, decide_true, decide_false, Bool.or_true, true_and, and_true, keptC, eC_mk]
  exact ⟨fun h => by rw [if_pos h], fun h => by rw [if_neg h]⟩
def gMark : List D → Option (List D)
  | [s] => some [.i ((dS s).tr.length : Nat)]
  | _ => none
theorem ok_trail_Mark : FOk ct_trail_Mark gMark := fok_trail_Mark fun ds outs hw hg => by
  obtain ⟨d, r, rfl, hd, rfl⟩ := hw
  obtain ⟨s, rfl, hs⟩ := wfS hd
  simp only [gMark, dS_eS, Option.some.injEq] at hg
  subst hg
  simp only [tree_trail_Mark, go_need, go_br, go_leaf, go_back, allSay, X.says, X.ev, X.evs, evl, tblS, List.getD_cons_zero, List.getD_cons_succ, List.getElem?_cons_zero, List.getElem?_cons_succ, tt_b, int_i, str_s, rs_r, Option.isSome_some, Option.getD_some, decide_eq_true_eq, decide_eq_false_iff_not, dS_eS, dC_eC, dU_eU, dW_eW, dY_eY, eC_0, eC_1, eU_0, eU_1, eW_0, eW_1, eW_2, eY_0, eY_1, eS_0, eS_1, eS_2, eS_3, eS_4, eS_5, List.length_map, i_inj, b_inj, s_inj, eC_eq, eU_eq, eW_eq, eY_eq, eS_eq, rng64, List.take_succ_cons, List.take_zero, List.nil_append, List.cons_append, decide_true, decide_false, Bool.or_true, true_and, and_true]

def behind (s : So) (a : Int) : Bool := decide (2 ≤ a) && decide ((cellAt s (a - 2)).t = 5)
def settP (s : So) (a : Int) : Bool := if (cellAt s a).t = 0 then decide ((cellAt s a).n = a) else if (cellAt s a).t = 5 then true else if (cellAt s a).t = 1 ∨ (cellAt s a).t = 2 ∨ (cellAt s a).t = 3 then behind s a else false
def settR (s : So) (a : Int) : Bool := if (cellAt s a).t = 0 ∨ (cellAt s a).t = 5 then decide ((cellAt s a).n = a) else behind s a && !decide ((cellAt s a).t = 4)
theorem ok_trail_settable : FOk ct_trail_settable (gSIbP inS settP) := fok_trail_settable fun ds outs hw hg => by
  obtain ⟨d, r, rfl, hd, e, r', rfl, he, rfl⟩ := hw
  obtain ⟨s, rfl, hs⟩ := wfS hd
  obtain ⟨i, rfl, hi⟩ := wfI he
  simp only [gSIbP, dS_eS, int_i, Option.ite_none_right_eq_some, Option.some.injEq] at hg
  obtain ⟨hin, rfl⟩ := hg
  have h1 := inS_iff.1 hin
  have hl := hs.cs.1
  simp only [LIM] at hl
  have hr : i64 (i - 2) := ⟨by omega, by omega⟩
  have hr' := rng64.2 hr
  simp only [tree_trail_settable, go_need, go_br, go_leaf, go_back, allSay, X.says, X.ev, X.evs, evl, tblS, List.getD_cons_zero, List.getD_cons_succ, List.getElem?_cons_zero, List.getElem?_cons_succ, tt_b, int_i, str_s, rs_r, Option.isSome_some, Option.getD_some, decide_eq_true_eq, decide_eq_false_iff_not, dS_eS, dC_eC, dU_eU, dW_eW, dY_eY, eC_0, eC_1, eU_0, eU_1, eW_0, eW_1, eW_2, eY_0, eY_1, eS_0, eS_1, eS_2, eS_3, eS_4, eS_5, List.length_map, i_inj, b_inj, s_inj, eC_eq, eU_eq, eW_eq, eY_eq, eS_eq, rng64, List.take_succ_cons, List.take_zero, List.nil_append, List.cons_append, decide_true, decide_false, Bool.or_true, true_and, and_true, cell_get hin, h1, hr, settP, behind, eC_mk]
  have e0 : (D.a [.i 0, .i i]) = eC ⟨0, i⟩ := rfl
  by_cases h2 : 2 ≤ i
  · have hin2 : inS s (i - 2) = true := inS_iff.2 ⟨by omega, by omega⟩
    have q1 : 0 ≤ i - 2 := by omega
    have q2 : i - 2 < s.cs.length := by omega
    simp only [cell_get hin2, h2, q1, q2, eC_0, i_inj, hr']
    by_cases c0 : (cellAt s i).t = 0
    · have : (cellAt s i = ⟨0, i⟩) = ((cellAt s i).n = i) := propext ⟨fun e => by rw [e], fun e => Ce.ext' c0 e⟩
      simp [c0, this]
    · by_cases c5 : (cellAt s i).t = 5
      · simp [c5]
      · by_cases c1 : (cellAt s i).t = 1
        · simp [c1]
        · by_cases c2 : (cellAt s i).t = 2
          · simp [c2]
          · by_cases c3 : (cellAt s i).t = 3
            · simp [c3]
            · simp [c0, c1, c2, c3, c5]
  · simp only [h2]
    by_cases c0 : (cellAt s i).t = 0
    · have : (cellAt s i = ⟨0, i⟩) = ((cellAt s i).n = i) := propext ⟨fun e => by rw [e], fun e => Ce.ext' c0 e⟩
      simp [c0, this]
    · by_cases c5 : (cellAt s i).t = 5
      · simp [c5]
      · by_cases c1 : (cellAt s i).t = 1
        · simp [c1]
        · by_cases c2 : (cellAt s i).t = 2
          · simp [c2]
          · by_cases c3 : (cellAt s i).t = 3
            · simp [c3]
            · simp [c0, c1, c2, c3, c5]
theorem ok_ref31_Settable : FOk ct_ref31_Settable (gSIbP inS settR) := fok_ref31_Settable fun ds outs hw hg => by
  obtain ⟨d, r, rfl, hd, e, r', rfl, he, rfl⟩ := hw
  obtain ⟨s, rfl, hs⟩ := wfS hd
  obtain ⟨i, rfl, hi⟩ := wfI he
  simp only [gSIbP, dS_eS, int_i, Option.ite_none_right_eq_some, Option.some.injEq] at hg
  obtain ⟨hin, rfl⟩ := hg
  have h1 := inS_iff.1 hin
  have hl := hs.cs.1
  simp only [LIM] at hl
  have hr : i64 (i - 2) := ⟨by omega, by omega⟩
  have hr' := rng64.2 hr
  simp only [tree_ref31_Settable, go_need, go_br, go_leaf, go_back, allSay, X.says, X.ev, X.evs, evl, tblS, List.getD_cons_zero, List.getD_cons_succ, List.getElem?_cons_zero, List.getElem?_cons_succ, tt_b, int_i, str_s, rs_r, Option.isSome_some, Option.getD_some, decide_eq_true_eq, decide_eq_false_iff_not, dS_eS, dC_eC, dU_eU, dW_eW, dY_eY, eC_0, eC_1, eU_0, eU_1, eW_0, eW_1, eW_2, eY_0, eY_1, eS_0, eS_1, eS_2, eS_3, eS_4, eS_5, List.length_map, i_inj, b_inj, s_inj, eC_eq, eU_eq, eW_eq, eY_eq, eS_eq, rng64, List.take_succ_cons, List.take_zero, List.nil_append, List.cons_append, decide_true, decide_false, Bool.or_true, true_and, and_true, cell_get hin, h1, hr, settR, behind]
  by_cases h2 : 2 ≤ i
  · have hin2 : inS s (i - 2) = true := inS_iff.2 ⟨by omega, by omega⟩
    have q1 : 0 ≤ i - 2 := by omega
    have q2 : i - 2 < s.cs.length := by omega
    simp only [cell_get hin2, h2, q1, q2, eC_0, i_inj, hr']
    by_cases c0 : (cellAt s i).t = 0
    · simp [c0]
    · by_cases c5 : (cellAt s i).t = 5
      · simp [c5]
      · simp [c0, c5]
  · simp only [h2]
    by_cases c0 : (cellAt s i).t = 0
    · simp [c0]
    · by_cases c5 : (cellAt s i).t = 5
      · simp [c5]
      · simp [c0, c5]

/-- A cell comes to an address. -/
def comesN (s : So) (a : Int) : Nat → Ce → Bool
  | 0, _ => false
  | k + 1, c => if c.t = 0 ∧ inS s c.n = true then (if c.n = a then true else comesN s a k (cellAt s c.n)) else false
def comesB (s : So) (c : Ce) (a : Int) : Bool := comesN s a (s.cs.length + 1) c
theorem comesN_self {s : So} {a : Int} {c : Ce} (h : cellAt s c.n = c) (ha : ¬ c.n = a) : ∀ k, comesN s a k c = false
  | 0 => rfl
  | k + 1 => by
    unfold comesN
    by_cases hc : c.t = 0 ∧ inS s c.n = true
    · rw [if_pos hc, if_neg ha, h]
      exact comesN_self h ha k
    · rw [if_neg hc]
def gSCIb (f : So → Ce → Int → Bool) : List D → Option (List D)
  | [s, c, i] => some [.b (f (dS s) (dC c) i.int)]
  | _ => none
theorem ok_ref31_Comes : FOk ct_ref31_Comes (gSCIb comesB) := fok_ref31_Comes fun ds outs hw hg => by
  obtain ⟨d, r, rfl, hd, e, r', rfl, he, f, r2, rfl, hf, rfl⟩ := hw
  obtain ⟨s, rfl, hs⟩ := wfS hd
  obtain ⟨c0, rfl, hc⟩ := wfC he
  obtain ⟨a, rfl, ha⟩ := wfI hf
  simp only [gSCIb, dS_eS, dC_eC, int_i, Option.some.injEq] at hg
  subst hg
  have hl := hs.cs.1
  simp only [LIM] at hl
  rw [tree_ref31_Comes, go_loop]
  refine ⟨fun st => ∃ (k : Nat) (c : Ce), k ≤ s.cs.length + 1 ∧ st = [.b false, .i k, eC c] ∧ comesN s a (s.cs.length + 1 - k) c = comesB s c0 a, fun st => s.cs.length + 1 - (st.getD 1 .u).int.toNat, ⟨0, c0, Nat.zero_le _, rfl, rfl⟩, ?_⟩
  rintro st - ⟨k, c, hk, rfl, hP⟩
  simp only [go_need, go_br, go_leaf, go_back, allSay, X.says, X.ev, X.evs, evl, tblS, List.getD_cons_zero, List.getD_cons_succ, List.getElem?_cons_zero, List.getElem?_cons_succ, tt_b, int_i, str_s, rs_r, Option.isSome_some, Option.getD_some, decide_eq_true_eq, decide_eq_false_iff_not, dS_eS, dC_eC, dU_eU, dW_eW, dY_eY, eC_0, eC_1, eU_0, eU_1, eW_0, eW_1, eW_2, eY_0, eY_1, eS_0, eS_1, eS_2, eS_3, eS_4, eS_5, List.length_map, i_inj, b_inj, s_inj, eC_eq, eU_eq, eW_eq, eY_eq, eS_eq, rng64, List.take_succ_cons, List.take_zero, List.nil_append, List.cons_append, decide_true, decide_false, Bool.or_true, true_and, and_true]
  have hcond : (decide ((k : Int) ≤ s.cs.length) && decide (c.t = 0) && decide (0 ≤ c.n) && decide (c.n < s.cs.length)) = (decide (k ≤ s.cs.length) && (decide (c.t = 0) && inS s c.n)) := by
    have : decide ((k : Int) ≤ s.cs.length) = decide (k ≤ s.cs.length) := by simp
    rw [this, inS, Bool.and_assoc, Bool.and_assoc]
  rw [hcond]
  refine ⟨fun hx => ?_, fun hx => ?_⟩
  · simp only [Bool.and_eq_true, decide_eq_true_eq] at hx
    obtain ⟨hkl, h0, hin⟩ := hx
    have h1 := inS_iff.1 hin
    have hr : i64 ((k : Int) + 1) := ⟨by omega, by omega⟩
    obtain ⟨n, hn⟩ : ∃ n, s.cs.length + 1 - k = n + 1 := ⟨s.cs.length - k, by omega⟩
    rw [hn] at hP
    unfold comesN at hP
    rw [if_pos ⟨h0, hin⟩] at hP
    simp only [cell_get hin]
    refine ⟨fun hy => ?_, fun hy => ⟨h1, hr, ?_⟩⟩
    · rw [if_pos hy] at hP
      rw [hP]
    · rw [if_neg hy] at hP
      rw [updB, if_pos rfl]
      refine ⟨⟨k + 1, cellAt s c.n, by omega, by simp, by rw [show s.cs.length + 1 - (k + 1) = n by omega]; exact hP⟩, ?_⟩
      simp [D.int]
      omega
  · rw [← hP]
    by_cases hkl : k ≤ s.cs.length
    · obtain ⟨n, hn⟩ : ∃ n, s.cs.length + 1 - k = n + 1 := ⟨s.cs.length - k, by omega⟩
      rw [hn]
      unfold comesN
      rw [if_neg]
      intro h
      simp [hkl, h.1, h.2] at hx
    · rw [show s.cs.length + 1 - k = 0 by omega]
      rfl
theorem ok_trail_comes : FOk ct_trail_comes (gSCIb comesB) := fok_trail_comes ok_trail_in fun ds outs hw hg => by
  obtain ⟨d, r, rfl, hd, e, r', rfl, he, f, r2, rfl, hf, rfl⟩ := hw
  obtain ⟨s, rfl, hs⟩ := wfS hd
  obtain ⟨c0, rfl, hc⟩ := wfC he
  obtain ⟨a, rfl, ha⟩ := wfI hf
  simp only [gSCIb, dS_eS, dC_eC, int_i, Option.some.injEq] at hg
  subst hg
  have hl := hs.cs.1
  simp only [LIM] at hl
  rw [tree_trail_comes, go_need]
  refine ⟨by simp only [go_need, go_br, go_leaf, go_back, allSay, X.says, X.ev, X.evs, evl, tblS, List.getD_cons_zero, List.getD_cons_succ, List.getElem?_cons_zero, List.getElem?_cons_succ, tt_b, int_i, str_s, rs_r, Option.isSome_some, Option.getD_some, decide_eq_true_eq, decide_eq_false_iff_not, dS_eS, dC_eC, dU_eU, dW_eW, dY_eY, eC_0, eC_1, eU_0, eU_1, eW_0, eW_1, eW_2, eY_0, eY_1, eS_0, eS_1, eS_2, eS_3, eS_4, eS_5, List.length_map, i_inj, b_inj, s_inj, eC_eq, eU_eq, eW_eq, eY_eq, eS_eq, rng64, List.take_succ_cons, List.take_zero, List.nil_append, List.cons_append, decide_true, decide_false, Bool.or_true, true_and, and_true]; omega, ?_⟩
  rw [go_loop]
  refine ⟨fun st => ∃ (k : Nat) (c : Ce), k ≤ s.cs.length + 1 ∧ st = [.b false, .i k, eC c] ∧ comesN s a (s.cs.length + 1 - k) c = comesB s c0 a, fun st => s.cs.length + 1 - (st.getD 1 .u).int.toNat, ⟨0, c0, Nat.zero_le _, rfl, rfl⟩, ?_⟩
  rintro st - ⟨k, c, hk, rfl, hP⟩
  simp only [go_need, go_br, go_leaf, go_back, allSay, X.says, X.ev, X.evs, evl, tblS, List.getD_cons_zero, List.getD_cons_succ, List.getElem?_cons_zero, List.getElem?_cons_succ, tt_b, int_i, str_s, rs_r, Option.isSome_some, Option.getD_some, decide_eq_true_eq, decide_eq_false_iff_not, dS_eS, dC_eC, dU_eU, dW_eW, dY_eY, eC_0, eC_1, eU_0, eU_1, eW_0, eW_1, eW_2, eY_0, eY_1, eS_0, eS_1, eS_2, eS_3, eS_4, eS_5, List.length_map, i_inj, b_inj, s_inj, eC_eq, eU_eq, eW_eq, eY_eq, eS_eq, rng64, List.take_succ_cons, List.take_zero, List.nil_append, List.cons_append, decide_true, decide_false, Bool.or_true, true_and, and_true, gSIb]
  refine ⟨fun hlt => ?_, fun hlt => ?_⟩
  · have hkl : k ≤ s.cs.length := by omega
    have hr : i64 ((k : Int) + 1) := ⟨by omega, by omega⟩
    obtain ⟨n, hn⟩ : ∃ n, s.cs.length + 1 - k = n + 1 := ⟨s.cs.length - k, by omega⟩
    rw [hn] at hP
    unfold comesN at hP
    refine ⟨fun hx => ?_, fun hx => ?_⟩
    · rw [if_neg] at hP
      · rw [← hP]
      · intro h
        simp [h.1, h.2] at hx
    · have hx' : c.t = 0 ∧ inS s c.n = true := by simpa using hx
      have h1 := inS_iff.1 hx'.2
      rw [if_pos hx'] at hP
      simp only [cell_get hx'.2, eC_eq]
      refine ⟨fun hy => ?_, fun hy => ⟨h1, fun hz => ?_, fun hz => ⟨hr, ?_⟩⟩⟩
      · rw [if_pos hy] at hP
        rw [hP]
      · rw [if_neg hy, hz, comesN_self hz hy] at hP
        rw [← hP]
      · rw [if_neg hy] at hP
        rw [updB, if_pos rfl]
        refine ⟨⟨k + 1, cellAt s c.n, by omega, by simp, by rw [show s.cs.length + 1 - (k + 1) = n by omega]; exact hP⟩, ?_⟩
        simp [D.int]
        omega
  · rw [← hP, show s.cs.length + 1 - k = 0 by omega]
    rfl

/-! ### Set -/
def setOk (vc : So → Ce → Bool) (st : So → Int → Bool) (s : So) (a : Int) (c : Ce) : Bool := inS s a && (vc s c && (st s a && !comesB s (keptC c) a))
def setS (s : So) (a : Int) (c : Ce) : So := { s with cs := s.cs.set a.toNat (keptC c), tr := s.tr ++ [⟨a, cellAt s a⟩] }
def gSet (vc : So → Ce → Bool) (st : So → Int → Bool) : List D → Option (List D)
  | [s, a, c] => if setOk vc st (dS s) a.int (dC c) then (if decide ((dS s).tr.length < 34359738368) then some [.i 0, eS (setS (dS s) a.int (dC c))] else none) else some [.i 1, eS (dS s)]
  | _ => none
theorem setS_eq {s : So} {a : Int} {c : Ce} : D.a ((D.a ((eS s).fs.set 2 (.r (s.tr.map eU ++ [.a [.i a, eC (cellAt s a)]])))).fs.set 0 (.r ((s.cs.map eC).set a.toNat (eC (keptC c))))) = eS (setS s a c) := by
  simp [setS, eS, D.fs, eU, List.map_set]
theorem fld_s2 {s : So} {x : D} : (D.a ((eS s).fs.set 2 x)).fld 0 = .r (s.cs.map eC) := rfl
theorem ok_trail_Set : FOk ct_trail_Set (gSet vcP settP) := fok_trail_Set ok_trail_in ok_cells_ValidCell ok_trail_settable ok_trail_kept ok_trail_comes fun ds outs hw hg => by
  obtain ⟨d, r, rfl, hd, e, r', rfl, he, f, r2, rfl, hf, rfl⟩ := hw
  obtain ⟨s, rfl, hs⟩ := wfS hd
  obtain ⟨a, rfl, ha⟩ := wfI he
  obtain ⟨c, rfl, hc⟩ := wfC hf
  simp only [gSet, dS_eS, dC_eC, int_i] at hg
  simp only [tree_trail_Set, go_need, go_br, go_leaf, go_back, allSay, X.says, X.ev, X.evs, evl, tblS, List.getD_cons_zero, List.getD_cons_succ, List.getElem?_cons_zero, List.getElem?_cons_succ, tt_b, int_i, str_s, rs_r, Option.isSome_some, Option.getD_some, decide_eq_true_eq, decide_eq_false_iff_not, dS_eS, dC_eC, dU_eU, dW_eW, dY_eY, eC_0, eC_1, eU_0, eU_1, eW_0, eW_1, eW_2, eY_0, eY_1, eS_0, eS_1, eS_2, eS_3, eS_4, eS_5, List.length_map, i_inj, b_inj, s_inj, eC_eq, eU_eq, eW_eq, eY_eq, eS_eq, rng64, List.take_succ_cons, List.take_zero, List.nil_append, List.cons_append, decide_true, decide_false, Bool.or_true, true_and, and_true, gSIb, gSCb, gSIbP, gKept, gSCIb, Option.isSome_some, Option.getD_some]
  cases hin : inS s a with
  | false =>
    have : setOk vcP settP s a c = false := by simp [setOk, hin]
    simp only [this, Bool.false_eq_true, if_false, Option.some.injEq] at hg
    subst hg
    simp
  | true =>
    have h1 := inS_iff.1 hin
    cases hv : vcP s c with
    | false =>
      have : setOk vcP settP s a c = false := by simp [setOk, hv]
      simp only [this, Bool.false_eq_true, if_false, Option.some.injEq] at hg
      subst hg
      simp
    | true =>
      cases ht : settP s a with
      | false =>
        have : setOk vcP settP s a c = false := by simp [setOk, ht]
        simp only [this, Bool.false_eq_true, if_false, Option.some.injEq] at hg
        subst hg
        simp [tt_b, ht]
      | true =>
        cases hco : comesB s (keptC c) a with
        | true =>
          have : setOk vcP settP s a c = false := by simp [setOk, hco]
          simp only [this, Bool.false_eq_true, if_false, Option.some.injEq] at hg
          subst hg
          simp [tt_b, ht]
        | false =>
          have : setOk vcP settP s a c = true := by simp [setOk, hin, hv, ht, hco]
          simp only [this, if_true, Option.ite_none_right_eq_some, Option.some.injEq, decide_eq_true_eq] at hg
          obtain ⟨hlt, rfl⟩ := hg
          simp only [cell_get hin, fld_s2, rs_r, List.length_map, setS_eq]
          simp [tt_b, ht, h1]
          omega
theorem ok_ref31_Set : FOk ct_ref31_Set (gSet vcR settR) := fok_ref31_Set ok_ref30_ValidCell ok_ref31_Settable ok_ref30_Kept ok_ref31_Comes fun ds outs hw hg => by
  obtain ⟨d, r, rfl, hd, e, r', rfl, he, f, r2, rfl, hf, rfl⟩ := hw
  obtain ⟨s, rfl, hs⟩ := wfS hd
  obtain ⟨a, rfl, ha⟩ := wfI he
  obtain ⟨c, rfl, hc⟩ := wfC hf
  simp only [gSet, dS_eS, dC_eC, int_i] at hg
  have hcond : (decide (a < 0) || decide ((s.cs.length : Int) ≤ a)) = !inS s a := by
    cases hin : inS s a with
    | true =>
      have h1 := inS_iff.1 hin
      have h2 : ¬ a < 0 := by omega
      have h3 : ¬ (s.cs.length : Int) ≤ a := by omega
      simp [h2, h3]
    | false =>
      have h1 : ¬ (0 ≤ a ∧ a < s.cs.length) := fun q => by rw [inS_iff.2 q] at hin; cases hin
      simp
      omega
  simp only [tree_ref31_Set, go_need, go_br, go_leaf, go_back, allSay, X.says, X.ev, X.evs, evl, tblS, List.getD_cons_zero, List.getD_cons_succ, List.getElem?_cons_zero, List.getElem?_cons_succ, tt_b, int_i, str_s, rs_r, Option.isSome_some, Option.getD_some, decide_eq_true_eq, decide_eq_false_iff_not, dS_eS, dC_eC, dU_eU, dW_eW, dY_eY, eC_0, eC_1, eU_0, eU_1, eW_0, eW_1, eW_2, eY_0, eY_1, eS_0, eS_1, eS_2, eS_3, eS_4, eS_5, List.length_map, i_inj, b_inj, s_inj, eC_eq, eU_eq, eW_eq, eY_eq, eS_eq, rng64, List.take_succ_cons, List.take_zero, List.nil_append, List.cons_append, decide_true, decide_false, Bool.or_true, true_and, and_true, gSIb, gSCb, gSIbP, gKept, gSCIb, Option.isSome_some, Option.getD_some, hcond]
  cases hin : inS s a with
  | false =>
    have : setOk vcR settR s a c = false := by simp [setOk, hin]
    simp only [this, Bool.false_eq_true, if_false, Option.some.injEq] at hg
    subst hg
    simp
  | true =>
    have h1 := inS_iff.1 hin
    cases hv : vcR s c with
    | false =>
      have : setOk vcR settR s a c = false := by simp [setOk, hv]
      simp only [this, Bool.false_eq_true, if_false, Option.some.injEq] at hg
      subst hg
      simp
    | true =>
      cases ht : settR s a with
      | false =>
        have : setOk vcR settR s a c = false := by simp [setOk, ht]
        simp only [this, Bool.false_eq_true, if_false, Option.some.injEq] at hg
        subst hg
        simp [tt_b, ht]
      | true =>
        cases hco : comesB s (keptC c) a with
        | true =>
          have : setOk vcR settR s a c = false := by simp [setOk, hco]
          simp only [this, Bool.false_eq_true, if_false, Option.some.injEq] at hg
          subst hg
          simp [tt_b, ht]
        | false =>
          have : setOk vcR settR s a c = true := by simp [setOk, hin, hv, ht, hco]
          simp only [this, if_true, Option.ite_none_right_eq_some, Option.some.injEq, decide_eq_true_eq] at hg
          obtain ⟨hlt, rfl⟩ := hg
          simp only [cell_get hin, fld_s2, rs_r, List.length_map, setS_eq]
          simp [tt_b, ht, h1]
          omega
end Go.Proofs.Ytcjapglipkmbhaa

namespace Go.Proofs.Ytcjapglipkmbhaa
open Go.RowKit
set_option linter.unusedVariables false
set_option linter.unusedSimpArgs false

def markedB (s : So) (m t : Int) : Bool := decide (0 ≤ m) && (decide (m ≤ s.tr.length) && (decide (0 ≤ t) && decide (t ≤ s.cs.length)))
def gSIIb (f : So → Int → Int → Bool) : List D → Option (List D)
  | [s, m, t] => some [.b (f (dS s) m.int t.int)]
  | _ => none
theorem ok_trail_marked : FOk ct_trail_marked (gSIIb markedB) := fok_trail_marked fun ds outs hw hg => by
  obtain ⟨d, r, rfl, hd, e, r', rfl, he, f, r2, rfl, hf, rfl⟩ := hw
  obtain ⟨s, rfl, hs⟩ := wfS hd
  obtain ⟨m, rfl, hm⟩ := wfI he
  obtain ⟨t, rfl, ht⟩ := wfI hf
  simp only [gSIIb, dS_eS, int_i, Option.some.injEq] at hg
  subst hg
  simp only [tree_trail_marked, go_need, go_br, go_leaf, go_back, allSay, X.says, X.ev, X.evs, evl, tblS, List.getD_cons_zero, List.getD_cons_succ, List.getElem?_cons_zero, List.getElem?_cons_succ, tt_b, int_i, str_s, rs_r, Option.isSome_some, Option.getD_some, decide_eq_true_eq, decide_eq_false_iff_not, dS_eS, dC_eC, dU_eU, dW_eW, dY_eY, eC_0, eC_1, eU_0, eU_1, eW_0, eW_1, eW_2, eY_0, eY_1, eS_0, eS_1, eS_2, eS_3, eS_4, eS_5, List.length_map, i_inj, b_inj, s_inj, eC_eq, eU_eq, eW_eq, eY_eq, eS_eq, rng64, List.take_succ_cons, List.take_zero, List.nil_append, List.cons_append, decide_true, decide_false, Bool.or_true, true_and, and_true, markedB, Bool.and_assoc]
theorem ok_ref31_within : FOk ct_ref31_within (gSIIb markedB) := fok_ref31_within fun ds outs hw hg => by
  obtain ⟨d, r, rfl, hd, e, r', rfl, he, f, r2, rfl, hf, rfl⟩ := hw
  obtain ⟨s, rfl, hs⟩ := wfS hd
  obtain ⟨m, rfl, hm⟩ := wfI he
  obtain ⟨t, rfl, ht⟩ := wfI hf
  simp only [gSIIb, dS_eS, int_i, Option.some.injEq] at hg
  subst hg
  simp only [tree_ref31_within, go_need, go_br, go_leaf, go_back, allSay, X.says, X.ev, X.evs, evl, tblS, List.getD_cons_zero, List.getD_cons_succ, List.getElem?_cons_zero, List.getElem?_cons_succ, tt_b, int_i, str_s, rs_r, Option.isSome_some, Option.getD_some, decide_eq_true_eq, decide_eq_false_iff_not, dS_eS, dC_eC, dU_eU, dW_eW, dY_eY, eC_0, eC_1, eU_0, eU_1, eW_0, eW_1, eW_2, eY_0, eY_1, eS_0, eS_1, eS_2, eS_3, eS_4, eS_5, List.length_map, i_inj, b_inj, s_inj, eC_eq, eU_eq, eW_eq, eY_eq, eS_eq, rng64, List.take_succ_cons, List.take_zero, List.nil_append, List.cons_append, decide_true, decide_false, Bool.or_true, true_and, and_true, markedB, Bool.and_assoc]

def putU (u : Un) (cs : List Ce) : List Ce := if 0 ≤ u.at' ∧ u.at' < cs.length then cs.set u.at'.toNat u.old else cs
/-- The last one first. -/
def undoC (cs : List Ce) (l : List Un) : List Ce := l.foldr putU cs
theorem putU_len (u : Un) (cs : List Ce) : (putU u cs).length = cs.length := by
  unfold putU
  split <;> simp
theorem undoC_len (cs : List Ce) : ∀ l, (undoC cs l).length = cs.length
  | [] => rfl
  | u :: l => (putU_len _ _).trans (undoC_len cs l)
theorem drop_get {α : Type} [Inhabited α] {l : List α} {k : Nat} (h : k < l.length) : l.drop k = l.getD k default :: l.drop (k + 1) := by
  rw [List.drop_eq_getElem_cons h]
  simp [List.getD_eq_getElem?_getD, h]
def undoS (s : So) (m t : Int) : So := { s with cs := (undoC s.cs (s.tr.drop m.toNat)).take t.toNat, tr := s.tr.take m.toNat }
def gUndo : List D → Option (List D)
  | [s, m, t] => if markedB (dS s) m.int t.int then some [.i 0, eS (undoS (dS s) m.int t.int)] else some [.i 1, eS (dS s)]
  | _ => none
theorem put_eq {s : So} {cs : List Ce} {u : Un} (h : 0 ≤ u.at' ∧ u.at' < cs.length) : D.a ((eS { s with cs := cs }).fs.set 0 (.r ((cs.map eC).set u.at'.toNat (eC u.old)))) = eS { s with cs := putU u cs } := by
  simp [putU, h, eS, D.fs, List.map_set]
theorem markedB_iff {s : So} {m t : Int} : markedB s m t = true ↔ 0 ≤ m ∧ m ≤ s.tr.length ∧ 0 ≤ t ∧ t ≤ s.cs.length := by simp [markedB]
theorem ok_trail_Undo : FOk ct_trail_Undo gUndo := fok_trail_Undo ok_trail_marked ok_trail_in fun ds outs hw hg => by
  obtain ⟨d, r, rfl, hd, e, r', rfl, he, f, r2, rfl, hf, rfl⟩ := hw
  obtain ⟨s, rfl, hs⟩ := wfS hd
  obtain ⟨m, rfl, hm⟩ := wfI he
  obtain ⟨t, rfl, ht⟩ := wfI hf
  simp only [gUndo, dS_eS, int_i] at hg
  rw [tree_trail_Undo, go_need]
  refine ⟨by simp only [go_need, go_br, go_leaf, go_back, allSay, X.says, X.ev, X.evs, evl, tblS, List.getD_cons_zero, List.getD_cons_succ, List.getElem?_cons_zero, List.getElem?_cons_succ, tt_b, int_i, str_s, rs_r, Option.isSome_some, Option.getD_some, decide_eq_true_eq, decide_eq_false_iff_not, dS_eS, dC_eC, dU_eU, dW_eW, dY_eY, eC_0, eC_1, eU_0, eU_1, eW_0, eW_1, eW_2, eY_0, eY_1, eS_0, eS_1, eS_2, eS_3, eS_4, eS_5, List.length_map, i_inj, b_inj, s_inj, eC_eq, eU_eq, eW_eq, eY_eq, eS_eq, rng64, List.take_succ_cons, List.take_zero, List.nil_append, List.cons_append, decide_true, decide_false, Bool.or_true, true_and, and_true, gSIIb], ?_⟩
  rw [go_br]
  cases hk : markedB s m t with
  | false =>
    simp only [hk, Bool.false_eq_true, if_false, Option.some.injEq] at hg
    subst hg
    refine ⟨fun _ => by simp only [go_need, go_br, go_leaf, go_back, allSay, X.says, X.ev, X.evs, evl, tblS, List.getD_cons_zero, List.getD_cons_succ, List.getElem?_cons_zero, List.getElem?_cons_succ, tt_b, int_i, str_s, rs_r, Option.isSome_some, Option.getD_some, decide_eq_true_eq, decide_eq_false_iff_not, dS_eS, dC_eC, dU_eU, dW_eW, dY_eY, eC_0, eC_1, eU_0, eU_1, eW_0, eW_1, eW_2, eY_0, eY_1, eS_0, eS_1, eS_2, eS_3, eS_4, eS_5, List.length_map, i_inj, b_inj, s_inj, eC_eq, eU_eq, eW_eq, eY_eq, eS_eq, rng64, List.take_succ_cons, List.take_zero, List.nil_append, List.cons_append, decide_true, decide_false, Bool.or_true, true_and, and_true, gSIIb], fun h => ?_⟩
    simp [X.ev, X.evs, evl, tblS, gSIIb, dS_eS, int_i, hk, D.tt] at h
  | true =>
    simp only [hk, if_true, Option.some.injEq] at hg
    subst hg
    refine ⟨fun h => ?_, fun _ => ?_⟩
    · simp [X.ev, X.evs, evl, tblS, gSIIb, dS_eS, int_i, hk, D.tt] at h
    obtain ⟨q1, q2, q3, q4⟩ := markedB_iff.1 hk
    rw [go_need]
    refine ⟨by simp only [go_need, go_br, go_leaf, go_back, allSay, X.says, X.ev, X.evs, evl, tblS, List.getD_cons_zero, List.getD_cons_succ, List.getElem?_cons_zero, List.getElem?_cons_succ, tt_b, int_i, str_s, rs_r, Option.isSome_some, Option.getD_some, decide_eq_true_eq, decide_eq_false_iff_not, dS_eS, dC_eC, dU_eU, dW_eW, dY_eY, eC_0, eC_1, eU_0, eU_1, eW_0, eW_1, eW_2, eY_0, eY_1, eS_0, eS_1, eS_2, eS_3, eS_4, eS_5, List.length_map, i_inj, b_inj, s_inj, eC_eq, eU_eq, eW_eq, eY_eq, eS_eq, rng64, List.take_succ_cons, List.take_zero, List.nil_append, List.cons_append, decide_true, decide_false, Bool.or_true, true_and, and_true]; exact ⟨q1, q2⟩, ?_⟩
    have ecut : ((s.tr.map eU).take ((s.tr.length : Nat) : Int).toNat).drop m.toNat = (s.tr.drop m.toNat).map eU := by
      rw [List.take_of_length_le (by simp), List.map_drop]
    have hll : (s.tr.drop m.toNat).length ≤ s.tr.length := by simp
    have hl := hs.tr.1
    simp only [LIM] at hl
    rw [go_loop]
    generalize hL : s.tr.drop m.toNat = L at ecut hll
    refine ⟨fun st => ∃ k : Nat, k ≤ L.length ∧ st = [eS { s with cs := undoC s.cs (L.drop k) }, .i ((k : Int) - 1)], fun st => ((st.getD 1 .u).int + 1).toNat, ⟨L.length, Nat.le_refl _, ?_⟩, ?_⟩
    · simp only [go_need, go_br, go_leaf, go_back, allSay, X.says, X.ev, X.evs, evl, tblS, List.getD_cons_zero, List.getD_cons_succ, List.getElem?_cons_zero, List.getElem?_cons_succ, tt_b, int_i, str_s, rs_r, Option.isSome_some, Option.getD_some, decide_eq_true_eq, decide_eq_false_iff_not, dS_eS, dC_eC, dU_eU, dW_eW, dY_eY, eC_0, eC_1, eU_0, eU_1, eW_0, eW_1, eW_2, eY_0, eY_1, eS_0, eS_1, eS_2, eS_3, eS_4, eS_5, List.length_map, i_inj, b_inj, s_inj, eC_eq, eU_eq, eW_eq, eY_eq, eS_eq, rng64, List.take_succ_cons, List.take_zero, List.nil_append, List.cons_append, decide_true, decide_false, Bool.or_true, true_and, and_true, ecut]
      simp [undoC]
    rintro st - ⟨k, hkl, rfl⟩
    simp only [go_need, go_br, go_leaf, go_back, allSay, X.says, X.ev, X.evs, evl, tblS, List.getD_cons_zero, List.getD_cons_succ, List.getElem?_cons_zero, List.getElem?_cons_succ, tt_b, int_i, str_s, rs_r, Option.isSome_some, Option.getD_some, decide_eq_true_eq, decide_eq_false_iff_not, dS_eS, dC_eC, dU_eU, dW_eW, dY_eY, eC_0, eC_1, eU_0, eU_1, eW_0, eW_1, eW_2, eY_0, eY_1, eS_0, eS_1, eS_2, eS_3, eS_4, eS_5, List.length_map, i_inj, b_inj, s_inj, eC_eq, eU_eq, eW_eq, eY_eq, eS_eq, rng64, List.take_succ_cons, List.take_zero, List.nil_append, List.cons_append, decide_true, decide_false, Bool.or_true, true_and, and_true, gSIb, ecut]
    refine ⟨fun hlt => ?_, fun hlt => ?_⟩
    · have hk1 : ((k : Int) - 1).toNat = k - 1 := by omega
      have hkn : k - 1 < L.length := by omega
      have hget : (D.r (L.map eU)).get ((k : Int) - 1) = eU (L.getD (k - 1) default) := by
        rw [get_r eU (by omega) (by omega), hk1]
      have hdr : undoC s.cs (L.drop (k - 1)) = putU (L.getD (k - 1) default) (undoC s.cs (L.drop k)) := by
        rw [drop_get hkn, show k - 1 + 1 = k by omega]
        rfl
      simp only [hget, eU_0, eU_1, int_i]
      generalize L.getD (k - 1) default = u at hdr
      refine ⟨fun hin => ?_, fun hin => ?_⟩
      · have h1 := inS_iff.1 hin
        rw [updB, if_pos rfl, put_eq h1, ← hdr]
        refine ⟨⟨h1.1, h1.2⟩, ⟨k - 1, by omega, by simp; omega⟩, ?_⟩
        simp [D.int]
        omega
      · have h1 : ¬ (0 ≤ u.at' ∧ u.at' < (undoC s.cs (L.drop k)).length) := fun q => by
          have : inS { s with cs := undoC s.cs (L.drop k) } u.at' = true := inS_iff.2 q
          rw [this] at hin
          cases hin
        have : putU u (undoC s.cs (L.drop k)) = undoC s.cs (L.drop k) := if_neg h1
        rw [updB, if_pos rfl]
        refine ⟨⟨k - 1, by omega, ?_⟩, ?_⟩
        · rw [hdr, this]
          simp
          omega
        · simp [D.int]
          omega
    · have hk0 : k = 0 := by omega
      subst hk0
      simp only [fld_s2, rs_r, List.length_map, undoC_len, List.drop_zero]
      refine ⟨⟨q1, q2⟩, ⟨q3, q4⟩, ?_⟩
      simp [undoS, eS, D.fs, D.fld, D.rs, hL, List.map_take]
theorem ok_ref31_Undo : FOk ct_ref31_Undo gUndo := fok_ref31_Undo ok_ref31_within fun ds outs hw hg => by
  obtain ⟨d, r, rfl, hd, e, r', rfl, he, f, r2, rfl, hf, rfl⟩ := hw
  obtain ⟨s, rfl, hs⟩ := wfS hd
  obtain ⟨m, rfl, hm⟩ := wfI he
  obtain ⟨t, rfl, ht⟩ := wfI hf
  simp only [gUndo, dS_eS, int_i] at hg
  rw [tree_ref31_Undo, go_need]
  refine ⟨by simp only [go_need, go_br, go_leaf, go_back, allSay, X.says, X.ev, X.evs, evl, tblS, List.getD_cons_zero, List.getD_cons_succ, List.getElem?_cons_zero, List.getElem?_cons_succ, tt_b, int_i, str_s, rs_r, Option.isSome_some, Option.getD_some, decide_eq_true_eq, decide_eq_false_iff_not, dS_eS, dC_eC, dU_eU, dW_eW, dY_eY, eC_0, eC_1, eU_0, eU_1, eW_0, eW_1, eW_2, eY_0, eY_1, eS_0, eS_1, eS_2, eS_3, eS_4, eS_5, List.length_map, i_inj, b_inj, s_inj, eC_eq, eU_eq, eW_eq, eY_eq, eS_eq, rng64, List.take_succ_cons, List.take_zero, List.nil_append, List.cons_append, decide_true, decide_false, Bool.or_true, true_and, and_true, gSIIb], ?_⟩
  rw [go_br]
  cases hk : markedB s m t with
  | false =>
    simp only [hk, Bool.false_eq_true, if_false, Option.some.injEq] at hg
    subst hg
    refine ⟨fun _ => by simp only [go_need, go_br, go_leaf, go_back, allSay, X.says, X.ev, X.evs, evl, tblS, List.getD_cons_zero, List.getD_cons_succ, List.getElem?_cons_zero, List.getElem?_cons_succ, tt_b, int_i, str_s, rs_r, Option.isSome_some, Option.getD_some, decide_eq_true_eq, decide_eq_false_iff_not, dS_eS, dC_eC, dU_eU, dW_eW, dY_eY, eC_0, eC_1, eU_0, eU_1, eW_0, eW_1, eW_2, eY_0, eY_1, eS_0, eS_1, eS_2, eS_3, eS_4, eS_5, List.length_map, i_inj, b_inj, s_inj, eC_eq, eU_eq, eW_eq, eY_eq, eS_eq, rng64, List.take_succ_cons, List.take_zero, List.nil_append, List.cons_append, decide_true, decide_false, Bool.or_true, true_and, and_true, gSIIb], fun h => ?_⟩
    simp [X.ev, X.evs, evl, tblS, gSIIb, dS_eS, int_i, hk, D.tt] at h
  | true =>
    simp only [hk, if_true, Option.some.injEq] at hg
    subst hg
    refine ⟨fun h => ?_, fun _ => ?_⟩
    · simp [X.ev, X.evs, evl, tblS, gSIIb, dS_eS, int_i, hk, D.tt] at h
    obtain ⟨q1, q2, q3, q4⟩ := markedB_iff.1 hk
    have hl := hs.tr.1
    simp only [LIM] at hl
    rw [go_need]
    refine ⟨by simp only [go_need, go_br, go_leaf, go_back, allSay, X.says, X.ev, X.evs, evl, tblS, List.getD_cons_zero, List.getD_cons_succ, List.getElem?_cons_zero, List.getElem?_cons_succ, tt_b, int_i, str_s, rs_r, Option.isSome_some, Option.getD_some, decide_eq_true_eq, decide_eq_false_iff_not, dS_eS, dC_eC, dU_eU, dW_eW, dY_eY, eC_0, eC_1, eU_0, eU_1, eW_0, eW_1, eW_2, eY_0, eY_1, eS_0, eS_1, eS_2, eS_3, eS_4, eS_5, List.length_map, i_inj, b_inj, s_inj, eC_eq, eU_eq, eW_eq, eY_eq, eS_eq, rng64, List.take_succ_cons, List.take_zero, List.nil_append, List.cons_append, decide_true, decide_false, Bool.or_true, true_and, and_true]; omega, ?_⟩
    rw [go_loop]
    refine ⟨fun st => ∃ k : Nat, m ≤ k ∧ k ≤ s.tr.length ∧ st = [.i ((k : Int) - 1), eS { s with cs := undoC s.cs (s.tr.drop k) }], fun st => ((st.getD 0 .u).int + 1).toNat, ⟨s.tr.length, by omega, Nat.le_refl _, ?_⟩, ?_⟩
    · simp only [go_need, go_br, go_leaf, go_back, allSay, X.says, X.ev, X.evs, evl, tblS, List.getD_cons_zero, List.getD_cons_succ, List.getElem?_cons_zero, List.getElem?_cons_succ, tt_b, int_i, str_s, rs_r, Option.isSome_some, Option.getD_some, decide_eq_true_eq, decide_eq_false_iff_not, dS_eS, dC_eC, dU_eU, dW_eW, dY_eY, eC_0, eC_1, eU_0, eU_1, eW_0, eW_1, eW_2, eY_0, eY_1, eS_0, eS_1, eS_2, eS_3, eS_4, eS_5, List.length_map, i_inj, b_inj, s_inj, eC_eq, eU_eq, eW_eq, eY_eq, eS_eq, rng64, List.take_succ_cons, List.take_zero, List.nil_append, List.cons_append, decide_true, decide_false, Bool.or_true, true_and, and_true]
      simp [undoC]
    rintro st - ⟨k, hmk, hkl, rfl⟩
    simp only [go_need, go_br, go_leaf, go_back, allSay, X.says, X.ev, X.evs, evl, tblS, List.getD_cons_zero, List.getD_cons_succ, List.getElem?_cons_zero, List.getElem?_cons_succ, tt_b, int_i, str_s, rs_r, Option.isSome_some, Option.getD_some, decide_eq_true_eq, decide_eq_false_iff_not, dS_eS, dC_eC, dU_eU, dW_eW, dY_eY, eC_0, eC_1, eU_0, eU_1, eW_0, eW_1, eW_2, eY_0, eY_1, eS_0, eS_1, eS_2, eS_3, eS_4, eS_5, List.length_map, i_inj, b_inj, s_inj, eC_eq, eU_eq, eW_eq, eY_eq, eS_eq, rng64, List.take_succ_cons, List.take_zero, List.nil_append, List.cons_append, decide_true, decide_false, Bool.or_true, true_and, and_true]
    refine ⟨fun hlt => ?_, fun hlt => ?_⟩
    · have hk1 : ((k : Int) - 1).toNat = k - 1 := by omega
      have hkn : k - 1 < s.tr.length := by omega
      have hget : (D.r (s.tr.map eU)).get ((k : Int) - 1) = eU (s.tr.getD (k - 1) default) := by
        rw [get_r eU (by omega) (by omega), hk1]
      have hdr : undoC s.cs (s.tr.drop (k - 1)) = putU (s.tr.getD (k - 1) default) (undoC s.cs (s.tr.drop k)) := by
        rw [drop_get hkn, show k - 1 + 1 = k by omega]
        rfl
      simp only [hget, eU_0, eU_1, int_i]
      generalize s.tr.getD (k - 1) default = u at hdr
      refine ⟨⟨by omega, by omega⟩, fun hin => ?_, fun hin => ?_⟩
      · have h1 : 0 ≤ u.at' ∧ u.at' < (undoC s.cs (s.tr.drop k)).length := by simpa using hin
        rw [updB, if_pos rfl, put_eq h1, ← hdr]
        refine ⟨⟨by omega, by omega, h1.1, h1.2⟩, ⟨by omega, by omega⟩, ⟨k - 1, by omega, by omega, by simp; omega⟩, ?_⟩
        simp [D.int]
        omega
      · have h1 : ¬ (0 ≤ u.at' ∧ u.at' < (undoC s.cs (s.tr.drop k)).length) := by
          simp at hin
          omega
        have : putU u (undoC s.cs (s.tr.drop k)) = undoC s.cs (s.tr.drop k) := if_neg h1
        rw [updB, if_pos rfl]
        refine ⟨⟨by omega, by omega⟩, ⟨k - 1, by omega, by omega, ?_⟩, ?_⟩
        · rw [hdr, this]
          simp
          omega
        · simp [D.int]
          omega
    · have hk0 : k = m.toNat := by omega
      subst hk0
      simp only [fld_s2, rs_r, List.length_map, undoC_len]
      refine ⟨⟨q1, q2⟩, ⟨q3, q4⟩, ?_⟩
      simp [undoS, eS, D.fs, D.fld, D.rs, List.map_take]
theorem ok_trail_Undo_n : FOk ct_trail_Undo_n (fun _ => some [.i 1]) := fok_trail_Undo_n (g0 := fun _ => some [.b false]) (fok_trail_marked_n fun ds outs hw hg => by
  simp only [Option.some.injEq] at hg
  subst hg
  simp only [tree_trail_marked_n, go_need, go_br, go_leaf, go_back, allSay, X.says, X.ev, X.evs, evl, tblS, List.getD_cons_zero, List.getD_cons_succ, List.getElem?_cons_zero, List.getElem?_cons_succ, tt_b, int_i, str_s, rs_r, Option.isSome_some, Option.getD_some, decide_eq_true_eq, decide_eq_false_iff_not, dS_eS, dC_eC, dU_eU, dW_eW, dY_eY, eC_0, eC_1, eU_0, eU_1, eW_0, eW_1, eW_2, eY_0, eY_1, eS_0, eS_1, eS_2, eS_3, eS_4, eS_5, List.length_map, i_inj, b_inj, s_inj, eC_eq, eU_eq, eW_eq, eY_eq, eS_eq, rng64, List.take_succ_cons, List.take_zero, List.nil_append, List.cons_append, decide_true, decide_false, Bool.or_true, true_and, and_true]) (FOk.none enter_trail_in_n) fun ds outs hw hg => by
  simp only [Option.some.injEq] at hg
  subst hg
  simp only [tree_trail_Undo_n, go_need, go_br, go_leaf, go_back, allSay, X.says, X.ev, X.evs, evl, tblS, List.getD_cons_zero, List.getD_cons_succ, List.getElem?_cons_zero, List.getElem?_cons_succ, tt_b, int_i, str_s, rs_r, Option.isSome_some, Option.getD_some, decide_eq_true_eq, decide_eq_false_iff_not, dS_eS, dC_eC, dU_eU, dW_eW, dY_eY, eC_0, eC_1, eU_0, eU_1, eW_0, eW_1, eW_2, eY_0, eY_1, eS_0, eS_1, eS_2, eS_3, eS_4, eS_5, List.length_map, i_inj, b_inj, s_inj, eC_eq, eU_eq, eW_eq, eY_eq, eS_eq, rng64, List.take_succ_cons, List.take_zero, List.nil_append, List.cons_append, decide_true, decide_false, Bool.or_true, true_and, and_true]
  simp

/-! ### The reference's Tidy -/
/-- The elements that are kept. -/
def keepL (m t : Int) : Nat → List Un → List Un
  | _, [] => []
  | k, u :: l => if (k : Int) < m ∨ u.at' < t then u :: keepL m t (k + 1) l else keepL m t (k + 1) l
theorem keepL_app (m t : Int) : ∀ (k : Nat) (l r : List Un), keepL m t k (l ++ r) = keepL m t k l ++ keepL m t (k + l.length) r
  | k, [], r => by simp [keepL]
  | k, u :: l, r => by
    simp only [List.cons_append, keepL, keepL_app m t (k + 1) l r, List.length_cons, show k + 1 + l.length = k + (l.length + 1) by omega]
    split <;> rfl
theorem keepL_len (m t : Int) : ∀ (k : Nat) (l : List Un), (keepL m t k l).length ≤ l.length
  | k, [] => Nat.le_refl _
  | k, u :: l => by
    have := keepL_len m t (k + 1) l
    unfold keepL
    split <;> simp <;> omega
def tidyS (s : So) (m t : Int) : So := { s with tr := keepL m t 0 s.tr }
def gTidy : List D → Option (List D)
  | [s, m, t] => if markedB (dS s) m.int t.int then (if decide ((dS s).tr.length ≤ 34359738368) then some [.i 0, eS (tidyS (dS s) m.int t.int)] else none) else some [.i 1, eS (dS s)]
  | _ => none
theorem ok_ref31_Tidy : FOk ct_ref31_Tidy gTidy := fok_ref31_Tidy ok_ref31_within fun ds outs hw hg => by
  obtain ⟨d, r, rfl, hd, e, r', rfl, he, f, r2, rfl, hf, rfl⟩ := hw
  obtain ⟨s, rfl, hs⟩ := wfS hd
  obtain ⟨m, rfl, hm⟩ := wfI he
  obtain ⟨t, rfl, ht⟩ := wfI hf
  simp only [gTidy, dS_eS, int_i] at hg
  rw [tree_ref31_Tidy, go_need]
  refine ⟨by simp only [go_need, go_br, go_leaf, go_back, allSay, X.says, X.ev, X.evs, evl, tblS, List.getD_cons_zero, List.getD_cons_succ, List.getElem?_cons_zero, List.getElem?_cons_succ, tt_b, int_i, str_s, rs_r, Option.isSome_some, Option.getD_some, decide_eq_true_eq, decide_eq_false_iff_not, dS_eS, dC_eC, dU_eU, dW_eW, dY_eY, eC_0, eC_1, eU_0, eU_1, eW_0, eW_1, eW_2, eY_0, eY_1, eS_0, eS_1, eS_2, eS_3, eS_4, eS_5, List.length_map, i_inj, b_inj, s_inj, eC_eq, eU_eq, eW_eq, eY_eq, eS_eq, rng64, List.take_succ_cons, List.take_zero, List.nil_append, List.cons_append, decide_true, decide_false, Bool.or_true, true_and, and_true, gSIIb], ?_⟩
  rw [go_br]
  cases hk : markedB s m t with
  | false =>
    simp only [hk, Bool.false_eq_true, if_false, Option.some.injEq] at hg
    subst hg
    refine ⟨fun _ => by simp only [go_need, go_br, go_leaf, go_back, allSay, X.says, X.ev, X.evs, evl, tblS, List.getD_cons_zero, List.getD_cons_succ, List.getElem?_cons_zero, List.getElem?_cons_succ, tt_b, int_i, str_s, rs_r, Option.isSome_some, Option.getD_some, decide_eq_true_eq, decide_eq_false_iff_not, dS_eS, dC_eC, dU_eU, dW_eW, dY_eY, eC_0, eC_1, eU_0, eU_1, eW_0, eW_1, eW_2, eY_0, eY_1, eS_0, eS_1, eS_2, eS_3, eS_4, eS_5, List.length_map, i_inj, b_inj, s_inj, eC_eq, eU_eq, eW_eq, eY_eq, eS_eq, rng64, List.take_succ_cons, List.take_zero, List.nil_append, List.cons_append, decide_true, decide_false, Bool.or_true, true_and, and_true, gSIIb], fun h => ?_⟩
    simp [X.ev, X.evs, evl, tblS, gSIIb, dS_eS, int_i, hk, D.tt] at h
  | true =>
    simp only [hk, if_true, Option.ite_none_right_eq_some, Option.some.injEq, decide_eq_true_eq] at hg
    obtain ⟨hl, rfl⟩ := hg
    refine ⟨fun h => ?_, fun _ => ?_⟩
    · simp [X.ev, X.evs, evl, tblS, gSIIb, dS_eS, int_i, hk, D.tt] at h
    rw [go_loop]
    refine ⟨fun st => ∃ k : Nat, k ≤ s.tr.length ∧ st = [.r ((keepL m t 0 (s.tr.take k)).map eU), .i k], fun st => s.tr.length - (st.getD 1 .u).int.toNat, ⟨0, Nat.zero_le _, by simp [X.evs, X.ev, keepL]⟩, ?_⟩
    rintro st - ⟨k, hkl, rfl⟩
    simp only [go_need, go_br, go_leaf, go_back, allSay, X.says, X.ev, X.evs, evl, tblS, List.getD_cons_zero, List.getD_cons_succ, List.getElem?_cons_zero, List.getElem?_cons_succ, tt_b, int_i, str_s, rs_r, Option.isSome_some, Option.getD_some, decide_eq_true_eq, decide_eq_false_iff_not, dS_eS, dC_eC, dU_eU, dW_eW, dY_eY, eC_0, eC_1, eU_0, eU_1, eW_0, eW_1, eW_2, eY_0, eY_1, eS_0, eS_1, eS_2, eS_3, eS_4, eS_5, List.length_map, i_inj, b_inj, s_inj, eC_eq, eU_eq, eW_eq, eY_eq, eS_eq, rng64, List.take_succ_cons, List.take_zero, List.nil_append, List.cons_append, decide_true, decide_false, Bool.or_true, true_and, and_true]
    refine ⟨fun hlt => ?_, fun hlt => ?_⟩
    · have hkn : k < s.tr.length := by omega
      have h0 : (0 : Int) ≤ k := by omega
      have hlen := keepL_len m t 0 (s.tr.take k)
      rw [List.length_take] at hlen
      have hsn : keepL m t 0 (s.tr.take (k + 1)) = keepL m t 0 (s.tr.take k) ++ keepL m t k [s.tr.getD k default] := by
        rw [take_snoc hkn, keepL_app, List.length_take, Nat.min_eq_left (by omega), Nat.zero_add]
      simp only [get_n eU hkn, eU_0, eU_1, int_i, h0, hlt, decide_true, Bool.or_true, and_true, true_and]
      generalize s.tr.getD k default = u at hsn
      refine ⟨fun hx => ⟨by omega, ⟨by omega, by omega⟩, ?_⟩, fun hx => ⟨⟨by omega, by omega⟩, ?_⟩⟩
      · have hx' : (k : Int) < m ∨ u.at' < t := by simpa using hx
        rw [updB, if_pos rfl]
        refine ⟨⟨k + 1, hkn, ?_⟩, ?_⟩
        · rw [hsn]
          simp [keepL, hx']
        · simp [D.int]
          omega
      · have hx' : ¬ ((k : Int) < m ∨ u.at' < t) := by
          simp at hx
          omega
        rw [updB, if_pos rfl]
        refine ⟨⟨k + 1, hkn, ?_⟩, ?_⟩
        · rw [hsn]
          simp [keepL, hx']
        · simp [D.int]
          omega
    · have : k = s.tr.length := by omega
      subst this
      rw [List.take_length]
      rfl
end Go.Proofs.Ytcjapglipkmbhaa

namespace Go.Proofs.Ytcjapglipkmbhaa
open Go.ChangeShapes Go.WideShapes Go.ChangeAt Go.RowKit
set_option linter.unusedVariables false

theorem own_knobD : ownKnob Try.prog.godebug = none := by kernel_rfl
theorem laid_outD : laidOutB Try.prog = true := by kernel_rfl

def posB (P : Program) : Bool := tyTab.all fun e => Nat.blt 0 (P.bytesOf e.1)
set_option maxRecDepth 100000 in
theorem pos_ok : posB Try.prog = true := by kernel_rfl
theorem bytes_pos {T : TypeId} {t : Ty} (h : tyOf T = some t) : 0 < Try.prog.bytesOf T := by
  have := List.all_eq_true.1 pos_ok _ (lkA_mem h)
  simpa [Nat.blt_eq] using this

section
variable {H : Type} {enc : TypeId × Value → H} {W : World} {base : Nat} {spare : Nat → Bool} {held : Bool}

def LightD (t : TypeId) (d : DataW H) : Prop := ∀ n ∈ d.weights Try.prog t, n ≤ reachBytes

theorem weightsAll_memD {e : TypeId} : ∀ {l : List (DataW H)} {d : DataW H}, d ∈ l → ∀ n ∈ d.weights Try.prog e, n ∈ DataW.weightsAll Try.prog e l
  | [], _, h, _, _ => by cases h
  | x :: l, d, h, n, hn => by
    simp only [DataW.weightsAll, List.mem_append]
    rcases List.mem_cons.1 h with rfl | h
    · exact .inl hn
    · exact .inr (weightsAll_memD h n hn)

theorem LightD.each {ts : List TypeId} {l : List (DataW H)} {k : Nat} {t : TypeId} {d : DataW H} (h : ∀ n ∈ DataW.weightsEach Try.prog ts l, n ≤ reachBytes) (ht : ts[k]? = some t) (hd : l[k]? = some d) : LightD t d := fun n hn =>
  h n (DataW.weights_mem_each ht hd n hn)

theorem reach_eqD : reachBytes = LIM := rfl

theorem cells_w {T : TypeId} {t : Ty} (h : tyOf T = some t) : Try.prog.cellsOf T = t.w := by
  obtain ⟨i, hi, h1, -⟩ := row_info h
  simp [Program.cellsOf, hi, h1]

theorem rng_wf {k : IntKind} {t : TypeId} (ht : tyOf t = some (.int k)) {n : Int} (h : (Lit.int k n).wf = true) : rngB k n = true := by
  have h0 := (row_int ht).2.1
  cases k <;> first | (simp [rngB] at h0; done) | (simp [Lit.wf, IntKind.min, IntKind.max, IntKind.signed, IntKind.bits] at h; simp [rngB]; omega)

theorem spot_noneD {a : Addr} {v : Value} (h : W.cell? a = some v) : a.spot = none := by
  unfold World.cell? at h
  split at h
  · split at h
    · cases h
    · rename_i hs; simpa using hs
  · cases h

theorem rdF_of {F : Nat → Prop} {cs : List Value} : ∀ {fl : List Field} {fs : List Ty} {o : Nat}, fieldsB fl fs o = true → (∀ (j : Nat) (f : Field) (t : Ty), fl[j]? = some f → fs[j]? = some t → ∃ y, Rd W F y t ((cs.drop f.offset).take t.w)) → cs.length = o + widths fs → ∃ ds, RdF W F ds fs (cs.drop o)
  | [], [], o, _, _, hl => by
    simp [widths] at hl
    exact ⟨[], rfl, by rw [List.drop_eq_nil_iff]; omega⟩
  | f :: l, t :: ts, o, hb, hf, hl => by
    simp only [fieldsB, Bool.and_eq_true] at hb
    obtain ⟨⟨⟨h1, -⟩, -⟩, h3⟩ := hb
    have ho := Nat.eq_of_beq_eq_true h1
    rw [widths_cons] at hl
    obtain ⟨ds, hds⟩ := rdF_of h3 (fun j f' t' hj ht => hf (j + 1) f' t' (by simpa using hj) (by simpa using ht)) (by omega)
    obtain ⟨y, hy⟩ := hf 0 f t rfl rfl
    refine ⟨y :: ds, t, ts, (cs.drop o).take t.w, cs.drop (o + t.w), rfl, ?_, by rw [← ho]; exact hy, hds⟩
    rw [← List.drop_drop, List.take_append_drop]
  | [], _ :: _, o, hb, _, _ => by cases hb
  | _ :: _, [], o, hb, _, _ => by cases hb

theorem open_recD : ∀ (fuel : Nat) {T : TypeId} {t : Ty} (cs : List Value) (x : DataW H × List MemPlace), tyOf T = some t → isMp t = false → DataW.trod enc Try.prog W base spare held fuel T cs = some x → LightD T x.1 → ∃ y, Rd W (fun _ => True) y t cs := by
  intro fuel
  induction fuel with
  | zero => intro T t cs x _ _ h; simp [DataW.trod] at h
  | succ fuel ih =>
    intro T t cs x hT hM h hL
    cases t with
    | map K V => cases hM
    | int k =>
      obtain ⟨n, rfl, -, hw⟩ := DataW.trod_int (row_int hT).1 h
      exact ⟨.i n, k, rfl, rfl, rng_wf hT hw⟩
    | bool =>
      obtain ⟨b, rfl, -⟩ := DataW.trod_bool (row_bool hT).1 h
      exact ⟨.b b, rfl, rfl⟩
    | str =>
      obtain ⟨s, rfl, rfl, -⟩ := DataW.trod_string (row_str hT).1 h
      have := hL s.data.toList.length (by simp [DataW.weights])
      exact ⟨.s s, rfl, rfl, by rw [reach_eqD] at this; simpa using this⟩
    | st S =>
      obtain ⟨fields, fs, zc, i, hu, hfs, hfb, hi, hsz, -, -, -, -⟩ := row_st hT
      obtain ⟨xs, n, hn, hx, hlen, hxl, hf⟩ := DataW.trod_struct hu h
      obtain rfl : fuel = n := by omega
      have hw : ∀ n ∈ DataW.weightsEach Try.prog (fields.toList.map (·.type)) (xs.map (·.1)), n ≤ reachBytes := fun n hn => hL n (by rw [hx]; simp only [DataW.weights, hu]; exact hn)
      have hcl : cs.length = 0 + widths fs := by rw [hlen, cells_w hT, (fld_okD hfs).1]; omega
      obtain ⟨ds, hds⟩ := rdF_of (W := W) (F := fun _ => True) hfb (fun j f t hj ht => by
        obtain ⟨f', hf', ho, hty, -⟩ := fieldsB_get hfb ht
        obtain rfl := Option.some.inj (hj.symm.trans hf')
        have h5 := hf j f (by rw [← Array.getElem?_toList]; exact hj)
        have hjl : j < fields.toList.length := (List.getElem?_eq_some_iff.1 hj).1
        have hjx : j < xs.length := by rw [hxl]; simpa using hjl
        rw [cells_w hty, List.getElem?_eq_getElem hjx] at h5
        refine ih _ _ hty (fld_noM hfs (List.mem_of_getElem? ht)) h5 (LightD.each (k := j) hw ?_ ?_)
        · rw [List.getElem?_map, hj]; rfl
        · rw [List.getElem?_map, List.getElem?_eq_getElem hjx]; rfl) hcl
      exact ⟨.a ds, S, fs, rfl, hfs, by simpa using hds⟩
    | row E =>
      obtain ⟨hu, ⟨te, hte⟩, -⟩ := row_row hT
      rcases DataW.trod_slice hu h with ⟨rfl, hx⟩ | ⟨a, len, cap, elems, rest, n, hn, rfl, hx, hb, hl, hm, hlen, hel, -⟩
      · exact ⟨.r [], E, te, none, 0, rfl, hte, rfl, by simp, by simp, by simp [maxLen], by simp [RdE]⟩
      · obtain rfl : fuel = n := by omega
        have hwd := tyOf_pos hte
        rw [cells_w hte] at hel
        have hw := hL
        rw [hx] at hw
        simp only [LightD, DataW.weights, hu, List.mem_cons, List.mem_append] at hw
        have hlen2 : len ≤ LIM := by
          have := hw _ (.inl rfl)
          rw [reach_eqD] at this
          have hbp := bytes_pos hte
          simp at this
          have h2 : elems.length * 1 ≤ elems.length * Try.prog.bytesOf E := Nat.mul_le_mul_left _ hbp
          have h3 : (elems.length + rest.length) * 1 ≤ (elems.length + rest.length) * Try.prog.bytesOf E := Nat.mul_le_mul_left _ hbp
          omega
        have spot : 0 < len → a.spot = none := fun h0 => by
          have h2 := hel 0 h0
          rw [List.getElem?_eq_getElem (by omega)] at h2
          cases hc0 : W.cells? base (a.add (0 * te.w)) te.w with
          | none => rw [hc0] at h2; cases h2
          | some cs0 =>
            obtain ⟨_, hcl0, hat0⟩ := World.cells?_some hc0
            have hp : 0 < cs0.length := by omega
            have := hat0 0 (by omega)
            rw [List.getElem?_eq_getElem hp] at this
            exact spot_noneD (a := a) (v := cs0[0]) (by simpa [Addr.add] using this)
        have each : ∀ i, i < len → ∃ y, RdEl W (fun _ => True) y te (some a) i := fun i hi => by
          have h1 := hel i hi
          rw [List.getElem?_eq_getElem (by omega)] at h1
          cases hc : W.cells? base (a.add (i * te.w)) te.w with
          | none => rw [hc] at h1; cases h1
          | some cs' =>
            rw [hc] at h1
            obtain ⟨_, hcl, hat⟩ := World.cells?_some hc
            obtain ⟨y, hy⟩ := ih cs' _ hte (row_noM hT hte) h1 (fun n hn => hw n (.inr (.inl (weightsAll_memD (List.mem_map.2 ⟨_, List.getElem_mem (by omega), rfl⟩) n hn))))
            have hsp := spot (by omega)
            obtain ⟨b, o, sp⟩ := a
            obtain rfl : sp = none := hsp
            have add : ∀ k, (Addr.add ⟨b, o, none⟩ (i * te.w)).add k = ⟨b, o + i * te.w + k, none⟩ := fun k => by
              unfold Addr.add
              split <;> split <;> simp <;> omega
            refine ⟨y, b, o, cs', rfl, trivial, fun j v hj => ?_, hy⟩
            have hj' := (List.getElem?_eq_some_iff.1 hj).1
            have := hat j (by omega)
            rw [add, hj] at this
            exact this
        have pick : ∀ n, n ≤ len → ∃ l : List D, l.length = n ∧ ∀ i (h : i < l.length), RdEl W (fun _ => True) l[i] te (some a) i := by
          intro n
          induction n with
          | zero => exact fun _ => ⟨[], rfl, fun i hi => by simp at hi⟩
          | succ n ihn =>
            intro hn
            obtain ⟨l, hl1, hl2⟩ := ihn (by omega)
            obtain ⟨t, ht⟩ := each n (by omega)
            refine ⟨l ++ [t], by simp [hl1], fun i hi => ?_⟩
            by_cases hin : i < l.length
            · rw [List.getElem_append_left hin]; exact hl2 i hin
            · obtain rfl : i = l.length := by simp at hi; omega
              rw [List.getElem_append_right (by omega)]
              simp [hl1]
              exact ht
        obtain ⟨l, hl1, hl2⟩ := pick len (Nat.le_refl _)
        exact ⟨.r l, E, te, some a, cap, rfl, hte, by rw [hl1], by omega, by omega, hm, rdE_iff.2 fun j hj => by rw [Nat.zero_add]; exact hl2 j hj⟩

/-- The value of the type, and its cells. -/
theorem open_D {T : TypeId} {t : Ty} (hT : tyOf T = some t) (hM : isMp t = false) {v : Value} {d : DataW H} {p : List MemPlace} {b0 : Nat} {r : Reach} (hv : Value.okWide Try.prog W r b0 T v) (h : DataW.Trod enc Try.prog W base spare held T v d p) (hL : LightD T d) :
    ∃ x cs, Pack t cs v ∧ Rd W (fun b => b < W.heap.size) x t cs := by
  obtain ⟨fuel, hf⟩ := h
  obtain ⟨y, hy⟩ := open_recD fuel _ _ hT hM hf hL
  refine ⟨y, v.cells.toList, ?_, Rd.keeps (fun b o _ ho => ⟨ho, lt_of_heap ho⟩) _ hy⟩
  cases t with
  | int k => obtain ⟨n, rfl⟩ := okWide_int (row_int hT).1 hv; rfl
  | bool => obtain ⟨n, rfl⟩ := okWide_bool (row_bool hT).1 hv; rfl
  | str => obtain ⟨n, rfl⟩ := okWide_string (row_str hT).1 hv; rfl
  | map K V => cases hM
  | row E => obtain ⟨A, l, c, rfl⟩ := okWide_slice (row_row hT).1 hv; rfl
  | st S =>
    obtain ⟨fields, fs, zc, i, hu, -⟩ := row_st hT
    obtain ⟨cs, rfl, -⟩ := okWide_struct hu hv
    simp [Pack, Value.cells]
end

/-- A law that is true on all data: what its call does. -/
theorem law_calls {ct : Ct} {g : List D → Option (List D)} (h : FOk ct g) (hrs : ct.rs = [(.bool, false)]) (hnr : ∀ x ∈ ct.ar, ∃ t, x = .val t) {W : World} {vs : List Value} {ds : List D} (ha : ArgsOk (fun _ => True) (fun _ => none) W ct.ar 0 vs ds) (hg : g ds = some [.b true]) :
    Calls Try.prog ct.f vs.toArray W fun e W' => e = .returned (.bool true) ∧ But Nil W W' := by
  refine (h.call (fun _ => True) (fun _ => none) W vs ds _ hg (by constructor <;> simp) ha).mono ?_
  rintro e W' ⟨rs, p', rfl, hb, hr, -⟩
  rw [hrs] at hr
  obtain ⟨v, r, d, ds', rfl, hd, ⟨cs, hp, hc⟩, rfl⟩ := hr
  simp at hd
  obtain ⟨rfl, rfl⟩ := hd
  obtain ⟨e1, e2⟩ : D.b true = .b true ∧ cs = [.bool true] := ⟨rfl, by
    have hc' : Rd W' (FFD (fun _ => True) p' []) (.b true) .bool cs := hc
    exact hc'.2⟩
  subst e2
  have hpv : [Value.bool true] = [v] := hp
  injection hpv with hpv
  subst hpv
  exact ⟨rfl, hb.but.mono fun i hi _ => by obtain ⟨x, hx⟩ := hi; cases hx⟩
end Go.Proofs.Ytcjapglipkmbhaa
