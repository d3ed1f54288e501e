/-
  What functions of the program do on data, as trees: printed by a program. No condition.
-/
import Derived.Test.YtinclokohcommaaZe
namespace Go.Proofs.Ytinclokohcommaa
open Go.RowKit
set_option linter.unusedVariables false
set_option maxRecDepth 100000

def ct_ref30_Deref : Ct := ⟨27, [.val (.st 26), .val (.st 36)], [(.st 36, false)], []⟩
theorem enter_ref30_Deref (args : Array Value) (w : World) : (callFunc ct_ref30_Deref.f args).run Try.prog w = .ok (.enter ct_ref30_Deref.f args) w := by kernel_rfl
def ann_ref30_Deref : Ann := ⟨[0, 1, 2, 3, 4, 5, 9, 36], [(4, ⟨[(5, .int .i64, false)], [3], [11, 12, 13, 14, 15, 16, 17, 18, 19, 20, 21, 22, 23, 24, 25, 26, 27, 28, 29, 30, 31, 32, 33, 34, 35, 36, 39, 40, 41, 42, 43, 44, 37, 38], []⟩)]⟩
def tree_ref30_Deref : Tree := (.need [(.ok 0 [(.tok 0), (.tok 1)])] (.br (.not (.call 0 0 [(.tok 0), (.tok 1)])) (.leaf [(.lit (.a [(.i 0), (.i 0)]))]) (.loop 4 2 [(.lit (.i 0)), (.tok 1)] (.need [(.imp (.and (.and (.le (.tok 2) (.len (.fld (.tok 0) 0))) (.eq (.fld (.tok 3) 0) (.lit (.i 0)))) (.call 1 0 [(.tok 0), (.fld (.tok 3) 1)])) (.le (.lit (.i 0)) (.fld (.tok 3) 1))), (.imp (.and (.and (.le (.tok 2) (.len (.fld (.tok 0) 0))) (.eq (.fld (.tok 3) 0) (.lit (.i 0)))) (.call 1 0 [(.tok 0), (.fld (.tok 3) 1)])) (.lt (.fld (.tok 3) 1) (.len (.fld (.tok 0) 0)))), (.imp (.and (.and (.le (.tok 2) (.len (.fld (.tok 0) 0))) (.eq (.fld (.tok 3) 0) (.lit (.i 0)))) (.call 1 0 [(.tok 0), (.fld (.tok 3) 1)])) (.le (.lit (.i 0)) (.fld (.tok 3) 1))), (.imp (.and (.and (.le (.tok 2) (.len (.fld (.tok 0) 0))) (.eq (.fld (.tok 3) 0) (.lit (.i 0)))) (.call 1 0 [(.tok 0), (.fld (.tok 3) 1)])) (.lt (.fld (.tok 3) 1) (.len (.fld (.tok 0) 0)))), (.imp (.and (.le (.tok 2) (.len (.fld (.tok 0) 0))) (.eq (.fld (.tok 3) 0) (.lit (.i 0)))) (.ok 1 [(.tok 0), (.fld (.tok 3) 1)]))] (.br (.and (.and (.and (.le (.tok 2) (.len (.fld (.tok 0) 0))) (.eq (.fld (.tok 3) 0) (.lit (.i 0)))) (.call 1 0 [(.tok 0), (.fld (.tok 3) 1)])) (.not (.eq (.get (.fld (.tok 0) 0) (.fld (.tok 3) 1)) (.tok 3)))) (.need [(.le (.lit (.i 0)) (.fld (.tok 3) 1)), (.lt (.fld (.tok 3) 1) (.len (.fld (.tok 0) 0)))] (.need [(.rng .i64 (.add (.tok 2) (.lit (.i 1))))] (.back 4 [(.add (.tok 2) (.lit (.i 1))), (.get (.fld (.tok 0) 0) (.fld (.tok 3) 1))]))) (.leaf [(.tok 3)]))))))
set_option maxRecDepth 100000 in
theorem code_ref30_Deref (g0 g1 : List D → Option (List D)) : ∀ cd, Try.f27.body = some cd → treeOf Try.prog [(ct_ref30_ValidCell, g0), (ct_ref30_ranged, g1)] ann_ref30_Deref ct_ref30_Deref Try.f27 cd = tree_ref30_Deref := by
  intro cd h
  injection h with h
  subst h
  kernel_rfl
theorem fok_ref30_Deref {g0 g1 : List D → Option (List D)} {g : List D → Option (List D)} (h0 : FOk ct_ref30_ValidCell g0) (h1 : FOk ct_ref30_ranged g1) (h : ∀ ds outs, WfA ct_ref30_Deref.ars ds → g ds = some outs → tree_ref30_Deref.go (tblS [(ct_ref30_ValidCell, g0), (ct_ref30_ranged, g1)]) (fun o => o = outs) ds fun _ _ => False) : FOk ct_ref30_Deref g :=
  fok_of ann_ref30_Deref Try.f27 _ (.cons h0 (.cons h1 .nil)) rfl rfl enter_ref30_Deref (by decide) fun ds outs hw hg => by rw [code_ref30_Deref g0 g1 _ rfl]; exact h ds outs hw hg

def ct_ref30_get : Ct := ⟨70, [.val (.st 26), .val (.st 36), .val (.int .i64)], [(.st 42, false), (.int .i64, false)], []⟩
theorem enter_ref30_get (args : Array Value) (w : World) : (callFunc ct_ref30_get.f args).run Try.prog w = .ok (.enter ct_ref30_get.f args) w := by kernel_rfl
def ann_ref30_get : Ann := ⟨[0, 1, 2, 3, 4, 6, 7, 8, 9, 10, 11, 12, 16, 23, 24, 30, 41, 64], [(14, ⟨[(2, .int .i64, false), (10, .int .i64, false)], [9], [57, 58, 59, 60, 61, 62, 63, 64, 68, 69, 70, 71, 72, 73, 74, 75, 76, 77, 78, 67, 79, 80, 11, 12, 81, 82, 83, 84, 85, 86, 87, 65, 66], []⟩)]⟩
def tree_ref30_get : Tree := (.need [(.rng .i64 (.sub (.tok 2) (.lit (.i 1))))] (.br (.lt (.sub (.tok 2) (.lit (.i 1))) (.lit (.i 0))) (.leaf [(.lit (.a [(.i 0), (.i 0), (.s ⟨#[]⟩), (.r [])])), (.sub (.tok 2) (.lit (.i 1)))]) (.need [(.ok 0 [(.tok 0), (.tok 1)])] (.br (.eq (.fld (.call 0 0 [(.tok 0), (.tok 1)]) 0) (.lit (.i 1))) (.leaf [(.set (.set (.lit (.a [(.i 0), (.i 0), (.s ⟨#[]⟩), (.r [])])) 0 (.lit (.i 1))) 1 (.fld (.call 0 0 [(.tok 0), (.tok 1)]) 1)), (.sub (.tok 2) (.lit (.i 1)))]) (.br (.eq (.fld (.call 0 0 [(.tok 0), (.tok 1)]) 0) (.lit (.i 2))) (.need [(.le (.lit (.i 0)) (.fld (.call 0 0 [(.tok 0), (.tok 1)]) 1)), (.lt (.fld (.call 0 0 [(.tok 0), (.tok 1)]) 1) (.len (.fld (.tok 0) 1)))] (.leaf [(.set (.set (.lit (.a [(.i 0), (.i 0), (.s ⟨#[]⟩), (.r [])])) 0 (.lit (.i 2))) 2 (.fld (.get (.fld (.tok 0) 1) (.fld (.call 0 0 [(.tok 0), (.tok 1)]) 1)) 0)), (.sub (.tok 2) (.lit (.i 1)))])) (.br (.eq (.fld (.call 0 0 [(.tok 0), (.tok 1)]) 0) (.lit (.i 3))) (.need [(.le (.lit (.i 0)) (.fld (.get (.fld (.tok 0) 0) (.fld (.call 0 0 [(.tok 0), (.tok 1)]) 1)) 1)), (.lt (.fld (.get (.fld (.tok 0) 0) (.fld (.call 0 0 [(.tok 0), (.tok 1)]) 1)) 1) (.len (.fld (.tok 0) 1))), (.le (.lit (.i 0)) (.fld (.call 0 0 [(.tok 0), (.tok 1)]) 1)), (.lt (.fld (.call 0 0 [(.tok 0), (.tok 1)]) 1) (.len (.fld (.tok 0) 0)))] (.loop 14 3 [(.sub (.tok 2) (.lit (.i 1))), (.lit (.i 1)), (.set (.set (.lit (.a [(.i 0), (.i 0), (.s ⟨#[]⟩), (.r [])])) 0 (.lit (.i 3))) 2 (.fld (.get (.fld (.tok 0) 1) (.fld (.get (.fld (.tok 0) 0) (.fld (.call 0 0 [(.tok 0), (.tok 1)]) 1)) 1)) 0))] (.br (.and (.le (.tok 4) (.fld (.get (.fld (.tok 0) 1) (.fld (.get (.fld (.tok 0) 0) (.fld (.call 0 0 [(.tok 0), (.tok 1)]) 1)) 1)) 1)) (.le (.lit (.i 0)) (.tok 3))) (.need [(.ok 1 [(.tok 0), (.get (.fld (.tok 0) 0) (.add (.fld (.call 0 0 [(.tok 0), (.tok 1)]) 1) (.tok 4))), (.tok 3)]), (.ok 1 [(.tok 0), (.get (.fld (.tok 0) 0) (.add (.fld (.call 0 0 [(.tok 0), (.tok 1)]) 1) (.tok 4))), (.tok 3)]), (.le (.lit (.i 0)) (.add (.fld (.call 0 0 [(.tok 0), (.tok 1)]) 1) (.tok 4))), (.lt (.add (.fld (.call 0 0 [(.tok 0), (.tok 1)]) 1) (.tok 4)) (.len (.fld (.tok 0) 0))), (.rng .i64 (.add (.fld (.call 0 0 [(.tok 0), (.tok 1)]) 1) (.tok 4)))] (.need [(.le (.add (.len (.fld (.tok 5) 3)) (.lit (.i 1))) (.lit (.i 2513169434843)))] (.need [(.rng .i64 (.add (.tok 4) (.lit (.i 1))))] (.back 14 [(.call 1 1 [(.tok 0), (.get (.fld (.tok 0) 0) (.add (.fld (.call 0 0 [(.tok 0), (.tok 1)]) 1) (.tok 4))), (.tok 3)]), (.add (.tok 4) (.lit (.i 1))), (.set (.tok 5) 3 (.app (.fld (.tok 5) 3) (.row [(.call 1 0 [(.tok 0), (.get (.fld (.tok 0) 0) (.add (.fld (.call 0 0 [(.tok 0), (.tok 1)]) 1) (.tok 4))), (.tok 3)])])))])))) (.leaf [(.tok 5), (.tok 3)])))) (.leaf [(.set (.lit (.a [(.i 0), (.i 0), (.s ⟨#[]⟩), (.r [])])) 1 (.fld (.call 0 0 [(.tok 0), (.tok 1)]) 1)), (.sub (.tok 2) (.lit (.i 1)))])))))))
set_option maxRecDepth 100000 in
theorem code_ref30_get (g0 g1 : List D → Option (List D)) : ∀ cd, Try.f70.body = some cd → treeOf Try.prog [(ct_ref30_Deref, g0), (ct_ref30_get, g1)] ann_ref30_get ct_ref30_get Try.f70 cd = tree_ref30_get := by
  intro cd h
  injection h with h
  subst h
  kernel_rfl
theorem fok_ref30_get {g0 g1 : List D → Option (List D)} {g : List D → Option (List D)} (h0 : FOk ct_ref30_Deref g0) (h1 : FOk ct_ref30_get g1) (h : ∀ ds outs, WfA ct_ref30_get.ars ds → g ds = some outs → tree_ref30_get.go (tblS [(ct_ref30_Deref, g0), (ct_ref30_get, g1)]) (fun o => o = outs) ds fun _ _ => False) : FOk ct_ref30_get g :=
  fok_of ann_ref30_get Try.f70 _ (.cons h0 (.cons h1 .nil)) rfl rfl enter_ref30_get (by decide) fun ds outs hw hg => by rw [code_ref30_get g0 g1 _ rfl]; exact h ds outs hw hg

def ct_ref30_Get : Ct := ⟨25, [.val (.st 26), .val (.st 36)], [(.st 42, false), (.int .i64, false)], []⟩
theorem enter_ref30_Get (args : Array Value) (w : World) : (callFunc ct_ref30_Get.f args).run Try.prog w = .ok (.enter ct_ref30_Get.f args) w := by kernel_rfl
def ann_ref30_Get : Ann := ⟨[0, 1, 2, 3, 4, 5, 6, 7, 11, 20], []⟩
def tree_ref30_Get : Tree := (.need [(.ok 0 [(.tok 0), (.tok 1)])] (.br (.not (.call 0 0 [(.tok 0), (.tok 1)])) (.leaf [(.lit (.a [(.i 0), (.i 0), (.s ⟨#[]⟩), (.r [])])), (.lit (.i 1))]) (.need [(.ok 1 [(.tok 0), (.tok 1), (.lit (.i 2000))])] (.br (.lt (.call 1 1 [(.tok 0), (.tok 1), (.lit (.i 2000))]) (.lit (.i 0))) (.leaf [(.lit (.a [(.i 0), (.i 0), (.s ⟨#[]⟩), (.r [])])), (.lit (.i 2))]) (.leaf [(.call 1 0 [(.tok 0), (.tok 1), (.lit (.i 2000))]), (.lit (.i 0))])))))
set_option maxRecDepth 100000 in
theorem code_ref30_Get (g0 g1 : List D → Option (List D)) : ∀ cd, Try.f25.body = some cd → treeOf Try.prog [(ct_ref30_ValidCell, g0), (ct_ref30_get, g1)] ann_ref30_Get ct_ref30_Get Try.f25 cd = tree_ref30_Get := by
  intro cd h
  injection h with h
  subst h
  kernel_rfl
theorem fok_ref30_Get {g0 g1 : List D → Option (List D)} {g : List D → Option (List D)} (h0 : FOk ct_ref30_ValidCell g0) (h1 : FOk ct_ref30_get g1) (h : ∀ ds outs, WfA ct_ref30_Get.ars ds → g ds = some outs → tree_ref30_Get.go (tblS [(ct_ref30_ValidCell, g0), (ct_ref30_get, g1)]) (fun o => o = outs) ds fun _ _ => False) : FOk ct_ref30_Get g :=
  fok_of ann_ref30_Get Try.f25 _ (.cons h0 (.cons h1 .nil)) rfl rfl enter_ref30_Get (by decide) fun ds outs hw hg => by rw [code_ref30_Get g0 g1 _ rfl]; exact h ds outs hw hg

def ct_law30_CellsGets : Ct := ⟨5, [.val (.st 26), .val (.st 36)], [(.bool, false)], []⟩
theorem enter_law30_CellsGets (args : Array Value) (w : World) : (callFunc ct_law30_CellsGets.f args).run Try.prog w = .ok (.enter ct_law30_CellsGets.f args) w := by kernel_rfl
def ann_law30_CellsGets : Ann := ⟨[0, 1, 2, 3, 4, 5, 6, 7, 8, 11], []⟩
def tree_law30_CellsGets : Tree := (.need [(.ok 0 [(.tok 0)])] (.br (.not (.call 0 0 [(.tok 0)])) (.need [(.ok 1 [])] (.leaf [(.call 1 0 [])])) (.need [(.ok 2 [(.tok 0), (.tok 1)])] (.need [(.ok 3 [(.tok 0), (.tok 1)])] (.need [(.imp (.and (.and (.eq (.call 4 0 [(.tok 0), (.tok 1)]) (.call 5 0 [(.tok 0), (.tok 1)])) (.eq (.call 2 1 [(.tok 0), (.tok 1)]) (.call 3 1 [(.tok 0), (.tok 1)]))) (.call 6 0 [(.call 2 0 [(.tok 0), (.tok 1)]), (.call 3 0 [(.tok 0), (.tok 1)])])) (.ok 1 [])), (.imp (.and (.eq (.call 4 0 [(.tok 0), (.tok 1)]) (.call 5 0 [(.tok 0), (.tok 1)])) (.eq (.call 2 1 [(.tok 0), (.tok 1)]) (.call 3 1 [(.tok 0), (.tok 1)]))) (.ok 6 [(.call 2 0 [(.tok 0), (.tok 1)]), (.call 3 0 [(.tok 0), (.tok 1)])])), (.ok 5 [(.tok 0), (.tok 1)]), (.ok 4 [(.tok 0), (.tok 1)])] (.leaf [(.and (.and (.and (.eq (.call 4 0 [(.tok 0), (.tok 1)]) (.call 5 0 [(.tok 0), (.tok 1)])) (.eq (.call 2 1 [(.tok 0), (.tok 1)]) (.call 3 1 [(.tok 0), (.tok 1)]))) (.call 6 0 [(.call 2 0 [(.tok 0), (.tok 1)]), (.call 3 0 [(.tok 0), (.tok 1)])])) (.call 1 0 []))]))))))
set_option maxRecDepth 100000 in
theorem code_law30_CellsGets (g0 g1 g2 g3 g4 g5 g6 : List D → Option (List D)) : ∀ cd, Try.f5.body = some cd → treeOf Try.prog [(ct_ref30_Valid, g0), (ct_law30_awake, g1), (ct_cells_Get, g2), (ct_ref30_Get, g3), (ct_cells_Deref, g4), (ct_ref30_Deref, g5), (ct_ref03_Same, g6)] ann_law30_CellsGets ct_law30_CellsGets Try.f5 cd = tree_law30_CellsGets := by
  intro cd h
  injection h with h
  subst h
  kernel_rfl
theorem fok_law30_CellsGets {g0 g1 g2 g3 g4 g5 g6 : List D → Option (List D)} {g : List D → Option (List D)} (h0 : FOk ct_ref30_Valid g0) (h1 : FOk ct_law30_awake g1) (h2 : FOk ct_cells_Get g2) (h3 : FOk ct_ref30_Get g3) (h4 : FOk ct_cells_Deref g4) (h5 : FOk ct_ref30_Deref g5) (h6 : FOk ct_ref03_Same g6) (h : ∀ ds outs, WfA ct_law30_CellsGets.ars ds → g ds = some outs → tree_law30_CellsGets.go (tblS [(ct_ref30_Valid, g0), (ct_law30_awake, g1), (ct_cells_Get, g2), (ct_ref30_Get, g3), (ct_cells_Deref, g4), (ct_ref30_Deref, g5), (ct_ref03_Same, g6)]) (fun o => o = outs) ds fun _ _ => False) : FOk ct_law30_CellsGets g :=
  fok_of ann_law30_CellsGets Try.f5 _ (.cons h0 (.cons h1 (.cons h2 (.cons h3 (.cons h4 (.cons h5 (.cons h6 .nil))))))) rfl rfl enter_law30_CellsGets (by decide) fun ds outs hw hg => by rw [code_law30_CellsGets g0 g1 g2 g3 g4 g5 g6 _ rfl]; exact h ds outs hw hg

end Go.Proofs.Ytinclokohcommaa
