/-
  The law TrailExamples on data. No condition.
-/
import Derived.Test.YtcjapglipkmbhaaZe
namespace Go.Proofs.Ytcjapglipkmbhaa
open Go.RowKit
set_option linter.unusedVariables false

def ct_law31_TrailExamples : Ct := ⟨4, [], [(.bool, false)], []⟩
theorem enter_law31_TrailExamples (args : Array Value) (w : World) : (callFunc ct_law31_TrailExamples.f args).run Try.prog w = .ok (.enter ct_law31_TrailExamples.f args) w := by kernel_rfl
def ann_law31_TrailExamples : Ann := ⟨[0, 1, 2, 3, 4, 5, 6], []⟩
set_option maxRecDepth 100000 in
theorem law_TrailExamples : FOk ct_law31_TrailExamples gYes := fok_of ann_law31_TrailExamples Try.f4 _ (.cons ok_law31_three (.cons ok_law31_ref (.cons ok_trail_Set (.cons ok_trail_Mark (.cons ok_law31_num (.cons ok_trail_Undo (.cons ok_trail_Tidy (.cons ok_law31_awake .nil)))))))) rfl rfl enter_law31_TrailExamples (by decide) fun ds outs hw hg => by
  obtain rfl : ds = [] := hw
  simp only [gYes, Option.some.injEq] at hg
  subst hg
  exact go_denF (fuel := 1) (by kernel_rfl)
end Go.Proofs.Ytcjapglipkmbhaa
