/-
  What every row of this program asks; numbers, strings and rows of terms opened. No condition.
-/
import Derived.Test.YtloekfnlidclcaaOp
import Derived.WalkKit
import Derived.ProofKit
import Derived.OpenShut
namespace Go.Proofs.Ytloekfnlidclcaa
open Go.ChangeShapes Go.WideShapes Go.ChangeAt Go.RowKit
set_option linter.unusedVariables false

theorem own_knob : ownKnob Try.prog.godebug = none := by kernel_rfl
theorem laid_out : laidOutB Try.prog = true := by kernel_rfl

section
variable {H : Type} {enc : TypeId × Value → H} {W : World} {base : Nat} {spare : Nat → Bool} {held : Bool}

theorem open_i64 {t : TypeId} (hu : Try.prog.underlying t = some (.int .i64)) {v : Value} {d : DataW H} {p : List MemPlace} {b0 : Nat} {r : Reach} (hv : Value.okWide Try.prog W r b0 t v) (h : DataW.Trod enc Try.prog W base spare held t v d p) : ∃ n, v = .int .i64 n ∧ wf64 n := by
  obtain ⟨n, e, -, -, hw⟩ := open_int hu hv h
  exact ⟨n, e, bounds_i64 hw⟩

theorem open_str {v : Value} {d : DataW H} {p : List MemPlace} {b0 : Nat} {r : Reach} (hv : Value.okWide Try.prog W r b0 9 v) (h : DataW.Trod enc Try.prog W base spare held 9 v d p) (hL : Light 9 d) : ∃ s, v = .string s ∧ s.size ≤ 140737488351232 := by
  obtain ⟨s, rfl⟩ := okWide_string Try.underlying9 hv
  obtain ⟨fuel, hf⟩ := h
  obtain ⟨s', e2, hx2, w2⟩ := DataW.trod_string Try.underlying9 hf
  simp only [Value.cells, List.cons.injEq, Value.string.injEq, and_true] at e2
  subst e2
  refine ⟨s, rfl, ?_⟩
  have hx : d = _ := (Prod.mk.inj hx2).1
  have := hL s.data.toList.length (by rw [hx]; simp [DataW.weights])
  rw [reach_eq] at this
  simpa using this

theorem open_row {v : Value} {d : DataW H} {p : List MemPlace} {b0 : Nat} {r : Reach} (hv : Value.okWide Try.prog W r b0 22 v) (h : DataW.Trod enc Try.prog W base spare held 22 v d p) (hL : Light 22 d) :
    ∃ A cap, ∃ l : List Tm, v = .slice A l.length cap ∧ l.length ≤ cap ∧ l.length ≤ 140737488351232 ∧ cap ≤ maxLen ∧ ArgsAt W W.heap.size l A 0 := by
  obtain ⟨A, len, cap, rfl⟩ := okWide_slice Try.underlying22 hv
  obtain ⟨fuel, hf⟩ := h
  obtain ⟨A', cap', l, e, h1, h2, h3, h4⟩ := (open_rec fuel).2 _ _ hf hL
  simp only [Value.cells, List.cons.injEq, Value.slice.injEq, and_true] at e
  obtain ⟨rfl, rfl, rfl⟩ := e
  exact ⟨A, cap, l, rfl, h1, h2, h3, ArgsIn.keeps (fun k o hk _ => ⟨hk, .inl (lt_of_heap hk)⟩) h4⟩
end
end Go.Proofs.Ytloekfnlidclcaa

