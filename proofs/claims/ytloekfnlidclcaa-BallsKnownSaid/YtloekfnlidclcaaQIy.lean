/-
  The law BallsKnown is true: the row.
-/
import Derived.Test.YtloekfnlidclcaaKd
import Derived.Test.YtloekfnlidclcaaQVg
namespace Go.Proofs.Ytloekfnlidclcaa
open Go.ChangeShapes Go.WideShapes Go.ChangeAt Go.RowKit
set_option linter.unusedVariables false

set_option maxRecDepth 100000 in
theorem ballsKnown_lifted (os : Os) (started : os.Started) (H : Type) (enc : TypeId × Value → H) :
    ReturnsInHanded {} Try.checked os 9 .any (Rows.ballsKnownSpec.pre6 enc Try.prog Try.f9 Rows.ballsKnownRow.domain false) (Rows.ballsKnownSpec.post enc Try.prog Try.f9 false true false false) := by
  refine returnsInHanded_of_change_sized (C := Try.checked) own_knobD started (by kernel_rfl) Try.func9
    (ChangeSpec.witness6 (enc := enc) (C := Try.checked) false ⟨#[], #[], []⟩ 8 (by kernel_rfl) (by kernel_rfl) (by kernel_rfl) (by kernel_rfl)) ?_
  intro W base args ds gs before hval0 hW hcnd hsz _
  have hval : ∀ (j : Nat) t v, Try.f9.params[j]? = some t → args[j]? = some v → Value.okWide Try.prog W .any base t v := hval0
  have hW' := hW
  obtain ⟨p, q, hA0, hV, rfl, hfz, hnd⟩ := hW
  have hA : DataW.TrodAll enc Try.prog W 0 (fun _ => true) true Try.f9.params.toList args.toList ds p := hA0
  have hsz' := List.all_eq_true.1 hsz
  rw [Try.params9] at hA hval
  obtain ⟨hargs, rfl, rfl⟩ := trodAll_nil hA
  obtain rfl : args = #[] := by cases args; simp_all
  obtain ⟨rfl, rfl⟩ := trodVars_none hV
  clear hA0 hval0
  have mono : ∀ b, b < W.heap.size → b < W.heap.size → FFD (fun _ => True) (fun _ => none) [] b := fun b _ _ => .inl ⟨trivial, fun x h => by cases h⟩
  have hcall := law_calls law_BallsKnown rfl rfl (W := W) (vs := []) (ds := []) ⟨rfl, rfl⟩ rfl
  refine Calls.mono hcall fun e W' ⟨he, hb⟩ => ?_
  subst he
  have hbel := hb.below
  refine ⟨_, rfl, ?_⟩
  refine ⟨[], [], [], [], [], [], by simpa using hW', trodAll_cons_mk (shut_bool Try.underlying4 _) trodAll_mk0, trodAll_mk0, rfl, ?_, fun h => by cases h⟩
  exact World.keptBut_mono (fun p hp => ⟨hp, .inr (.inl hp)⟩) (hbel.frame _)

theorem ballsKnown_proved : Rows.BallsKnownSaid :=
  OpenClaim.holds_of_wide 9 Try.f9 rfl rfl rfl rfl rfl rfl rfl ⟨rfl, rfl, rfl, rfl, rfl⟩ rfl rfl rfl rfl rfl (by kernel_rfl) Try.func9 (by kernel_rfl)
    (of_decide_eq_true (by kernel_rfl)) (by unfold Func.isWrapper; first | (rw [if_pos (by decide +kernel)]; kernel_rfl) | (rw [if_neg (by decide +kernel)]; exact ⟨rfl, rfl⟩))
    (fun os started H enc _ => ballsKnown_lifted os started H enc)

end Go.Proofs.Ytloekfnlidclcaa
