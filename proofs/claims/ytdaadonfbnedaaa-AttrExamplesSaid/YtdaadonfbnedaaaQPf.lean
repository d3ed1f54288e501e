/-
 The law AttrExamples is true: the row.
-/
import Derived.Test.YtdaadonfbnedaaaKh
namespace Go.Proofs.Ytdaadonfbnedaaa
open Go.ChangeShapes Go.WideShapes Go.ChangeAt Go.RowKit
set_option linter.unusedVariables false

set_option maxRecDepth 100000 in
theorem attrExamples_lifted (os : Os) (started : os.Started) (H : Type) (enc : TypeId × Value → H) :
  ReturnsInHanded {} Try.checked os 4 .any (Rows.attrExamplesSpec.pre6 enc Try.prog Try.f4 Rows.attrExamplesRow.domain false) (Rows.attrExamplesSpec.post enc Try.prog Try.f4 false true false false) := by
 refine returnsInHanded_of_change_sized (C := Try.checked) z31 started (by kernel_rfl) Try.func4
  (ChangeSpec.witness6 (enc := enc) (C := Try.checked) false ⟨#[], #[], []⟩ 8 (by kernel_rfl) (by kernel_rfl) (by kernel_rfl) (by kernel_rfl)) ?_
 intro W base args ds gs before hval0 hW hcnd hsz _
 have hval : ∀ (j : Nat) t v, Try.f4.params[j]? = some t → args[j]? = some v → Value.okWide Try.prog W .any base t v := hval0
 have hW' := hW
 obtain ⟨p, q, hA0, hV, rfl, hfz, hnd⟩ := hW
 have hA : DataW.TrodAll enc Try.prog W 0 (fun _ => true) true Try.f4.params.toList args.toList ds p := hA0
 have hsz' := List.all_eq_true.1 hsz
 rw [Try.params4] at hA hval
 obtain ⟨hargs, rfl, rfl⟩ := trodAll_nil hA
 obtain rfl : args = #[] := by cases args; simp_all
 obtain ⟨rfl, rfl⟩ := trodVars_none hV
 clear hA0 hval0
 have mono : ∀ b, b < W.heap.size → b < W.heap.size → FFD (fun _ => True) (fun _ => none) [] b := fun b _ _ => .inl ⟨trivial, fun x h => by cases h⟩
 have hcall := z2x qi1 rfl rfl (W := W) (vs := []) (ds := []) ⟨rfl, rfl⟩ rfl
 refine Calls.mono hcall fun e W' ⟨he, hb⟩ => ?_
 subst he
 have hbel := hb.below
 refine ⟨_, rfl, ?_⟩
 refine ⟨[], [], [], [], [], [], by simpa using hW', trodAll_cons_mk (shut_bool Try.underlying4 _) trodAll_mk0, trodAll_mk0, rfl, ?_, fun h => by cases h⟩
 exact World.keptBut_mono (fun p hp => ⟨hp, .inr (.inl hp)⟩) (hbel.frame _)

theorem attrExamples_proved : Rows.AttrExamplesSaid :=
 OpenClaim.holds_of_wide 4 Try.f4 rfl rfl rfl rfl rfl rfl rfl ⟨rfl, rfl, rfl, rfl, rfl⟩ rfl rfl rfl rfl rfl (by kernel_rfl) Try.func4 (by kernel_rfl)
  (of_decide_eq_true (by kernel_rfl)) (by unfold Func.isWrapper; first | (rw [if_pos (by decide +kernel)]; kernel_rfl) | (rw [if_neg (by decide +kernel)]; exact ⟨rfl, rfl⟩))
  (fun os started H enc _ => attrExamples_lifted os started H enc)

end Go.Proofs.Ytdaadonfbnedaaa
