/-
  The chapter's examples: the law's function awake returns true, and changes nothing that was there before. No condition.
-/
import Derived.Test.YtgedgmdbpembiaaRc
namespace Go.Proofs.Ytgedgmdbpembiaa
open Go.RowKit
set_option linter.unusedVariables false

set_option maxRecDepth 100000 in
set_option maxHeartbeats 2000000 in
theorem awake_any (w : World) : Calls Try.prog 17 #[] w fun e w' => e = .returned (.bool true) ∧ But Nil w w' := by
  letI : Env := { T := fun _ => zeroT }
  have h : Entry 17 [] (.val (.bool true)) := entry_code callT_ok [] Try.func17 rfl (fun _ _ => by kernel_rfl) (by kernel_rfl) (by kernel_rfl) rfl rfl (by simp)
  exact h.val (vs := []) trivial

end Go.Proofs.Ytgedgmdbpembiaa
