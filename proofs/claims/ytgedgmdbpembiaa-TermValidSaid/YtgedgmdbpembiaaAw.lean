/-
  The chapter's examples: the law's function awake returns true, and changes nothing that was there before. No condition.
-/
import Derived.Test.YtgedgmdbpembiaaRc
namespace Go.Proofs.Ytgedgmdbpembiaa
open Go.RowKit
set_option linter.unusedVariables false

set_option maxRecDepth 100000 in
set_option maxHeartbeats 2000000 in
theorem awake_any (w : World) : Calls Try.prog 17 #[] w fun e w' => e = .returned (.bool true) ∧ But Nil w w' := by
  letI : Env := ⟨fun _ => zeroT, fun _ => 0⟩
  refine calls_body callT_ok [(_, _, _, 1), (_, _, _, 8), (_, _, _, 3), (_, _, _, 9), (_, _, _, 6), (_, _, _, 6), (_, _, _, 12), (_, _, _, 6), (_, _, _, 7), (_, _, _, 138)] (by kernel_rfl) Try.func17 rfl ?_ ?_
  · kernel_rfl
  · intro tmps w h
    simp [results, Try.results17, h]

end Go.Proofs.Ytgedgmdbpembiaa
