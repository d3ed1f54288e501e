/-
  The law TermValid: the walk. No condition.
-/
import Derived.Test.YtgedgmdbpembiaaTb
namespace Go.Proofs.Ytgedgmdbpembiaa
open Go.RowKit
set_option linter.unusedVariables false

set_option maxRecDepth 100000 in
set_option maxHeartbeats 2000000 in
theorem termValid_any (t : Tm) (w : World) (y : Value) (h : TmAt w w.heap.size t y) : Calls Try.prog 3 #[y] w fun e w' => e = .returned (.bool true) ∧ But Nil w w' := by
  letI : Env := ⟨fun _ => t, fun _ => sizeT t⟩
  have run : ∀ b, validT t = b → outOf 2 (runBody (tbl [(13, [.tok 0], .val (.bool b)), (14, [.tok 0], .val (.bool b)), (15, [.tok 0], .vtok 0), (16, [.tok 0], .vtok 0), (17, [], .val (.bool true))])
      Try.f3.ntmps (idxd 0 [.tok 0]) _) = some (.val (.bool true)) → Calls Try.prog 3 #[y] w fun e w' => e = .returned (.bool true) ∧ But Nil w w' := fun b hb hr => by
    refine calls_facts (vs := [y]) (tbl_ok ?_) 2 [.tok 0] [(_, _, _, 2), (_, _, _, 16)] (by kernel_rfl) Try.func3 rfl ⟨h.fr, trivial⟩ (by simp [Try.ntmps3]) hr (fun tmps w h => by simp [results, Try.results3, h])
    exact ⟨ent_tv (fun _ _ => by kernel_rfl) fun w y h => hb ▸ valid_any t w y h, ent_tv (fun _ _ => by kernel_rfl) fun w y h => hb ▸ rvalid_any t w y h, ent_ti (fun _ _ => by kernel_rfl) fun w y h => size_any t w y h, ent_ti (fun _ _ => by kernel_rfl) fun w y h => rsize_any t w y h,
      ent_0v (fun _ _ => by kernel_rfl) awake_any, trivial⟩
  cases hb : validT t
  · exact run _ hb (by kernel_rfl)
  · exact run _ hb (by kernel_rfl)

end Go.Proofs.Ytgedgmdbpembiaa
