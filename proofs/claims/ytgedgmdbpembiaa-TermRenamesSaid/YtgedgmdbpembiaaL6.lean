/-
  The law TermRenames: the walk. No condition.
-/
import Derived.Test.YtgedgmdbpembiaaRr
namespace Go.Proofs.Ytgedgmdbpembiaa
open Go.RowKit
set_option linter.unusedVariables false

theorem termRenames_any (t : Tm) (y : Value) (n : Int) (w : World) (h : TmAt w w.heap.size t y) (wn : wf64 n) : Calls Try.prog 6 #[y, .int .i64 n] w fun e w' => e = .returned (.bool true) ∧ But Nil w w' := by
  letI E : Env := EnvR t n (varsT t) 0
  have ents : @Entries E [(31, [.tok 0, .vtok 0], .pair (.tok 1) (.vtok 6)), (32, [.tok 0, .vtok 0], .pair (.tok 1) (.vtok 6)), (27, [.tok 1, .tok 1], .val (.bool true)), (17, [], .val (.bool true))] :=
    ⟨⟨fun _ _ => by kernel_rfl, fun p w vs hv => by
      match vs, hv with
      | [y, _], ⟨hy, rfl, _⟩ => exact (rename_any t n w y (TmIn.at_w hy)).mono fun e w' ⟨u, he, ht, hb⟩ => ⟨_, pin0 p w, he, Ext.plain hb, u, _, rfl, ht.pins, rfl⟩⟩,
      rrename_entry t n, ent_ttv (fun _ _ => by kernel_rfl) fun w y z h h' => same_self (rename_valid t n) ▸ lsame_any _ _ w y z h h', ent_0v (fun _ _ => by kernel_rfl) awake_any, trivial⟩
  have run : @Entry E 6 [.tok 0, .vtok 0] (.val (.bool true)) :=
    entry_code (tbl_ok ents) [.tok 0, .vtok 0] Try.func6 rfl (fun _ _ => by kernel_rfl) (by kernel_rfl) (by kernel_rfl) rfl rfl (by simp [Try.ntmps6])
  exact run.val (vs := [y, .int .i64 n]) ⟨h.fr, rfl, trivial⟩

end Go.Proofs.Ytgedgmdbpembiaa
