/-
  The law TermReplaces: the walk. No condition.
-/
import Derived.Test.YtgedgmdbpembiaaRq
namespace Go.Proofs.Ytgedgmdbpembiaa
open Go.RowKit
set_option linter.unusedVariables false

theorem termReplaces_any (t : Tm) (y : Value) (v : Int) (by_ : Tm) (z : Value) (w : World) (h : TmAt w w.heap.size t y) (wv : wf64 v) (h' : TmAt w w.heap.size by_ z) : Calls Try.prog 7 #[y, .int .i64 v, z] w fun e w' => e = .returned (.bool true) ∧ But Nil w w' := by
  letI E : Env := EnvP t v by_
  have ents : @Entries E [(33, [.tok 0, .vtok 0, .tok 1], .pair (.tok 2) (.vtok 7)), (34, [.tok 0, .vtok 0, .tok 1], .pair (.tok 2) (.vtok 7)), (27, [.tok 2, .tok 2], .val (.bool true)), (17, [], .val (.bool true))] :=
    ⟨⟨fun _ _ => by kernel_rfl, fun p w vs hv => by
      match vs, hv with
      | [y, _, z], ⟨hy, rfl, hz, _⟩ => exact (replace_any t by_ v w y z (TmIn.at_w hy) (TmIn.at_w hz)).mono fun e w' ⟨u, he, ht, hb⟩ => ⟨_, pin0 p w, he, Ext.plain hb, u, _, rfl, ht.pins, rfl⟩⟩,
      rreplace_entry t v by_ wv, ent_ttv (fun _ _ => by kernel_rfl) fun w y z h h' => same_self (replace_valid t v by_) ▸ lsame_any _ _ w y z h h', ent_0v (fun _ _ => by kernel_rfl) awake_any, trivial⟩
  have run : @Entry E 7 [.tok 0, .vtok 0, .tok 1] (.val (.bool true)) :=
    entry_code (tbl_ok ents) [.tok 0, .vtok 0, .tok 1] Try.func7 rfl (fun _ _ => by kernel_rfl) (by kernel_rfl) (by kernel_rfl) rfl rfl (by simp [Try.ntmps7])
  exact run.val (vs := [y, .int .i64 v, z]) ⟨h.fr, rfl, h'.fr, trivial⟩

end Go.Proofs.Ytgedgmdbpembiaa
