/-
  The law TermAlike: the walk. No condition.
-/
import Derived.Test.YtgedgmdbpembiaaRt
namespace Go.Proofs.Ytgedgmdbpembiaa
open Go.RowKit
set_option linter.unusedVariables false

theorem termAlike_any (t : Tm) (y : Value) (u : Tm) (z : Value) (w : World) (h : TmAt w w.heap.size t y) (h' : TmAt w w.heap.size u z) : Calls Try.prog 4 #[y, z] w fun e w' => e = .returned (.bool true) ∧ But Nil w w' := by
  letI : Env := { T := fun n => match n with | 0 => t | _ => u }
  have ents : ∀ b c, sameT t u = b → variantT t u = c → Entries [(18, [.tok 0, .tok 1], .val (.bool b)), (19, [.tok 0, .tok 1], .val (.bool b)), (20, [.tok 0, .tok 1], .val (.bool c)), (21, [.tok 0, .tok 1], .val (.bool c)), (17, [], .val (.bool true))] := fun b c hb hc =>
    ⟨ent_ttv (fun _ _ => by kernel_rfl) fun w y z h h' => hb ▸ same_any t u w y z h h', ent_ttv (fun _ _ => by kernel_rfl) fun w y z h h' => hb ▸ rsame_any t u w y z h h', ent_ttv (fun _ _ => by kernel_rfl) fun w y z h h' => hc ▸ variant_any t u w y z h h', ent_ttv (fun _ _ => by kernel_rfl) fun w y z h h' => hc ▸ rvariant_any t u w y z h h',
      ent_0v (fun _ _ => by kernel_rfl) awake_any, trivial⟩
  have run : ∀ b c, sameT t u = b → variantT t u = c → Entry 4 [.tok 0, .tok 1] (.val (.bool true)) := fun b c hb hc => by
    cases b <;> cases c <;>
      exact entry_code (tbl_ok (ents _ _ hb hc)) [.tok 0, .tok 1] Try.func4 rfl (fun _ _ => by kernel_rfl) (by kernel_rfl) (by kernel_rfl) rfl rfl (by simp [Try.ntmps4])
  exact (run _ _ rfl rfl).val (vs := [y, z]) ⟨h.fr, h'.fr, trivial⟩

end Go.Proofs.Ytgedgmdbpembiaa
