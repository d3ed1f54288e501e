/-
  The reference's functions without loops: Same, Clone, valid, Variant; the law's same. No condition.
-/
import Derived.Test.YtgedgmdbpembiaaTb
import Derived.Test.YtgedgmdbpembiaaNb
namespace Go.Proofs.Ytgedgmdbpembiaa
open Go.RowKit
set_option linter.unusedVariables false

/-- What a term's reader answers. -/
abbrev Says2 (f : FuncId) (b : Tm → Tm → Bool) : Prop := ∀ (t u : Tm) (w : World) (y z : Value), TmAt w w.heap.size t y → TmAt w w.heap.size u z → Calls Try.prog f #[y, z] w fun e w' => e = .returned (.bool (b t u)) ∧ But Nil w w'

theorem rsame_any : Says2 19 sameT := by
  intro t u w y z hy hz
  letI : Env := { T := fun n => match n with | 0 => t | _ => u }
  have ents : ∀ b c d, validT t = b → validT u = c → eqT t u = d → Entries [(14, [.tok 0], .val (.bool b)), (14, [.tok 1], .val (.bool c)), (59, [.tok 0, .tok 1], .val (.bool d))] := fun b c d hb hc hd =>
    ⟨ent_tv (fun _ _ => by kernel_rfl) fun w y h => hb ▸ rvalid_any t w y h, ent_tv (fun _ _ => by kernel_rfl) fun w y h => hc ▸ rvalid_any u w y h, ent_ttv (fun _ _ => by kernel_rfl) fun w y z h h' => hd ▸ rident_any t u w y z h h', trivial⟩
  have run : ∀ b c d, validT t = b → validT u = c → eqT t u = d → Entry 19 [.tok 0, .tok 1] (.val (.bool (b && c && d))) := fun b c d hb hc hd => by
    cases b <;> cases c <;> cases d <;>
      exact entry_code (tbl_ok (ents _ _ _ hb hc hd)) [.tok 0, .tok 1] Try.func19 rfl (fun _ _ => by kernel_rfl) (by kernel_rfl) (by kernel_rfl) rfl rfl (by simp [Try.ntmps19])
  exact (run _ _ _ rfl rfl rfl).val (vs := [y, z]) ⟨hy.fr, hz.fr, trivial⟩

theorem lsame_any : Says2 27 sameT := by
  intro t u w y z hy hz
  letI : Env := { T := fun n => match n with | 0 => t | _ => u }
  have run : Entry 27 [.tok 0, .tok 1] (.val (.bool (sameT t u))) :=
    entry_code (tbl_ok (T := [(19, [.tok 0, .tok 1], .val (.bool (sameT t u)))]) ⟨ent_ttv (fun _ _ => by kernel_rfl) fun w y z h h' => rsame_any t u w y z h h', trivial⟩) [.tok 0, .tok 1] Try.func27 rfl (fun _ _ => by kernel_rfl) (by kernel_rfl) (by kernel_rfl) rfl rfl (by simp [Try.ntmps27])
  exact run.val (vs := [y, z]) ⟨hy.fr, hz.fr, trivial⟩

end Go.Proofs.Ytgedgmdbpembiaa
