/-
  The law TermMakes: the walk. No condition.
-/
import Derived.Test.YtgedgmdbpembiaaPv
namespace Go.Proofs.Ytgedgmdbpembiaa
open Go.RowKit
set_option linter.unusedVariables false

theorem termMakes_any (n : Int) (s : ByteArray) (l : List Tm) (A : Option Addr) (cap : Nat) (w : World) (wn : wf64 n) (ws : s.size ≤ 140737488351232) (h1 : l.length ≤ cap) (h2 : l.length ≤ 140737488351232) (h3 : cap ≤ maxLen) (h4 : ArgsAt w w.heap.size l A 0) :
    Calls Try.prog 12 #[.int .i64 n, .string s, .slice A l.length cap] w fun e w' => e = .returned (.bool true) ∧ But Nil w w' := by
  letI : Env := { T := fun k => match k with | 0 => structT s l | 1 => cloneT (.mk 0 n ⟨#[]⟩ []) | 2 => intT n | 3 => atomT s | _ => rindT s n, I := fun _ => n, S := fun _ => s, R := fun _ => l }
  have ents : Entries [(42, [.stok 0, .rtok 0], .tok 0), (48, [.stok 0, .rtok 0], .tok 0), (40, [.vtok 0], .tok 1), (43, [.vtok 0], .tok 1),
      (44, [.vtok 0], .tok 2), (45, [.vtok 0], .tok 2), (46, [.stok 0], .tok 3), (47, [.stok 0], .tok 3),
      (49, [.stok 0, .vtok 0], .tok 4), (50, [.stok 0, .vtok 0], .tok 4),
      (27, [.tok 0, .tok 0], .val (.bool true)), (27, [.tok 1, .tok 1], .val (.bool true)), (27, [.tok 2, .tok 2], .val (.bool true)),
      (27, [.tok 3, .tok 3], .val (.bool true)), (27, [.tok 4, .tok 4], .val (.bool true)), (17, [], .val (.bool true))] := by
    refine ⟨ent_mk (fun _ _ => by kernel_rfl) fun p w vs hv => ?_, ent_mk (fun _ _ => by kernel_rfl) fun p w vs hv => ?_, ent_mk (fun _ _ => by kernel_rfl) fun p w vs hv => ?_, ent_mk (fun _ _ => by kernel_rfl) fun p w vs hv => ?_,
      ent_mk (fun _ _ => by kernel_rfl) fun p w vs hv => ?_, ent_mk (fun _ _ => by kernel_rfl) fun p w vs hv => ?_, ent_mk (fun _ _ => by kernel_rfl) fun p w vs hv => ?_, ent_mk (fun _ _ => by kernel_rfl) fun p w vs hv => ?_,
      ent_mk (fun _ _ => by kernel_rfl) fun p w vs hv => ?_, ent_mk (fun _ _ => by kernel_rfl) fun p w vs hv => ?_,
      ent_ttv (fun _ _ => by kernel_rfl) fun w y z h h' => same_self (struct_valid s l) ▸ lsame_any _ _ w y z h h', ent_ttv (fun _ _ => by kernel_rfl) fun w y z h h' => same_clone (.mk 0 n ⟨#[]⟩ []) ▸ lsame_any _ _ w y z h h', ent_ttv (fun _ _ => by kernel_rfl) fun w y z h h' => same_self (int_valid n) ▸ lsame_any _ _ w y z h h',
      ent_ttv (fun _ _ => by kernel_rfl) fun w y z h h' => same_self (atom_valid s) ▸ lsame_any _ _ w y z h h', ent_ttv (fun _ _ => by kernel_rfl) fun w y z h h' => same_self (rind_valid s n) ▸ lsame_any _ _ w y z h h', ent_0v (fun _ _ => by kernel_rfl) awake_any, trivial⟩
    · match vs, hv with
      | [_, _], ⟨rfl, ⟨A, cap, rfl, h1, h2, h3, h4⟩, _⟩ => exact makes_new (struct_any s l A cap w ws h1 h2 h3 (ArgsIn.at_w h4))
    · match vs, hv with
      | [_, _], ⟨rfl, ⟨A, cap, rfl, h1, h2, h3, h4⟩, _⟩ => exact mstruct_any s l A cap p w ws h1 h2 h3 h4
    · match vs, hv with
      | [_], ⟨rfl, _⟩ =>
        have h := makes_new (p := p) (var_any n w wn)
        rw [var_clone] at h
        exact h
    · match vs, hv with
      | [_], ⟨rfl, _⟩ => exact mvar_any n p w wn
    · match vs, hv with
      | [_], ⟨rfl, _⟩ => exact makes_new (int_any n w wn)
    · match vs, hv with
      | [_], ⟨rfl, _⟩ => exact mint_any n p w wn
    · match vs, hv with
      | [_], ⟨rfl, _⟩ => exact makes_new (atom_any s w ws)
    · match vs, hv with
      | [_], ⟨rfl, _⟩ => exact matom_any s p w ws
    · match vs, hv with
      | [_, _], ⟨rfl, rfl, _⟩ =>
        have h := makes_new (p := p) (ind_any s n w ws wn)
        rw [ind_rind] at h
        exact h
    · match vs, hv with
      | [_, _], ⟨rfl, rfl, _⟩ => exact mind_any s n p w ws wn
  have run : Entry 12 [.vtok 0, .stok 0, .rtok 0] (.val (.bool true)) :=
    entry_code (tbl_ok ents) [.vtok 0, .stok 0, .rtok 0] Try.func12 rfl (fun _ _ => by kernel_rfl) (by kernel_rfl) (by kernel_rfl) rfl rfl (by simp [Try.ntmps12])
  exact run.val (vs := [.int .i64 n, .string s, .slice A l.length cap]) ⟨rfl, rfl, ⟨A, cap, rfl, h1, h2, h3, h4.fr⟩, trivial⟩

end Go.Proofs.Ytgedgmdbpembiaa
