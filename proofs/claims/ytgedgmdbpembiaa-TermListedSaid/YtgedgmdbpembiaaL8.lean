/-
  The law TermLists: the walk. No condition.
-/
import Derived.Test.YtgedgmdbpembiaaLs
namespace Go.Proofs.Ytgedgmdbpembiaa
open Go.RowKit
set_option linter.unusedVariables false

theorem list_valid (l : List Tm) (t : Tm) : validT (listT l t) = true := by
  rw [list_eq]
  split
  · exact clone_valid _
  · exact zero_valid

theorem elems_valid (t : Tm) : (∀ x ∈ (elemsT t).1, validT x = true) ∧ validT (elemsT t).2 = true := by
  unfold elemsT
  split
  · exact ⟨fun x hx => by obtain ⟨y, -, rfl⟩ := List.mem_map.1 hx; exact clone_valid y, clone_valid _⟩
  · exact ⟨fun x hx => by simp at hx, zero_valid⟩

theorem elems_len (t : Tm) : (elemsT t).1.length ≤ 2000 := by
  cases hv : validT t with
  | false => simp [elemsT, hv]
  | true =>
    have h1 := (chain_valid hv _ (Nat.le_refl _)).2
    have h2 := valid_nodes hv
    rw [els_eq hv]
    omega

theorem sameAll_self {l : List Tm} (h : ∀ x ∈ l, validT x = true) : sameAllT l l = true := by
  simp only [sameAllT, decide_true, Bool.true_and, List.all_eq_true, List.mem_range]
  intro j hj
  have : l.getD j zeroT = l[j] := by simp [List.getD_eq_getElem?_getD, hj]
  rw [this]
  exact same_self (h _ (List.getElem_mem hj))

theorem ent_list [Env] {r n k : Nat} (hk : Env.T k = listT (Env.R r) (Env.T n)) : Entry 35 [.rtok r, .tok n] (.tok k) := ent_mk (fun _ _ => by kernel_rfl) fun p w vs hv => by
  match vs, hv with
  | [_, y], ⟨⟨A, cap, rfl, h1, h2, h3, h4⟩, hy, _⟩ =>
    rw [hk]
    exact makes_new (list_any (Env.R r) (Env.T n) A cap w y h1 h2 h3 (ArgsIn.at_w h4) (TmIn.at_w hy))

theorem ent_elems [Env] {n r k : Nat} (hr : Env.R r = (elemsT (Env.T n)).1) (hk : Env.T k = (elemsT (Env.T n)).2) : Entry 37 [.tok n] (.pair (.rtok r) (.tok k)) := ⟨fun _ _ => by kernel_rfl, fun p w vs hv => by
  match vs, hv with
  | [y], ⟨hy, _⟩ =>
    refine (elems_any (Env.T n) w y (TmIn.at_w hy)).mono ?_
    rintro e w' ⟨A, cap, u, rfl, h1, h2, h3, h4, h5, h6⟩
    refine ⟨_, pin0 p w, rfl, Ext.plain h6, _, _, rfl, ?_, ?_⟩
    · show RowAt (Env.R r) _ _ _
      rw [hr]
      exact ⟨A, cap, rfl, h1, by omega, h3, h4.pins⟩
    · show TmIn _ _ (Env.T k) _
      rw [hk]
      exact h5.pins⟩

theorem termLists_any (l : List Tm) (A : Option Addr) (cap : Nat) (tail : Tm) (y : Value) (t : Tm) (z : Value) (w : World) (h1 : l.length ≤ cap) (h2 : l.length ≤ 140737488351232) (h3 : cap ≤ maxLen) (h4 : ArgsAt w w.heap.size l A 0) (h : TmAt w w.heap.size tail y) (h' : TmAt w w.heap.size t z) :
    Calls Try.prog 8 #[.slice A l.length cap, y, z] w fun e w' => e = .returned (.bool true) ∧ But Nil w w' := by
  letI E : Env := { T := fun k => match k with | 0 => tail | 1 => t | 2 => listT l tail | _ => (elemsT t).2, R := fun k => match k with | 0 => l | _ => (elemsT t).1 }
  have ents : @Entries E [(35, [.rtok 0, .tok 0], .tok 2), (36, [.rtok 0, .tok 0], .tok 2), (37, [.tok 1], .pair (.rtok 1) (.tok 3)), (38, [.tok 1], .pair (.rtok 1) (.tok 3)),
      (39, [.rtok 1, .rtok 1], .val (.bool true)), (27, [.tok 2, .tok 2], .val (.bool true)), (27, [.tok 3, .tok 3], .val (.bool true)), (17, [], .val (.bool true))] :=
    ⟨ent_list rfl, entry_move (rlist_entry l tail) ⟨idd, idd, trivial⟩ idd, ent_elems rfl rfl, entry_move (relems_entry t) ⟨idd, trivial⟩ idd,
      entry_move (sameAll_entry (elemsT t).1 (elemsT t).1 (by have := elems_len t; omega)) ⟨idd, idd, trivial⟩ (by rw [sameAll_self (elems_valid t).1]; exact idd),
      ent_ttv (fun _ _ => by kernel_rfl) fun w y z h h' => same_self (list_valid l tail) ▸ lsame_any _ _ w y z h h', ent_ttv (fun _ _ => by kernel_rfl) fun w y z h h' => same_self (elems_valid t).2 ▸ lsame_any _ _ w y z h h', ent_0v (fun _ _ => by kernel_rfl) awake_any, trivial⟩
  have run : @Entry E 8 [.rtok 0, .tok 0, .tok 1] (.val (.bool true)) :=
    entry_code (tbl_ok ents) [.rtok 0, .tok 0, .tok 1] Try.func8 rfl (fun _ _ => by kernel_rfl) (by kernel_rfl) (by kernel_rfl) rfl rfl (by simp [Try.ntmps8])
  exact run.val (vs := [.slice A l.length cap, y, z]) ⟨⟨A, cap, rfl, h1, h2, h3, h4.fr⟩, h.fr, h'.fr, trivial⟩

end Go.Proofs.Ytgedgmdbpembiaa
