/-
  The law BallsKinds: the walk. No condition.
-/
import Derived.Test.YtloekfnlidclcaaBf
namespace Go.Proofs.Ytloekfnlidclcaa
open Go.RowKit
set_option linter.unusedVariables false

theorem inst_valid : validT instT = true := by rw [inst_eq]; exact clone_valid _

theorem about1_valid (f n : ByteArray) (c : Tm) (hf : (f.size : Int) ≤ 100) : validT (aboutT f [n] c) = true := by
  rw [about_with hf (by simp)]
  unfold withR
  split
  · exact clone_valid _
  · exact zero_valid

theorem check_valid (bad : Bool) (ty : ByteArray) (t : Tm) : validT (checkT bad ty t) = true := by
  unfold checkT
  split
  · split
    · exact inst_valid
    · split
      · exact about1_valid _ _ _ (by decide)
      · exact zero_valid
  · exact zero_valid

theorem ballsKinds_any (t : Tm) (y : Value) (w : World) (h : TmAt w w.heap.size t y) : Calls Try.prog 10 #[y] w fun e w' => e = .returned (.bool true) ∧ But Nil w w' := by
  letI E : Env := { T := fun k => match k with | 0 => t | 1 => checkT (badAtom t) sAtom t | 2 => checkT (badInt t) sInteger t | 3 => checkT (badCallable t) sCallable t | _ => checkT (badAtomic t) sAtomic t, S := fun _ => strAtom t, I := fun _ => numInt t }
  have run : ∀ b1 b2 b3 b4, checkB (badAtom t) t = b1 → checkB (badInt t) t = b2 → checkB (badCallable t) t = b3 → checkB (badAtomic t) t = b4 → @Entry E 10 [.tok 0] (.val (.bool true)) := fun b1 b2 b3 b4 h1 h2 h3 h4 => by
    have s : ∀ (k : Nat) u, E.T k = u → validT u = true → @Entry E 14 [.tok k, .tok k] (.val (.bool true)) := fun k u hk hv => ent_lsame (t := E.T k) (u := E.T k) idd idd (by rw [hk]; exact same_self hv)
    have ents : @Entries E [(53, [.tok 0], .tup3 (.stok 0) (.tok 1) (.val (.bool b1))), (54, [.tok 0], .tup3 (.stok 0) (.tok 1) (.val (.bool b1))),
        (55, [.tok 0], .tup3 (.vtok 0) (.tok 2) (.val (.bool b2))), (56, [.tok 0], .tup3 (.vtok 0) (.tok 2) (.val (.bool b2))),
        (57, [.tok 0], .pair (.tok 3) (.val (.bool b3))), (58, [.tok 0], .pair (.tok 3) (.val (.bool b3))),
        (59, [.tok 0], .pair (.tok 4) (.val (.bool b4))), (60, [.tok 0], .pair (.tok 4) (.val (.bool b4))),
        (14, [.tok 1, .tok 1], .val (.bool true)), (14, [.tok 2, .tok 2], .val (.bool true)), (14, [.tok 3, .tok 3], .val (.bool true)), (14, [.tok 4, .tok 4], .val (.bool true)), (15, [], .val (.bool true))] :=
      ⟨entry_move (pAtom_entry t) ⟨idd, trivial⟩ (tup3_imp (stok_eq rfl) (ide (tok_eq rfl)) (val_eq h1)), entry_move (rAtom_entry t) ⟨idd, trivial⟩ (tup3_imp (stok_eq rfl) (ide (tok_eq rfl)) (val_eq h1)),
        entry_move (pInt_entry t) ⟨idd, trivial⟩ (tup3_imp (vtok_eq rfl) (ide (tok_eq rfl)) (val_eq h2)), entry_move (rInt_entry t) ⟨idd, trivial⟩ (tup3_imp (vtok_eq rfl) (ide (tok_eq rfl)) (val_eq h2)),
        entry_move (pCallable_entry t) ⟨idd, trivial⟩ (pair_imp (ide (tok_eq rfl)) (val_eq h3)), entry_move (rCallable_entry t) ⟨idd, trivial⟩ (pair_imp (ide (tok_eq rfl)) (val_eq h3)),
        entry_move (pAtomic_entry t) ⟨idd, trivial⟩ (pair_imp (ide (tok_eq rfl)) (val_eq h4)), entry_move (rAtomic_entry t) ⟨idd, trivial⟩ (pair_imp (ide (tok_eq rfl)) (val_eq h4)),
        s 1 _ rfl (check_valid _ _ _), s 2 _ rfl (check_valid _ _ _), s 3 _ rfl (check_valid _ _ _), s 4 _ rfl (check_valid _ _ _), entry_move awake6_entry trivial idd, trivial⟩
    cases b1 <;> cases b2 <;> cases b3 <;> cases b4 <;>
      exact entry_facts (E := E) [.seq (.tok 0) (.tok 0) true, .rel .eq (.tok 0) (.tok 0) true] ⟨by show decide (strAtom t = strAtom t) = true; simp, by show (numInt t == numInt t) = true; simp, trivial⟩ (tbl_ok ents) [.tok 0] Try.func10 rfl (fun _ _ => by kernel_rfl) (by kernel_rfl) rfl rfl (by simp [Try.ntmps10])
  exact (run _ _ _ _ rfl rfl rfl rfl).val (vs := [y]) ⟨h.fr, trivial⟩

end Go.Proofs.Ytloekfnlidclcaa

