/-
  Same, in the program, in the reference and in the law: the walks.
-/
import Derived.Test.YtloekfnlidclcaaId
namespace Go.Proofs.Ytloekfnlidclcaa
open Go.RowKit
set_option linter.unusedVariables false

theorem eqL_refl_of : ∀ {l : List Tm}, (∀ a ∈ l, eqT a a = true) → eqL l l = true
  | [], _ => rfl
  | a :: l, h => by
    simp only [eqL, Bool.and_eq_true]
    exact ⟨h a List.mem_cons_self, eqL_refl_of fun b hb => h b (List.mem_cons_of_mem _ hb)⟩

theorem eqT_refl (t : Tm) : eqT t t = true := by
  induction t using Tm.ind with
  | h k n s l ih => simp [eqT, eqL_refl_of ih]

theorem eqL_of : ∀ {l l' : List Tm}, (∀ a ∈ l, ∀ u, eqT a u = true → a = u) → l.length = l'.length → eqL l l' = true → l = l'
  | [], [], _, _, _ => rfl
  | [], _ :: _, _, h, _ => by simp at h
  | _ :: _, [], _, h, _ => by simp at h
  | a :: l, b :: l', h, hl, he => by
    simp only [eqL, Bool.and_eq_true] at he
    rw [h a List.mem_cons_self b he.1, eqL_of (fun c hc => h c (List.mem_cons_of_mem _ hc)) (by simpa using hl) he.2]

theorem eqT_eq (t : Tm) : ∀ {u : Tm}, eqT t u = true → t = u := by
  induction t using Tm.ind with
  | h k n s l ih =>
    intro u h
    cases u with
    | mk k' n' s' l' =>
      simp only [eqT, Bool.and_eq_true, beq_iff_eq, decide_eq_true_eq] at h
      obtain ⟨⟨⟨⟨rfl, rfl⟩, rfl⟩, h4⟩, h5⟩ := h
      rw [eqL_of (fun a ha u => ih a ha) h4 h5]

theorem eqT_iff {t u : Tm} : eqT t u = true ↔ t = u := ⟨eqT_eq t, fun h => h ▸ eqT_refl t⟩

def sameT (t u : Tm) : Bool := validT t && validT u && eqT t u

end Go.Proofs.Ytloekfnlidclcaa

