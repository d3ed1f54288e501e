/-
  Plain facts on terms: equal terms, copies, what is made. No condition.
-/
import Derived.Test.YtgedgmdbpembiaaMi
namespace Go.Proofs.Ytgedgmdbpembiaa
open Go.RowKit
set_option linter.unusedVariables false

theorem same_self {t : Tm} (h : validT t = true) : sameT t t = true := by simp [sameT, h, eqT_refl]

theorem zero_valid : validT zeroT = true := by simp [zeroT, validT, fitsT, fitsL, nodeB, sizeT, leftT, leftL]

theorem clone_valid (t : Tm) : validT (cloneT t) = true := by
  unfold cloneT
  split
  · assumption
  · exact zero_valid

theorem same_clone (t : Tm) : sameT (cloneT t) (cloneT t) = true := same_self (clone_valid t)

theorem var_clone (n : Int) : varT n = cloneT (.mk 0 n ⟨#[]⟩ []) := by
  unfold varT cloneT numB
  have h : validT (.mk 0 n ⟨#[]⟩ []) = (decide (0 ≤ n) && decide (n ≤ 1099511627776)) := by
    simp [validT, fitsT, fitsL, nodeB, sizeT, leftT, leftL]
  rw [h]

theorem int_valid (n : Int) : validT (intT n) = true := by simp [intT, validT, fitsT, fitsL, nodeB, sizeT, leftT, leftL]

theorem atom_valid (s : ByteArray) : validT (atomT s) = true := clone_valid _
theorem struct_valid (s : ByteArray) (l : List Tm) : validT (structT s l) = true := by
  unfold structT
  split
  · exact clone_valid _
  · exact clone_valid _

theorem ind_rind (s : ByteArray) (n : Int) : indT s n = rindT s n := by
  unfold indT rindT indOk
  by_cases hn : 0 ≤ n ∧ n ≤ 8
  · rw [if_pos hn]
    by_cases hs : (s.size : Int) ≤ 100
    · rw [if_pos (by simp [hn, hs])]
      have : atomT s = .mk 2 0 s [] := by
        unfold atomT cloneT
        rw [if_pos (by simp [validT, fitsT, fitsL, nodeB, sizeT, leftT, leftL, hs])]
      rw [this]
      rfl
    · rw [if_neg (by simp [hn, hs])]
      unfold cloneT
      rw [if_neg]
      simp [validT, fitsT, fitsL, nodeB, hs]
  · rw [if_neg hn, if_neg]
    intro h
    simp only [Bool.and_eq_true, decide_eq_true_eq] at h
    exact hn h.2

theorem rind_valid (s : ByteArray) (n : Int) : validT (rindT s n) = true := by
  unfold rindT
  split
  · exact clone_valid _
  · exact zero_valid

section
variable [Env]

/-- A function that makes a numbered term of knowns. -/
theorem ent_mk {f : FuncId} {l : List Ab} {k : Nat} (hen : ∀ args w, (callFunc f args).run Try.prog w = .ok (.enter f args) w) (h : ∀ p w vs, Args p w l vs → MakesT f vs.toArray p w (Env.T k)) : Entry f l (.tok k) := ⟨hen, h⟩

omit [Env] in
theorem makes_new {f : FuncId} {args : Array Value} {p : Nat → Option Nat} {w : World} {u : Tm} (h : Calls Try.prog f args w fun e w' => ∃ x, e = .returned x ∧ TmNew w' w.heap.size u x ∧ But Nil w w') : MakesT f args p w u :=
  h.mono fun _ _ ⟨x, he, ht, hb⟩ => ⟨x, pin0 p w, he, Ext.plain hb, ht.pins⟩
end

end Go.Proofs.Ytgedgmdbpembiaa
