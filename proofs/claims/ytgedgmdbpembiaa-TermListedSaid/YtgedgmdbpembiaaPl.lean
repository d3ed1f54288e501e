/-
  Plain laws on terms: the number of nodes. No Go in sight.
-/
import Derived.Test.YtgedgmdbpembiaaVa
namespace Go.Proofs.Ytgedgmdbpembiaa
open Go.RowKit
set_option linter.unusedVariables false

mutual
def nodesT : Tm → Nat
  | .mk _ _ _ l => 1 + nodesL l
def nodesL : List Tm → Nat
  | [] => 0
  | t :: l => nodesT t + nodesL l
end

theorem nodes_pos (t : Tm) : 1 ≤ nodesT t := by cases t; simp [nodesT]

theorem cnt_min (t : Tm) : ∀ m, 0 < m → cntT t m = min (nodesT t : Int) m := by
  induction t using Tm.ind with
  | h k n s l ih =>
    intro m hm
    have : ∀ (l : List Tm), (∀ a ∈ l, ∀ m, 0 < m → cntT a m = min (nodesT a : Int) m) → ∀ n m, n ≤ m → cntL l n m = min (n + (nodesL l : Int)) m := by
      intro l
      induction l with
      | nil => intro _ n m h; simp [cntL, nodesL]; omega
      | cons t l ihl =>
        intro h n m hnm
        simp only [cntL, nodesL]
        have hp := nodes_pos t
        by_cases hlt : n < m
        · rw [if_pos hlt, h t (by simp) _ (by omega), ihl (fun a ha => h a (by simp [ha])) _ m (by omega)]
          push_cast
          omega
        · rw [if_neg hlt]
          push_cast
          omega
    simp only [cntT, nodesT]
    rw [this l ih 1 m (by omega)]
    push_cast
    omega

theorem size_min (t : Tm) : sizeT t = min (nodesT t : Int) 2001 := by rw [← size_cnt, cnt_min t 2001 (by omega)]

theorem valid_nodes {t : Tm} (h : validT t = true) : nodesT t ≤ 2000 := by
  simp only [validT, Bool.and_eq_true, decide_eq_true_eq] at h
  have := size_min t
  omega

theorem nodes_get {l : List Tm} {j : Nat} (hj : j < l.length) : nodesT l[j] ≤ nodesL l := by
  induction l generalizing j with
  | nil => simp at hj
  | cons t l ih =>
    rcases j with _ | j
    · simp [nodesL]
    · have := ih (j := j) (by simpa using hj)
      simp [nodesL]
      omega

/-- An argument of a valid term is valid. -/
theorem valid_arg {k n : Int} {s : ByteArray} {l : List Tm} (h : validT (.mk k n s l) = true) {j : Nat} (hj : j < l.length) : validT l[j] = true := by
  have hn := valid_nodes h
  have hf : fitsT (.mk k n s l) = true := by
    simp only [validT, Bool.and_eq_true] at h
    exact h.2
  have hg := nodes_get hj
  have hs := size_min l[j]
  simp only [nodesT] at hn
  have hfl : ∀ (l : List Tm) (j : Nat) (hj : j < l.length), fitsL l = true → fitsT l[j] = true := by
    intro l
    induction l with
    | nil => intro j hj; simp at hj
    | cons t l ih =>
      intro j hj h
      simp only [fitsL, Bool.and_eq_true] at h
      rcases j with _ | j
      · exact h.1
      · exact ih j (by simpa using hj) h.2
  unfold fitsT at hf
  simp only [Bool.and_eq_true] at hf
  simp only [validT, Bool.and_eq_true, decide_eq_true_eq]
  exact ⟨by omega, hfl l j hj hf.2⟩

end Go.Proofs.Ytgedgmdbpembiaa
