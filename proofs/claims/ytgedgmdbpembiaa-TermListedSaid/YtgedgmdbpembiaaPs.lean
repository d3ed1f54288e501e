/-
  The reference's position: the walk.
-/
import Derived.Test.YtgedgmdbpembiaaSh
namespace Go.Proofs.Ytgedgmdbpembiaa
open Go.RowKit Go.Maps
set_option linter.unusedVariables false

/-- The place of a number in a list, or -1. -/
def posI (l : List Int) (n : Int) : Int := if n ∈ l then (l.idxOf n : Nat) else -1

theorem posI_bd (l : List Int) (n : Int) : -1 ≤ posI l n ∧ posI l n ≤ l.length := by
  unfold posI
  have := List.idxOf_le_length (a := n) (l := l)
  split <;> omega

theorem idx_at {l : List Int} {n : Int} : ∀ {j : Nat} (hj : j < l.length), l[j] = n → (∀ q (hq : q < l.length), q < j → l[q] ≠ n) → l.idxOf n = j := by
  induction l with
  | nil => intro j hj; simp at hj
  | cons x l ih =>
    intro j hj he hno
    rcases j with _ | j
    · simp at he
      simp [he]
    · have hx : ¬ x = n := hno 0 (by simp) (by omega)
      have := ih (j := j) (by simpa using hj) (by simpa using he) (fun q hq hqj => hno (q + 1) (by simpa using hq) (by omega))
      have hxb : (x == n) = false := by simpa using hx
      rw [List.idxOf_cons, hxb, this]
      rfl

theorem pos_at {l : List Int} {n : Int} {j : Nat} (hj : j < l.length) (he : l[j] = n) (hno : ∀ q (hq : q < l.length), q < j → l[q] ≠ n) : posI l n = j := by
  unfold posI
  rw [if_pos (by rw [← he]; exact List.getElem_mem hj), idx_at hj he hno]

theorem pos_none {l : List Int} {n : Int} (hno : ∀ q (hq : q < l.length), l[q] ≠ n) : posI l n = -1 := by
  unfold posI
  rw [if_neg]
  intro h
  obtain ⟨q, hq, he⟩ := List.getElem_of_mem h
  exact hno q hq he

set_option maxHeartbeats 400000 in
theorem pos_any (l : List Int) (A : Option Addr) (cap : Nat) (n : Int) (w : World) (hl : l.length ≤ 1099511627777) (h : IntsIn w (fun _ => True) A l) :
    Calls Try.prog 77 #[.slice A l.length cap, .int .i64 n] w fun e w' => e = .returned (.int .i64 (posI l n)) ∧ But Nil w w' := by
  go_enter Try.func77, Try.ntmps77
  go_wp2_with fail
  go_loopw [5] (fun i wr => ∃ (j : Nat), j ≤ l.length ∧ i = .int .i64 j ∧ (∀ q (hq : q < l.length), q < j → l[q] ≠ n) ∧ But Nil w wr) (fun i _ => l.length - (intOf i).toNat)
  case atStart => exact ⟨0, by omega, rfl, fun q _ hq => by omega, But.refl _ _⟩
  case round =>
    obtain ⟨j, hj, rfl, hno, hbut⟩ := hrel
    have Hno := Lib.hid hno
    clear hno
    by_cases hjl : j < l.length
    · obtain ⟨b, o, rfl, -, hc⟩ := h j hjl
      have hc' := hbut.cell id hc
      clear hc
      by_cases he : l[j] = n
      · have he' : (l[j] == n) = true := by simpa using he
        have He := Lib.hid he
        clear he
        go_wp2_with fail
        go_ret
        exact ⟨ret_int (by rw [pos_at hjl He.out Hno.out]), hbut⟩
      · have he' : (l[j] == n) = false := by simpa using he
        have He := Lib.hid he
        clear he
        go_wp2_with fail
        go_roundw
        case rel => exact ⟨j + 1, by omega, by go_num, fun q hq hqj => by
          rcases Nat.lt_or_ge q j with h1 | h1
          · exact Hno.out q hq h1
          · obtain rfl : q = j := by omega
            exact He.out, hbut⟩
        case measure => simp [intOf]; omega
    · go_wp2_with fail
      go_ret
      exact ⟨ret_int (by rw [pos_none (fun q hq => Hno.out q hq (by omega))]), hbut⟩

end Go.Proofs.Ytgedgmdbpembiaa
