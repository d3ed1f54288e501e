/-
  term.fits. The walk.
-/
import Derived.Test.YtloekfnlidclcaaSz
import Derived.BigGuardPart
import Derived.Deep.DeepCutAuto
import Derived.Deep.CutBlock
namespace Go.Proofs.Ytloekfnlidclcaa
open Go.RowKit
set_option linter.unusedVariables false

/-- A node is valid, apart from its arguments. -/
def nodeB : Tm → Bool
  | .mk k n s l => (k == 0 && (decide (0 ≤ n) && decide (n ≤ 1099511627776) && s.toList.isEmpty && ((l.length : Int) == 0))) || (k == 1 && (s.toList.isEmpty && ((l.length : Int) == 0))) ||
      (k == 2 && (n == 0 && decide ((s.size : Int) ≤ 100) && ((l.length : Int) == 0))) || (k == 3 && (n == 0 && decide ((s.size : Int) ≤ 100) && decide (0 < l.length) && decide ((l.length : Int) ≤ 8)))

mutual
def fitsT : Tm → Bool
  | .mk k n s l => nodeB (.mk k n s l) && fitsL l
def fitsL : List Tm → Bool
  | [] => true
  | t :: l => fitsT t && fitsL l
end

set_option maxRecDepth 100000 in
set_option maxHeartbeats 400000 in
theorem fits_any (t : Tm) : ∀ (w : World) (v : Value), TmAt w w.heap.size t v →
    Calls Try.prog 80 #[v] w fun e w' => e = .returned (.bool (fitsT t)) ∧ But Nil w w' := by
  induction t using Tm.ind with
  | h k n s l ih =>
  intro w v hv
  unfold TmAt TmIn at hv
  obtain ⟨A, len, cap, rfl, h1, h2, h3, rfl, h5, h6, -, h7⟩ := hv
  have IH := Lib.hid ih
  clear ih
  go_enter Try.func80, Try.ntmps80
  go_upto_block 0 with fail
  go_cut [3] (fun b wc => b = .bool (nodeB (.mk k n s l)) ∧ wc = w.alloc (.cells #[.int .i64 k, .int .i64 n, .string s, .slice A l.length cap] 24))
  case first =>
    clear IH h7 h1 h2 h5
    by_cases hn : n = 0
    · subst hn
      go_wp2_with fail
      all_goals go_meet
      all_goals first | (simp_all [nodeB]; done) | (simp_all [nodeB]; omega)
    · have hn' : (n == 0) = false := by simpa using hn
      clear hn
      go_wp2_with fail
      all_goals go_meet
      all_goals first | (simp_all [nodeB]; done) | (simp_all [nodeB]; omega)
  case rest =>
    obtain ⟨rfl, rfl⟩ := hcut
    go_wp2_with fail
    go_loopw [3, 4] (fun b i wr => ∃ (j : Nat) (c : Bool), j ≤ l.length ∧ i = .int .i64 j ∧ b = .bool c ∧ (c && fitsL (l.drop j)) = fitsT (.mk k n s l) ∧ But Nil w wr ∧
        wr.cell? ⟨w.heap.size, 3, none⟩ = some (.slice A l.length cap)) (fun _ i _ => l.length - (intOf i).toNat)
    case atStart =>
      refine ⟨0, nodeB (.mk k n s l), by omega, rfl, rfl, by simp [fitsT], (But.refl _ _).alloc _, cell_of_row _ _ 3 _ _ (0, 0) (heap_alloc_new _ _)⟩
    case round =>
      obtain ⟨j, c, hj, rfl, rfl, hfit, hbut, hpar⟩ := hrel
      have Hfit := Lib.hid hfit
      clear hfit
      by_cases hjl : j < l.length
      · cases c
        · go_wp2_with fail
          go_ret
          exact ⟨by simp [← Hfit.out], hbut⟩
        · obtain ⟨b, o, c0, c1, c2, c3, rfl, hb, e0, e1, e2, e3, ht⟩ := argsIn_iff.1 h7 j hjl
          simp only [Nat.zero_add] at e0 e1 e2 e3
          have g0 := hbut.cell id e0
          have g1 := hbut.cell id e1
          have g2 := hbut.cell id e2
          have g3 := hbut.cell id e3
          clear e0 e1 e2 e3
          go_wp2_with fail
          refine (IH.out _ (List.getElem_mem hjl) wr _ (TmAt.keeps hbut.size hbut.keeps_nil _ ht)).mono ?_
          rintro e w1 ⟨rfl, hb1⟩
          have hbut1 := hbut.trans_nil hb1
          have hpar1 := hb1.cell id hpar
          go_wp2_with fail
          go_roundw
          case rel => exact ⟨j + 1, _, by omega, by go_num, rfl, by rw [← Hfit.out, List.drop_eq_getElem_cons hjl]; simp [fitsL], hbut1, hpar1⟩
          case measure => simp [intOf]; omega
      · go_wp2_with fail
        go_ret
        exact ⟨by rw [← Hfit.out, List.drop_eq_nil_of_le (by omega)]; simp [fitsL], hbut⟩
end Go.Proofs.Ytloekfnlidclcaa

