/-
  identical, in the program and in the reference: the walks.
-/
import Derived.Test.YtloekfnlidclcaaVa
namespace Go.Proofs.Ytloekfnlidclcaa
open Go.RowKit
set_option linter.unusedVariables false

mutual
def eqT : Tm → Tm → Bool
  | .mk k n s l, .mk k' n' s' l' => k == k' && n == n' && decide (s = s') && l.length == l'.length && eqL l l'
def eqL : List Tm → List Tm → Bool
  | [], _ => true
  | _ :: _, [] => false
  | t :: l, t' :: l' => eqT t t' && eqL l l'
end

set_option maxRecDepth 100000 in
set_option maxHeartbeats 400000 in
theorem rident_any (t : Tm) : ∀ (u : Tm) (w : World) (v v' : Value), TmAt w w.heap.size t v → TmAt w w.heap.size u v' →
    Calls Try.prog 83 #[v, v'] w fun e w' => e = .returned (.bool (eqT t u)) ∧ But Nil w w' := by
  induction t using Tm.ind with
  | h k n s l ih =>
  intro u w v v' hv hv'
  cases u with
  | mk k' n' s' l' =>
  unfold TmAt TmIn at hv hv'
  obtain ⟨A, len, cap, rfl, h1, h2, h3, rfl, h5, h6, -, h7⟩ := hv
  obtain ⟨A', len', cap', rfl, g1, g2, g3, rfl, g5, g6, -, g7⟩ := hv'
  have IH := Lib.hid ih
  clear ih
  by_cases hk : k = k'
  · by_cases hn : n = n'
    · by_cases hs : s = s'
      · by_cases hl : l.length = l'.length
        · subst hk hn hs
          have hl2 : ((l.length : Int) != (l'.length : Int)) = false := by simp; omega
          have Hl := Lib.hid hl
          clear hl
          go_enter Try.func83, Try.ntmps83
          go_wp2_with fail
          go_loopw [5] (fun i wr => ∃ (j : Nat), j ≤ l.length ∧ i = .int .i64 j ∧ eqL (l.drop j) (l'.drop j) = eqT (.mk k n s l) (.mk k n s l') ∧ But Nil w wr ∧
              wr.cell? ⟨w.heap.size, 3, none⟩ = some (.slice A l.length cap) ∧ wr.cell? ⟨w.heap.size + 1, 3, none⟩ = some (.slice A' l'.length cap')) (fun i _ => l.length - (intOf i).toNat)
          case atStart => exact ⟨0, by omega, rfl, by simp [eqT, Hl.out], ((But.refl _ _).alloc _).alloc _, cell_old (cell_of_row _ _ 3 _ _ (0, 0) (heap_alloc_new _ _)), cell_of_row _ _ 3 _ _ (0, 0) (heap_new (by simp))⟩
          case round =>
            obtain ⟨j, hj, rfl, heq, hbut, hpar, hpar'⟩ := hrel
            have Heq := Lib.hid heq
            clear heq
            by_cases hjl : j < l.length
            · have hjl' : j < l'.length := by have := Hl.out; omega
              obtain ⟨b, o, A0, cap0, rfl, hb, e0, e1, e2, e3, ht⟩ := h7.get hjl
              obtain ⟨b', o', A1, cap1, rfl, hb', f0, f1, f2, f3, ht'⟩ := g7.get hjl'
              have e0' := hbut.cell id e0
              have e1' := hbut.cell id e1
              have e2' := hbut.cell id e2
              have e3' := hbut.cell id e3
              have f0' := hbut.cell id f0
              have f1' := hbut.cell id f1
              have f2' := hbut.cell id f2
              have f3' := hbut.cell id f3
              clear e0 e1 e2 e3 f0 f1 f2 f3
              go_wp2_with fail
              have hbw := hbut
              go_still_tail 10, (by kernel_rfl)
              change wpList _ _ _ _ _ wr.drew
              go_wp2_with fail
              refine (IH.out _ (List.getElem_mem hjl) _ wr.drew _ _ (TmAt.keeps hbw.size hbw.drew.keeps_nil _ ht) (TmAt.keeps hbw.size hbw.drew.keeps_nil _ ht')).mono ?_
              rintro e w1 ⟨rfl, hb1⟩
              have hbut1 := hbw.drew.trans_nil hb1
              have hpar1 := hb1.cell id hpar
              have hpar1' := hb1.cell id hpar'
              cases hf : eqT l[j] l'[j]
              · have Hf := Lib.hid hf
                clear hf
                go_wp2_with fail
                go_ret
                exact ⟨ret_bool (by rw [← Heq.out, List.drop_eq_getElem_cons hjl, List.drop_eq_getElem_cons hjl']; simp [eqL, Hf.out]), hbut1⟩
              · have Hf := Lib.hid hf
                clear hf
                go_wp2_with fail
                go_roundw
                case rel => exact ⟨j + 1, by omega, by go_num, by rw [← Heq.out, List.drop_eq_getElem_cons hjl, List.drop_eq_getElem_cons hjl']; simp [eqL, Hf.out], hbut1, hpar1, hpar1'⟩
                case measure => simp [intOf]; omega
            · go_wp2_with fail
              go_ret
              exact ⟨ret_bool (by rw [← Heq.out, List.drop_eq_nil_of_le (by omega)]; simp [eqL]), hbut⟩
        · have hl2 : ((l.length : Int) != (l'.length : Int)) = true := by simp; omega
          subst hk hn hs
          go_enter Try.func83, Try.ntmps83
          go_wp2_with fail
          go_ret
          exact ⟨ret_bool (by simp [eqT, hl]), ((But.refl _ _).alloc _).alloc _⟩
      · have hs2 := str_ne hs
        subst hk hn
        go_enter Try.func83, Try.ntmps83
        go_wp2_with fail
        go_ret
        exact ⟨ret_bool (by simp [eqT, hs]), ((But.refl _ _).alloc _).alloc _⟩
    · have hn2 : (n != n') = true := by simpa using hn
      subst hk
      go_enter Try.func83, Try.ntmps83
      go_wp2_with fail
      go_ret
      exact ⟨ret_bool (by simp [eqT, hn]), ((But.refl _ _).alloc _).alloc _⟩
  · have hk2 : (k != k') = true := by simpa using hk
    go_enter Try.func83, Try.ntmps83
    go_wp2_with fail
    go_ret
    exact ⟨ret_bool (by simp [eqT, hk]), ((But.refl _ _).alloc _).alloc _⟩
end Go.Proofs.Ytloekfnlidclcaa

