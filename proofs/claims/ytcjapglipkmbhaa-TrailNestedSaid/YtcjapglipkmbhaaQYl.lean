/-
  The law TrailNested on data. No condition.
-/
import Derived.Test.YtcjapglipkmbhaaZd
import Derived.Test.YtcjapglipkmbhaaQYk
namespace Go.Proofs.Ytcjapglipkmbhaa
open Go.RowKit
set_option linter.unusedVariables false
set_option linter.unusedSimpArgs false

theorem putU_take (u : Un) (C : List Ce) (t : Nat) : putU u (C.take t) = (putU u C).take t := by
  unfold putU
  rw [List.length_take]
  by_cases h : 0 ≤ u.at' ∧ u.at' < C.length
  · rw [if_pos h]
    by_cases h2 : u.at'.toNat < t
    · rw [if_pos (by omega), List.take_set]
    · rw [if_neg (by omega), List.take_set, List.set_eq_of_length_le (by rw [List.length_take]; omega)]
  · rw [if_neg h, if_neg (by omega)]
theorem undoC_take (C : List Ce) (t : Nat) : ∀ l, undoC (C.take t) l = (undoC C l).take t
  | [] => rfl
  | u :: l => by
    show putU u (undoC (C.take t) l) = (putU u (undoC C l)).take t
    rw [undoC_take C t l, putU_take]
theorem undoC_app (C : List Ce) (l r : List Un) : undoC C (l ++ r) = undoC (undoC C r) l := by simp [undoC, List.foldr_append]
theorem undoS_two {s : So} {m t o b : Int} (hk : markedB s m t = true) (hom : o ≤ m) (hbt : b ≤ t) (ho : 0 ≤ o) (hb : 0 ≤ b) : undoS (undoS s m t) o b = undoS s o b := by
  obtain ⟨q1, q2, q3, q4⟩ := markedB_iff.1 hk
  have e1 : (s.tr.take m.toNat).take o.toNat = s.tr.take o.toNat := by rw [List.take_take, Nat.min_eq_left (by omega)]
  have e2 : s.tr.drop o.toNat = (s.tr.take m.toNat).drop o.toNat ++ s.tr.drop m.toNat := by
    conv => lhs; rw [← List.take_append_drop m.toNat s.tr]
    rw [List.drop_append_of_le_length (by rw [List.length_take]; omega)]
  have e3 : (undoC ((undoC s.cs (s.tr.drop m.toNat)).take t.toNat) ((s.tr.take m.toNat).drop o.toNat)).take b.toNat = (undoC s.cs (s.tr.drop o.toNat)).take b.toNat := by
    rw [undoC_take, List.take_take, Nat.min_eq_left (by omega), e2, undoC_app]
  simp only [undoS]
  rw [e1, e3]
theorem marked_two {s : So} {m t o b : Int} (hk : markedB s m t = true) (hom : o ≤ m) (hbt : b ≤ t) : markedB (undoS s m t) o b = markedB s o b := by
  obtain ⟨q1, q2, q3, q4⟩ := markedB_iff.1 hk
  have h1 : (undoS s m t).tr.length = m.toNat := by simp [undoS]; omega
  have h2 : (undoS s m t).cs.length = t.toNat := by simp [undoS, undoC_len]; omega
  cases h : markedB s o b with
  | true =>
    obtain ⟨p1, p2, p3, p4⟩ := markedB_iff.1 h
    exact markedB_iff.2 ⟨p1, by omega, p3, by omega⟩
  | false =>
    cases h' : markedB (undoS s m t) o b with
    | false => rfl
    | true =>
      obtain ⟨p1, p2, p3, p4⟩ := markedB_iff.1 h'
      rw [markedB_iff.2 ⟨p1, by omega, p3, by omega⟩] at h
      cases h

theorem law_TrailNested : FOk ct_law31_TrailNested gYes := fok_law31_TrailNested ok_law31_small ok_cells_Valid ok_law31_awake ok_cells_Clone ok_trail_Undo ok_cells_Same fun ds outs hw hg => by
  obtain ⟨d, r, rfl, hd, e, r', rfl, he, f, r2, rfl, hf, g, r3, rfl, hg', h, r4, rfl, hh, rfl⟩ := hw
  obtain ⟨s, rfl, hs⟩ := wfS hd
  obtain ⟨m, rfl, -⟩ := wfI he
  obtain ⟨t, rfl, -⟩ := wfI hf
  obtain ⟨o, rfl, -⟩ := wfI hg'
  obtain ⟨b, rfl, -⟩ := wfI hh
  simp only [gYes, Option.some.injEq] at hg
  subst hg
  simp only [tree_law31_TrailNested, go_need, go_br, go_leaf, go_back, allSay, X.says, X.ev, X.evs, evl, tblS, List.getD_cons_zero, List.getD_cons_succ, List.getElem?_cons_zero, List.getElem?_cons_succ, tt_b, int_i, str_s, rs_r, Option.isSome_some, Option.getD_some, decide_eq_true_eq, decide_eq_false_iff_not, dS_eS, dC_eC, dU_eU, dW_eW, dY_eY, eC_0, eC_1, eU_0, eU_1, eW_0, eW_1, eW_2, eY_0, eY_1, eS_0, eS_1, eS_2, eS_3, eS_4, eS_5, List.length_map, i_inj, b_inj, s_inj, eC_eq, eU_eq, eW_eq, eY_eq, eS_eq, rng64, List.take_succ_cons, List.take_zero, List.nil_append, List.cons_append, decide_true, decide_false, Bool.or_true, true_and, and_true, gSb, gYes, gClone, Option.isSome_some, Option.getD_some]
  refine ⟨fun hx => trivial, fun hx => ?_⟩
  have hx' : ((smallB s = true ∧ validP s = true) ∧ ¬ m < o) ∧ ¬ t < b := by simpa using hx
  obtain ⟨⟨⟨hsm, hv⟩, hmo⟩, htb⟩ := hx'
  obtain ⟨hcl, htr⟩ := small_cl hsm
  have some1 : ∀ (b : Bool) (x y : List D), (if b = true then some x else some y).isSome = true := fun b x y => by cases b <;> rfl
  simp only [hcl, if_true, Option.isSome_some, Option.getD_some, List.getD_cons_zero, gUndo, dS_eS, int_i, some1]
  cases hk : markedB s m t with
  | false => simp [D.tt]
  | true =>
    have h2 := marked_two hk (o := o) (b := b) (by omega) (by omega)
    simp only [if_true, Option.getD_some, List.getD_cons_zero, List.getD_cons_succ, dS_eS, h2, some1]
    refine ⟨by simp, trivial, fun _ => trivial, fun _ => ?_⟩
    cases hk2 : markedB s o b with
    | false => simp [D.tt, gSame]
    | true =>
      obtain ⟨p1, p2, p3, p4⟩ := markedB_iff.1 hk2
      simp only [undoS_two hk (show o ≤ m by omega) (show b ≤ t by omega) p1 p3]
      simp [D.tt, gSame]
end Go.Proofs.Ytcjapglipkmbhaa
