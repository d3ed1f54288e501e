/-
  The law TrailSets on data. No condition.
-/
import Derived.Test.YtcjapglipkmbhaaZd
namespace Go.Proofs.Ytcjapglipkmbhaa
open Go.RowKit
set_option linter.unusedVariables false
set_option linter.unusedSimpArgs false

def smallB (s : So) : Bool := decide (s.cs.length ≤ 300) && (decide (s.ys.length ≤ 100) && (decide (s.tr.length ≤ 300) && decide (s.wk.length ≤ 50)))
theorem ok_law31_small : FOk ct_law31_small (gSb smallB) := fok_law31_small fun ds outs hw hg => by
  obtain ⟨d, r, rfl, hd, rfl⟩ := hw
  obtain ⟨s, rfl, hs⟩ := wfS hd
  simp only [gSb, dS_eS, Option.some.injEq] at hg
  subst hg
  have e1 : ∀ n : Nat, decide ((n : Int) ≤ 300) = decide (n ≤ 300) := fun n => by simp; omega
  have e2 : ∀ n : Nat, decide ((n : Int) ≤ 100) = decide (n ≤ 100) := fun n => by simp; omega
  have e3 : ∀ n : Nat, decide ((n : Int) ≤ 50) = decide (n ≤ 50) := fun n => by simp; omega
  simp only [tree_law31_small, go_need, go_br, go_leaf, go_back, allSay, X.says, X.ev, X.evs, evl, tblS, List.getD_cons_zero, List.getD_cons_succ, List.getElem?_cons_zero, List.getElem?_cons_succ, tt_b, int_i, str_s, rs_r, Option.isSome_some, Option.getD_some, decide_eq_true_eq, decide_eq_false_iff_not, dS_eS, dC_eC, dU_eU, dW_eW, dY_eY, eC_0, eC_1, eU_0, eU_1, eW_0, eW_1, eW_2, eY_0, eY_1, eS_0, eS_1, eS_2, eS_3, eS_4, eS_5, List.length_map, i_inj, b_inj, s_inj, eC_eq, eU_eq, eW_eq, eY_eq, eS_eq, rng64, List.take_succ_cons, List.take_zero, List.nil_append, List.cons_append, decide_true, decide_false, Bool.or_true, true_and, and_true, smallB, Bool.and_assoc, e1, e2, e3]

def gRef : List D → Option (List D)
  | [n] => some [.a [.i 0, n]]
  | _ => none
theorem ok_law31_ref : FOk ct_law31_ref gRef := fok_law31_ref fun ds outs hw hg => by
  obtain ⟨d, r, rfl, hd, rfl⟩ := hw
  simp only [gRef, Option.some.injEq] at hg
  subst hg
  simp only [tree_law31_ref, go_need, go_br, go_leaf, go_back, allSay, X.says, X.ev, X.evs, evl, tblS, List.getD_cons_zero, List.getD_cons_succ, List.getElem?_cons_zero, List.getElem?_cons_succ, tt_b, int_i, str_s, rs_r, Option.isSome_some, Option.getD_some, decide_eq_true_eq, decide_eq_false_iff_not, dS_eS, dC_eC, dU_eU, dW_eW, dY_eY, eC_0, eC_1, eU_0, eU_1, eW_0, eW_1, eW_2, eY_0, eY_1, eS_0, eS_1, eS_2, eS_3, eS_4, eS_5, List.length_map, i_inj, b_inj, s_inj, eC_eq, eU_eq, eW_eq, eY_eq, eS_eq, rng64, List.take_succ_cons, List.take_zero, List.nil_append, List.cons_append, decide_true, decide_false, Bool.or_true, true_and, and_true]
def gNum : List D → Option (List D)
  | [n] => some [.a [.i 1, n]]
  | _ => none
theorem ok_law31_num : FOk ct_law31_num gNum := fok_law31_num fun ds outs hw hg => by
  obtain ⟨d, r, rfl, hd, rfl⟩ := hw
  simp only [gNum, Option.some.injEq] at hg
  subst hg
  simp only [tree_law31_num, go_need, go_br, go_leaf, go_back, allSay, X.says, X.ev, X.evs, evl, tblS, List.getD_cons_zero, List.getD_cons_succ, List.getElem?_cons_zero, List.getElem?_cons_succ, tt_b, int_i, str_s, rs_r, Option.isSome_some, Option.getD_some, decide_eq_true_eq, decide_eq_false_iff_not, dS_eS, dC_eC, dU_eU, dW_eW, dY_eY, eC_0, eC_1, eU_0, eU_1, eW_0, eW_1, eW_2, eY_0, eY_1, eS_0, eS_1, eS_2, eS_3, eS_4, eS_5, List.length_map, i_inj, b_inj, s_inj, eC_eq, eU_eq, eW_eq, eY_eq, eS_eq, rng64, List.take_succ_cons, List.take_zero, List.nil_append, List.cons_append, decide_true, decide_false, Bool.or_true, true_and, and_true]
def gYes : List D → Option (List D) := fun _ => some [.b true]
theorem ok_law31_three : FOk ct_law31_three (denF [(ct_law31_ref, gRef), (ct_law31_num, gNum)] 1 tree_law31_three) := fok_law31_three ok_law31_ref ok_law31_num fun ds outs hw hg => go_denF hg
set_option maxRecDepth 100000 in
theorem ok_law31_awake : FOk ct_law31_awake gYes := fok_law31_awake ok_law31_three ok_law31_ref ok_trail_Set ok_law31_num ok_trail_Mark ok_trail_Undo fun ds outs hw hg => by
  obtain rfl : ds = [] := hw
  simp only [gYes, Option.some.injEq] at hg
  subst hg
  exact go_denF (fuel := 1) (by kernel_rfl)
theorem ok_trail_Set_n : FOk ct_trail_Set_n (fun _ => some [.i 1]) := fok_trail_Set_n (FOk.none enter_trail_in_n) ok_cells_ValidCell (FOk.none enter_trail_settable_n) ok_trail_kept (FOk.none enter_trail_comes_n) fun ds outs hw hg => by
  simp only [Option.some.injEq] at hg
  subst hg
  simp only [tree_trail_Set_n, go_need, go_br, go_leaf, go_back, allSay, X.says, X.ev, X.evs, evl, tblS, List.getD_cons_zero, List.getD_cons_succ, List.getElem?_cons_zero, List.getElem?_cons_succ, tt_b, int_i, str_s, rs_r, Option.isSome_some, Option.getD_some, decide_eq_true_eq, decide_eq_false_iff_not, dS_eS, dC_eC, dU_eU, dW_eW, dY_eY, eC_0, eC_1, eU_0, eU_1, eW_0, eW_1, eW_2, eY_0, eY_1, eS_0, eS_1, eS_2, eS_3, eS_4, eS_5, List.length_map, i_inj, b_inj, s_inj, eC_eq, eU_eq, eW_eq, eY_eq, eS_eq, rng64, List.take_succ_cons, List.take_zero, List.nil_append, List.cons_append, decide_true, decide_false, Bool.or_true, true_and, and_true]

/-! ### In a valid store both say the same -/
structure VS (s : So) : Prop where
  tag : ∀ i : Int, inS s i = true → 0 ≤ (cellAt s i).t ∧ (cellAt s i).t ≤ 5
  att : ∀ i : Int, inS s i = true → (cellAt s i).t = 5 → (cellAt s i).n = i
theorem vcR_tag {s : So} {c : Ce} (h : vcR s c = true) : c.t = 0 ∨ c.t = 1 ∨ c.t = 2 ∨ c.t = 3 ∨ c.t = 5 := by
  unfold vcR at h
  by_cases h0 : c.t = 0
  · exact .inl h0
  · by_cases h1 : c.t = 1
    · exact .inr (.inl h1)
    · by_cases h2 : c.t = 2
      · exact .inr (.inr (.inl h2))
      · by_cases h3 : c.t = 3
        · exact .inr (.inr (.inr (.inl h3)))
        · by_cases h5 : c.t = 5
          · exact .inr (.inr (.inr (.inr h5)))
          · simp [h0, h1, h2, h3, h5] at h
theorem validR_vs {s : So} (h : validR s = true) : VS s := by
  simp only [validR, Bool.and_eq_true] at h
  have key : ∀ i : Int, inS s i = true → cellR s i = true := fun i hi => by
    have h1 := inS_iff.1 hi
    have := all_of h.2.1 (k := i.toNat) (by omega)
    rwa [show ((i.toNat : Nat) : Int) = i by omega] at this
  refine ⟨fun i hi => ?_, fun i hi h5 => ?_⟩
  · have := key i hi
    unfold cellR at this
    by_cases h4 : (cellAt s i).t = 4
    · omega
    · rw [if_neg h4] at this
      simp only [Bool.and_eq_true] at this
      have := vcR_tag this.1
      omega
  · have := key i hi
    unfold cellR at this
    rw [if_neg (by omega)] at this
    simp [h5] at this
    exact this.2.2.1
theorem VS.tag_in {s : So} (h : VS s) (n : Int) : decide (0 ≤ tagS s n) = inS s n := by
  cases hi : inS s n with
  | true =>
    rw [tagS_in hi]
    exact decide_eq_true (h.tag n hi).1
  | false =>
    rw [tagS_out hi]
    decide
theorem VS.vc {s : So} (h : VS s) (c : Ce) : vcP s c = vcR s c := by
  unfold vcP vcR
  rw [h.tag_in]
theorem VS.sett {s : So} (h : VS s) {a : Int} (ha : inS s a = true) : settP s a = settR s a := by
  have h1 := h.tag a ha
  have h2 := h.att a ha
  unfold settP settR
  generalize cellAt s a = c at h1 h2
  by_cases c0 : c.t = 0
  · simp [c0]
  · by_cases c5 : c.t = 5
    · simp [c5, h2 c5]
    · by_cases c4 : c.t = 4
      · simp [c4]
      · have : c.t = 1 ∨ c.t = 2 ∨ c.t = 3 := by omega
        simp [c0, c5, c4, this]
theorem VS.setOk {s : So} (h : VS s) (a : Int) (c : Ce) : setOk vcP settP s a c = setOk vcR settR s a c := by
  unfold Proofs.Ytcjapglipkmbhaa.setOk
  cases ha : inS s a with
  | false => rfl
  | true => rw [h.vc, h.sett ha]

theorem small_cl {s : So} (h : smallB s = true) : clQ s = true ∧ s.tr.length ≤ 300 := by
  simp only [smallB, Bool.and_eq_true, decide_eq_true_eq] at h
  simp only [clQ, Bool.and_eq_true, decide_eq_true_eq]
  omega

theorem law_TrailSets : FOk ct_law31_TrailSets gYes := fok_law31_TrailSets ok_law31_small ok_law31_awake ok_ref30_Clone ok_ref30_Valid ok_trail_Mark ok_trail_Set ok_ref31_Set ok_ref30_Same ok_trail_Set_n fun ds outs hw hg => by
  obtain ⟨d, r, rfl, hd, e, r', rfl, he, f, r2, rfl, hf, rfl⟩ := hw
  obtain ⟨s, rfl, hs⟩ := wfS hd
  obtain ⟨a, rfl, ha⟩ := wfI he
  obtain ⟨c, rfl, hc⟩ := wfC hf
  simp only [gYes, Option.some.injEq] at hg
  subst hg
  simp only [tree_law31_TrailSets, go_need, go_br, go_leaf, go_back, allSay, X.says, X.ev, X.evs, evl, tblS, List.getD_cons_zero, List.getD_cons_succ, List.getElem?_cons_zero, List.getElem?_cons_succ, tt_b, int_i, str_s, rs_r, Option.isSome_some, Option.getD_some, decide_eq_true_eq, decide_eq_false_iff_not, dS_eS, dC_eC, dU_eU, dW_eW, dY_eY, eC_0, eC_1, eU_0, eU_1, eW_0, eW_1, eW_2, eY_0, eY_1, eS_0, eS_1, eS_2, eS_3, eS_4, eS_5, List.length_map, i_inj, b_inj, s_inj, eC_eq, eU_eq, eW_eq, eY_eq, eS_eq, rng64, List.take_succ_cons, List.take_zero, List.nil_append, List.cons_append, decide_true, decide_false, Bool.or_true, true_and, and_true, gSb, gYes, gClone, gMark, Option.isSome_some, Option.getD_some]
  refine ⟨fun hx => trivial, fun hx => ?_⟩
  have hsm : smallB s = true := by simpa using hx
  obtain ⟨hcl, htr⟩ := small_cl hsm
  have hlt : decide (s.tr.length < 34359738368) = true := decide_eq_true (by omega)
  simp only [hcl, if_true, Option.isSome_some, Option.getD_some, List.getD_cons_zero, gSet, dS_eS, dC_eC, int_i, hlt]
  have some1 : ∀ (b : Bool) (x y : List D), (if b = true then some x else some y).isSome = true := fun b x y => by cases b <;> rfl
  simp only [some1, tt_b]
  cases hv : validR s with
  | false => simp
  | true =>
    have := (validR_vs hv).setOk a c
    simp only [this]
    cases hk : setOk vcR settR s a c with
    | false => simp [gSame, D.tt]
    | true => simp [gSame, D.tt]
end Go.Proofs.Ytcjapglipkmbhaa
