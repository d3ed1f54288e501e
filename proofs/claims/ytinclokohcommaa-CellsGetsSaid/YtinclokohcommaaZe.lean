/-
  Lemmas of the walk and plain laws, put together. No condition.
-/
import Derived.ChangeArms
import Derived.OpenShut
import Derived.ProofKit
import Derived.SizedLaws
import Derived.Test.YtinclokohcommaaRows
import Derived.Test.YtinclokohcommaaZd
namespace Go.Proofs.Ytinclokohcommaa
open Go.RowKit
set_option linter.unusedVariables false
set_option linter.unusedSimpArgs false

theorem symsB_ar {s : So} (h : symsB s.ys = true) (n : Int) : -1 ≤ arS s n ∧ arS s n ≤ 8 := by
  unfold arS
  split
  · rename_i hn
    simp only [symsB, Bool.and_eq_true] at h
    have := all_of h.2 (k := n.toNat) (by omega)
    simp only [symAt, okY, Bool.and_eq_true, decide_eq_true_eq] at this
    omega
  · omega
theorem symsB_len {s : So} (h : symsB s.ys = true) : s.ys.length ≤ 1048576 := by
  simp only [symsB, Bool.and_eq_true, decide_eq_true_eq] at h
  exact h.1

/-- The references that begin at an address end. -/
def endsN (s : So) : Nat → Int → Bool
  | 0, _ => false
  | k + 1, n => if tagS s n = 0 ∧ ¬ (cellAt s n).n = n then endsN s k (cellAt s n).n else true
def endsB (s : So) (n : Int) : Bool := endsN s (s.cs.length + 1) n

theorem tag_in' {s : So} {i : Int} {t : Int} (ht : t ≠ -1) (h : tagS s i = t) : inS s i = true := by
  cases hi : inS s i with
  | true => rfl
  | false => rw [tagS_out hi] at h; exact absurd h.symm ht

theorem ok_ref30_ends : FOk ct_ref30_ends (gSIb endsB) := fok_ref30_ends ok_ref30_tag fun ds outs hw hg => by
  obtain ⟨d, r, rfl, hd, e, r', rfl, he, rfl⟩ := hw
  obtain ⟨s, rfl, hs⟩ := wfS hd
  obtain ⟨i, rfl, hi⟩ := wfI he
  simp only [gSIb, dS_eS, int_i, Option.some.injEq] at hg
  subst hg
  have hl := hs.cs.1
  simp only [tree_ref30_ends, Tree.go, allSay, X.says, X.ev, X.evs, evl, tblS, List.getD_cons_zero, List.getD_cons_succ, List.getElem?_cons_zero, List.getElem?_cons_succ, tt_b, int_i, str_s, rs_r, Option.isSome_some, Option.getD_some, decide_eq_true_eq, decide_eq_false_iff_not, dS_eS, dC_eC, dU_eU, dW_eW, dY_eY, eC_0, eC_1, eU_0, eU_1, eW_0, eW_1, eW_2, eY_0, eY_1, eS_0, eS_1, eS_2, eS_3, eS_4, eS_5, List.length_map, i_inj, b_inj, s_inj, eC_eq, eU_eq, eW_eq, eY_eq, eS_eq, rng64, List.take_succ_cons, List.take_zero, List.nil_append, List.cons_append, decide_true, decide_false, Bool.or_true, true_and, and_true, gSIi]
  refine ⟨fun st => ∃ (k : Nat) (m : Int), k ≤ s.cs.length + 1 ∧ st = [.b false, .i m, .i k] ∧ endsN s (s.cs.length + 1 - k) m = endsB s i, fun st => s.cs.length + 1 - (st.getD 2 .u).int.toNat, ⟨0, i, Nat.zero_le _, rfl, rfl⟩, ?_⟩
  rintro st - ⟨k, m, hk, rfl, hP⟩
  simp only [Tree.go, allSay, X.says, X.ev, X.evs, evl, tblS, List.getD_cons_zero, List.getD_cons_succ, List.getElem?_cons_zero, List.getElem?_cons_succ, tt_b, int_i, str_s, rs_r, Option.isSome_some, Option.getD_some, decide_eq_true_eq, decide_eq_false_iff_not, dS_eS, dC_eC, dU_eU, dW_eW, dY_eY, eC_0, eC_1, eU_0, eU_1, eW_0, eW_1, eW_2, eY_0, eY_1, eS_0, eS_1, eS_2, eS_3, eS_4, eS_5, List.length_map, i_inj, b_inj, s_inj, eC_eq, eU_eq, eW_eq, eY_eq, eS_eq, rng64, List.take_succ_cons, List.take_zero, List.nil_append, List.cons_append, decide_true, decide_false, Bool.or_true, true_and, and_true, gSIi]
  refine ⟨fun hlt => ?_, fun hlt => ?_⟩
  · have hkl : k ≤ s.cs.length := by omega
    have hr : i64 ((k : Int) + 1) := ⟨by omega, by omega⟩
    obtain ⟨n, hn⟩ : ∃ n, s.cs.length + 1 - k = n + 1 := ⟨s.cs.length - k, by omega⟩
    rw [hn] at hP
    unfold endsN at hP
    have hn2 : s.cs.length + 1 - (k + 1) = n := by omega
    by_cases ht : tagS s m = 0
    · have hin := tag_in' (by decide) ht
      have h3 := inS_iff.1 hin
      simp only [ht, cell_get hin, eC_1, h3.1, h3.2, int_i, i_inj, hr] at hP ⊢
      refine ⟨by simp, fun hx => ?_, fun hx => ?_⟩
      · have : (cellAt s m).n = m := by simpa using hx
        rw [if_neg (by simp [this])] at hP
        simp [← hP]
      · have hx' : ¬ (cellAt s m).n = m := by simpa using hx
        rw [if_pos ⟨trivial, hx'⟩] at hP
        refine ⟨⟨trivial, trivial⟩, ⟨trivial, trivial⟩, ?_⟩
        rw [updB, if_pos rfl]
        refine ⟨⟨k + 1, (cellAt s m).n, by omega, by simp, by rw [hn2]; exact hP⟩, ?_⟩
        simp [D.int]
        omega
    · rw [if_neg (by simp [ht])] at hP
      simp [ht, ← hP]
  · have : k = s.cs.length + 1 := by omega
    subst this
    rw [Nat.sub_self] at hP
    simp [← hP, endsN]

/-- The cell at an address is valid there. -/
def cellR (s : So) (i : Int) : Bool :=
  if (cellAt s i).t = 4 then decide (1 ≤ arS s (cellAt s i).n) && (inS s (i + arS s (cellAt s i).n) && (List.range (arS s (cellAt s i).n).toNat).all fun j => !decide (tagS s (i + ((j : Int) + 1)) = 4))
  else vcR s (cellAt s i) && (endsB s i && (!decide ((cellAt s i).t = 5) || (decide ((cellAt s i).n = i) && groupS s i)))
def cellQ (s : So) (i : Int) : Bool := inS s i && symsB s.ys

theorem ok_ref30_cell : FOk ct_ref30_cell (gSIbP cellQ cellR) := fok_ref30_cell ok_ref30_arity ok_ref30_ranged ok_ref30_tag ok_ref30_ValidCell ok_ref30_ends ok_ref30_group fun ds outs hw hg => by
  obtain ⟨d, r, rfl, hd, e, r', rfl, he, rfl⟩ := hw
  obtain ⟨s, rfl, hs⟩ := wfS hd
  obtain ⟨i, rfl, hi⟩ := wfI he
  simp only [gSIbP, dS_eS, int_i, Option.ite_none_right_eq_some, Option.some.injEq, cellQ, Bool.and_eq_true] at hg
  obtain ⟨⟨hin, hy⟩, rfl⟩ := hg
  have h1 := inS_iff.1 hin
  have hl := hs.cs.1
  obtain ⟨ha, hb⟩ := symsB_ar hy (cellAt s i).n
  simp only [tree_ref30_cell, Tree.go, allSay, X.says, X.ev, X.evs, evl, tblS, List.getD_cons_zero, List.getD_cons_succ, List.getElem?_cons_zero, List.getElem?_cons_succ, tt_b, int_i, str_s, rs_r, Option.isSome_some, Option.getD_some, decide_eq_true_eq, decide_eq_false_iff_not, dS_eS, dC_eC, dU_eU, dW_eW, dY_eY, eC_0, eC_1, eU_0, eU_1, eW_0, eW_1, eW_2, eY_0, eY_1, eS_0, eS_1, eS_2, eS_3, eS_4, eS_5, List.length_map, i_inj, b_inj, s_inj, eC_eq, eU_eq, eW_eq, eY_eq, eS_eq, rng64, List.take_succ_cons, List.take_zero, List.nil_append, List.cons_append, decide_true, decide_false, Bool.or_true, true_and, and_true, gSIi, gSIb, gSCb, gSIbP, cell_get hin, h1.1, h1.2, hin, if_true]
  unfold cellR
  generalize arS s (cellAt s i).n = K at ha hb ⊢
  refine ⟨fun h4 => ?_, fun h4 => ?_⟩
  · have hr : i64 (i + K) := ⟨by omega, by omega⟩
    simp only [h4, hr, if_true]
    refine ⟨by simp [rng64, hr.1, hr.2], fun hx => ?_, fun hx => ?_⟩
    · have hx' : K < 1 ∨ inS s (i + K) = false := by simpa using hx
      rcases hx' with hx | hx
      · have : ¬ (1 ≤ K) := by omega
        simp [this]
      · simp [hx]
    · have hx' : 1 ≤ K ∧ inS s (i + K) = true := by simpa using hx
      obtain ⟨hk, hin2⟩ := hx'
      simp only [hk, hin2]
      refine ⟨fun st => ∃ (j : Nat), (j : Int) ≤ K ∧ st = [.b false, .i ((j : Int) + 1)] ∧ ∀ m : Nat, m < j → (!decide (tagS s (i + ((m : Int) + 1)) = 4)) = true, fun st => K.toNat + 1 - (st.getD 1 .u).int.toNat, ⟨0, by omega, by simp, fun m hm => absurd hm (Nat.not_lt_zero _)⟩, ?_⟩
      rintro st - ⟨j, hj, rfl, hP⟩
      simp only [Tree.go, allSay, X.says, X.ev, X.evs, evl, tblS, List.getD_cons_zero, List.getD_cons_succ, List.getElem?_cons_zero, List.getElem?_cons_succ, tt_b, int_i, str_s, rs_r, Option.isSome_some, Option.getD_some, decide_eq_true_eq, decide_eq_false_iff_not, dS_eS, dC_eC, dU_eU, dW_eW, dY_eY, eC_0, eC_1, eU_0, eU_1, eW_0, eW_1, eW_2, eY_0, eY_1, eS_0, eS_1, eS_2, eS_3, eS_4, eS_5, List.length_map, i_inj, b_inj, s_inj, eC_eq, eU_eq, eW_eq, eY_eq, eS_eq, rng64, List.take_succ_cons, List.take_zero, List.nil_append, List.cons_append, decide_true, decide_false, Bool.or_true, true_and, and_true, gSIi]
      refine ⟨fun hlt => ?_, fun hlt => ?_⟩
      · have hr2 : i64 (i + ((j : Int) + 1)) := ⟨by omega, by omega⟩
        have hr3 : i64 (((j : Int) + 1) + 1) := ⟨by omega, by omega⟩
        refine ⟨hr2, fun hx => ?_, fun hx => ⟨hr3, ?_⟩⟩
        · rw [all_not (k := j) (by omega) (by simp [hx])]
          simp
        · rw [updB, if_pos rfl]
          refine ⟨⟨j + 1, by omega, by simp, upto_succ hP (by simp [hx])⟩, ?_⟩
          simp [D.int]
          omega
      · have : j = K.toNat := by omega
        subst this
        rw [all_yes hP]
        simp
  · simp only [h4, if_false]
    refine ⟨fun hx => ?_, fun hx => ?_⟩
    · have hx' : vcR s (cellAt s i) = false ∨ endsB s i = false := by simpa using hx
      rcases hx' with hx | hx <;> simp [hx]
    · have hx' : vcR s (cellAt s i) = true ∧ endsB s i = true := by simpa using hx
      simp [hx'.1, hx'.2]

/-- The program's. -/
def fitsP (s : So) (i : Int) : Bool :=
  if (cellAt s i).t = 4 then decide (1 ≤ arS s (cellAt s i).n) && (List.range (arS s (cellAt s i).n).toNat).all fun j => decide (0 ≤ tagS s (i + ((j : Int) + 1))) && !decide (tagS s (i + ((j : Int) + 1)) = 4)
  else if (cellAt s i).t = 5 then decide ((cellAt s i).n = i) && groupS s i else vcP s (cellAt s i)
theorem ok_cells_fits : FOk ct_cells_fits (gSIbP cellQ fitsP) := fok_cells_fits ok_cells_arity ok_cells_tag ok_cells_group ok_cells_ValidCell fun ds outs hw hg => by
  obtain ⟨d, r, rfl, hd, e, r', rfl, he, rfl⟩ := hw
  obtain ⟨s, rfl, hs⟩ := wfS hd
  obtain ⟨i, rfl, hi⟩ := wfI he
  simp only [gSIbP, dS_eS, int_i, Option.ite_none_right_eq_some, Option.some.injEq, cellQ, Bool.and_eq_true] at hg
  obtain ⟨⟨hin, hy⟩, rfl⟩ := hg
  have h1 := inS_iff.1 hin
  have hl := hs.cs.1
  obtain ⟨ha, hb⟩ := symsB_ar hy (cellAt s i).n
  simp only [tree_cells_fits, Tree.go, allSay, X.says, X.ev, X.evs, evl, tblS, List.getD_cons_zero, List.getD_cons_succ, List.getElem?_cons_zero, List.getElem?_cons_succ, tt_b, int_i, str_s, rs_r, Option.isSome_some, Option.getD_some, decide_eq_true_eq, decide_eq_false_iff_not, dS_eS, dC_eC, dU_eU, dW_eW, dY_eY, eC_0, eC_1, eU_0, eU_1, eW_0, eW_1, eW_2, eY_0, eY_1, eS_0, eS_1, eS_2, eS_3, eS_4, eS_5, List.length_map, i_inj, b_inj, s_inj, eC_eq, eU_eq, eW_eq, eY_eq, eS_eq, rng64, List.take_succ_cons, List.take_zero, List.nil_append, List.cons_append, decide_true, decide_false, Bool.or_true, true_and, and_true, gSIi, gSIb, gSCb, gSIbP, cell_get hin, h1.1, h1.2, hin, if_true]
  unfold fitsP
  generalize arS s (cellAt s i).n = K at ha hb ⊢
  refine ⟨fun h4 => ?_, fun h4 => ?_⟩
  · have hr : i64 (i + K) := ⟨by omega, by omega⟩
    have hr1 : i64 (i + 1) := ⟨by omega, by omega⟩
    simp only [h4, hr, hr1, if_true]
    refine ⟨fun hx => ?_, fun hx => ⟨⟨trivial, trivial⟩, ?_⟩⟩
    · have : ¬ (1 ≤ K) := by omega
      simp [this]
    · have hk : 1 ≤ K := by omega
      simp only [hk]
      refine ⟨fun st => ∃ (j : Nat), (j : Int) ≤ K ∧ st = [.b false, .i (i + ((j : Int) + 1))] ∧ ∀ m : Nat, m < j → (decide (0 ≤ tagS s (i + ((m : Int) + 1))) && !decide (tagS s (i + ((m : Int) + 1)) = 4)) = true, fun st => (i + K + 1 - (st.getD 1 .u).int).toNat, ⟨0, by omega, by simp, fun m hm => absurd hm (Nat.not_lt_zero _)⟩, ?_⟩
      rintro st - ⟨j, hj, rfl, hP⟩
      simp only [Tree.go, allSay, X.says, X.ev, X.evs, evl, tblS, List.getD_cons_zero, List.getD_cons_succ, List.getElem?_cons_zero, List.getElem?_cons_succ, tt_b, int_i, str_s, rs_r, Option.isSome_some, Option.getD_some, decide_eq_true_eq, decide_eq_false_iff_not, dS_eS, dC_eC, dU_eU, dW_eW, dY_eY, eC_0, eC_1, eU_0, eU_1, eW_0, eW_1, eW_2, eY_0, eY_1, eS_0, eS_1, eS_2, eS_3, eS_4, eS_5, List.length_map, i_inj, b_inj, s_inj, eC_eq, eU_eq, eW_eq, eY_eq, eS_eq, rng64, List.take_succ_cons, List.take_zero, List.nil_append, List.cons_append, decide_true, decide_false, Bool.or_true, true_and, and_true, gSIi]
      refine ⟨fun hlt => ?_, fun hlt => ?_⟩
      · have hr3 : i64 ((i + ((j : Int) + 1)) + 1) := ⟨by omega, by omega⟩
        refine ⟨fun hx => ?_, fun hx => ⟨hr3, ?_⟩⟩
        · have hx' : tagS s (i + ((j : Int) + 1)) < 0 ∨ tagS s (i + ((j : Int) + 1)) = 4 := by simpa using hx
          rw [all_not (k := j) (by omega)]
          · simp
          · rcases hx' with h | h
            · have : ¬ (0 ≤ tagS s (i + ((j : Int) + 1))) := by omega
              simp [this]
            · simp [h]
        · have hx' : ¬ tagS s (i + ((j : Int) + 1)) < 0 ∧ ¬ tagS s (i + ((j : Int) + 1)) = 4 := by simpa using hx
          rw [updB, if_pos rfl]
          refine ⟨⟨j + 1, by omega, by simp; omega, upto_succ hP (by simp [hx'.2]; omega)⟩, ?_⟩
          simp [D.int]
          omega
      · have : j = K.toNat := by omega
        subst this
        rw [all_yes hP]
        simp
  · simp only [h4, if_false]
    refine ⟨fun hx => ?_, fun hx => ?_⟩
    · simp [hx]
    · simp [hx]

/-- An element of the trail is valid. -/
def oldB (vc : So → Ce → Bool) (rg : So → Int → Bool) (s : So) (u : Un) : Bool :=
  rg s u.at' && if u.old.t = 0 then decide (u.old.n = u.at') else if u.old.t = 5 then decide (u.old.n = u.at') && (groupS s u.at' && !decide (tagS s (u.at' - 1) = 5)) else if u.old.t = 1 ∨ u.old.t = 2 ∨ u.old.t = 3 then vc s u.old else false
def oldR : So → Un → Bool := oldB vcR inS
def oldP : So → Un → Bool := oldB vcP fun s i => decide (0 ≤ tagS s i)
theorem ok_ref30_old : FOk ct_ref30_old (gSUb oldR) := fok_ref30_old ok_ref30_ranged ok_ref30_group ok_ref30_tag ok_ref30_ValidCell fun ds outs hw hg => by
  obtain ⟨d, r, rfl, hd, e, r', rfl, he, rfl⟩ := hw
  obtain ⟨s, rfl, hs⟩ := wfS hd
  obtain ⟨u, rfl, hu⟩ := wfU he
  simp only [gSUb, dS_eS, dU_eU, Option.some.injEq] at hg
  subst hg
  have hl := hs.cs.1
  simp only [tree_ref30_old, Tree.go, allSay, X.says, X.ev, X.evs, evl, tblS, List.getD_cons_zero, List.getD_cons_succ, List.getElem?_cons_zero, List.getElem?_cons_succ, tt_b, int_i, str_s, rs_r, Option.isSome_some, Option.getD_some, decide_eq_true_eq, decide_eq_false_iff_not, dS_eS, dC_eC, dU_eU, dW_eW, dY_eY, eC_0, eC_1, eU_0, eU_1, eW_0, eW_1, eW_2, eY_0, eY_1, eS_0, eS_1, eS_2, eS_3, eS_4, eS_5, List.length_map, i_inj, b_inj, s_inj, eC_eq, eU_eq, eW_eq, eY_eq, eS_eq, rng64, List.take_succ_cons, List.take_zero, List.nil_append, List.cons_append, decide_true, decide_false, Bool.or_true, true_and, and_true, gSIi, gSIb, gSCb, gSIbP, oldR, oldB]
  cases hin : inS s u.at' with
  | false => simp
  | true =>
    have h1 := inS_iff.1 hin
    have hr : i64 (u.at' - 1) := ⟨by omega, by omega⟩
    simp only [hr, if_true]
    by_cases h0 : u.old.t = 0
    · simp [h0]
    · by_cases h5 : u.old.t = 5
      · simp [h5, Bool.and_assoc, tt_b, rng64, hr.1, hr.2]
      · by_cases h2 : u.old.t = 1
        · simp [h2]
        · by_cases h3 : u.old.t = 2
          · simp [h3]
          · by_cases h4 : u.old.t = 3
            · simp [h4]
            · simp [h0, h5, h2, h3, h4]
theorem ok_cells_validUndo : FOk ct_cells_validUndo (gSUb oldP) := fok_cells_validUndo ok_cells_tag ok_cells_group ok_cells_ValidCell fun ds outs hw hg => by
  obtain ⟨d, r, rfl, hd, e, r', rfl, he, rfl⟩ := hw
  obtain ⟨s, rfl, hs⟩ := wfS hd
  obtain ⟨u, rfl, hu⟩ := wfU he
  simp only [gSUb, dS_eS, dU_eU, Option.some.injEq] at hg
  subst hg
  have hl := hs.cs.1
  simp only [tree_cells_validUndo, Tree.go, allSay, X.says, X.ev, X.evs, evl, tblS, List.getD_cons_zero, List.getD_cons_succ, List.getElem?_cons_zero, List.getElem?_cons_succ, tt_b, int_i, str_s, rs_r, Option.isSome_some, Option.getD_some, decide_eq_true_eq, decide_eq_false_iff_not, dS_eS, dC_eC, dU_eU, dW_eW, dY_eY, eC_0, eC_1, eU_0, eU_1, eW_0, eW_1, eW_2, eY_0, eY_1, eS_0, eS_1, eS_2, eS_3, eS_4, eS_5, List.length_map, i_inj, b_inj, s_inj, eC_eq, eU_eq, eW_eq, eY_eq, eS_eq, rng64, List.take_succ_cons, List.take_zero, List.nil_append, List.cons_append, decide_true, decide_false, Bool.or_true, true_and, and_true, gSIi, gSIb, gSCb, gSIbP, oldP, oldB]
  by_cases ht : 0 ≤ tagS s u.at'
  · have ht' : ¬ (tagS s u.at' < 0) := by omega
    have hin : inS s u.at' = true := by
      cases hin : inS s u.at' with
      | true => rfl
      | false => rw [tagS_out hin] at ht; omega
    have h1 := inS_iff.1 hin
    have hr : i64 (u.at' - 1) := ⟨by omega, by omega⟩
    simp only [hr, hin, ht, ht', if_true]
    by_cases h0 : u.old.t = 0
    · simp [h0]
    · by_cases h5 : u.old.t = 5
      · simp [h5, Bool.and_assoc, tt_b, rng64, hr.1, hr.2]
      · by_cases h2 : u.old.t = 1
        · simp [h2]
        · by_cases h3 : u.old.t = 2
          · simp [h3]
          · by_cases h4 : u.old.t = 3
            · simp [h4]
            · simp [h0, h5, h2, h3, h4]
  · have ht' : tagS s u.at' < 0 := by omega
    simp [ht, ht']
end Go.Proofs.Ytinclokohcommaa

namespace Go.Proofs.Ytinclokohcommaa
open Go.RowKit
set_option linter.unusedVariables false
set_option linter.unusedSimpArgs false

section
variable {s : So}

/-- A reference that leads on. -/
def Ns (s : So) (n : Int) : Prop := tagS s n = 0 ∧ ¬ (cellAt s n).n = n
abbrev nx (s : So) (n : Int) : Int := (cellAt s n).n
theorem endsN_ns {k : Nat} {n : Int} (h : Ns s n) : endsN s (k + 1) n = endsN s k (nx s n) := if_pos h
theorem endsN_st {k : Nat} {n : Int} (h : ¬ Ns s n) : endsN s (k + 1) n = true := if_neg h
theorem Ns.inS {n : Int} (h : Ns s n) : inS s n = true := tag_in' (by decide) h.1
theorem endsN_up {k : Nat} : ∀ {n : Int}, endsN s k n = true → endsN s (k + 1) n = true := by
  induction k with
  | zero => intro n h; cases h
  | succ k ih =>
    intro n h
    by_cases hn : Ns s n
    · rw [endsN_ns hn] at h ⊢
      exact ih h
    · exact endsN_st hn
theorem endsN_le {k j : Nat} (hk : k ≤ j) {n : Int} (h : endsN s k n = true) : endsN s j n = true := by
  obtain ⟨d, rfl⟩ := Nat.exists_eq_add_of_le hk
  clear hk
  induction d with
  | zero => exact h
  | succ d ih => exact endsN_up ih
def En (s : So) (n : Int) : Prop := ∃ k, endsN s k n = true
theorem En.st {n : Int} (h : ¬ Ns s n) : En s n := ⟨1, endsN_st h⟩
theorem En.ns {n : Int} (h : Ns s n) (he : En s (nx s n)) : En s n := let ⟨k, hk⟩ := he; ⟨k + 1, (endsN_ns h).trans hk⟩

theorem nodup_lt : ∀ (n : Nat) (l : List Nat), l.Nodup → (∀ x ∈ l, x < n) → l.length ≤ n
  | 0, [], _, _ => Nat.le_refl _
  | 0, x :: l, _, h => absurd (h x List.mem_cons_self) (Nat.not_lt_zero _)
  | n + 1, l, hn, h => by
    have h1 := nodup_lt n (l.erase n) (hn.erase n) fun x hx => by
      have h2 := (hn.mem_erase_iff).1 hx
      have := h x h2.2
      have := h2.1
      omega
    have h2 := List.length_erase (a := n) (l := l)
    split at h2 <;> omega

/-- The nodes of a chain that ends after k steps, the last left out. -/
theorem rank_list : ∀ (k : Nat) (n : Int), endsN s (k + 1) n = true → endsN s k n = false → ∃ l : List Int, l.length = k ∧ l.Nodup ∧ (∀ x ∈ l, inS s x = true) ∧ ∀ x ∈ l, ∃ j, j ≤ k ∧ endsN s (j + 1) x = true
  | 0, n, _, _ => ⟨[], rfl, List.nodup_nil, (fun x hx => by cases hx), fun x hx => by cases hx⟩
  | k + 1, n, h1, h2 => by
    have hn : Ns s n := Classical.byContradiction fun hn => by rw [endsN_st hn] at h2; cases h2
    rw [endsN_ns hn] at h1 h2
    obtain ⟨l, e1, e2, e3, e4⟩ := rank_list k _ h1 h2
    refine ⟨n :: l, by simp [e1], ?_, fun x hx => ?_, fun x hx => ?_⟩
    · refine List.nodup_cons.2 ⟨fun hm => ?_, e2⟩
      obtain ⟨j, hj, he⟩ := e4 n hm
      rw [endsN_ns hn] at he
      rw [endsN_le hj he] at h2
      cases h2
    · rcases List.mem_cons.1 hx with rfl | hx
      · exact hn.inS
      · exact e3 x hx
    · rcases List.mem_cons.1 hx with rfl | hx
      · exact ⟨k + 1, Nat.le_refl _, by rw [endsN_ns hn]; exact h1⟩
      · obtain ⟨j, hj, he⟩ := e4 x hx
        exact ⟨j, by omega, he⟩
theorem En.ends {n : Int} (h : En s n) : endsB s n = true := by
  obtain ⟨k, hk⟩ := h
  induction k with
  | zero => cases hk
  | succ k ih =>
    cases hk' : endsN s k n with
    | true => exact ih hk'
    | false =>
      obtain ⟨l, e1, e2, e3, -⟩ := rank_list k n hk hk'
      have h1 := nodup_lt s.cs.length (l.map Int.toNat) ?_ ?_
      · rw [List.length_map, e1] at h1
        exact endsN_le (by omega) hk
      · refine List.Pairwise.map _ (fun a b h => h) ?_
        refine List.Pairwise.imp_of_mem (R := fun a b => a ≠ b) (fun {a b} ha hb hab e => hab ?_) e2
        have h1 := inS_iff.1 (e3 a ha)
        have h2 := inS_iff.1 (e3 b hb)
        omega
      · intro x hx
        obtain ⟨a, ha, rfl⟩ := List.mem_map.1 hx
        have h1 := inS_iff.1 (e3 a ha)
        omega

/-- A path of references to a. -/
def Ch (s : So) : List Int → Int → Prop
  | [], _ => True
  | q :: l, a => Ns s q ∧ nx s q = l.headD a ∧ Ch s l a
theorem Ch.snoc : ∀ {l : List Int} {a b : Int}, Ch s l a → Ns s a → nx s a = b → Ch s (l ++ [a]) b
  | [], a, b, _, h1, h2 => ⟨h1, h2, trivial⟩
  | q :: l, a, b, ⟨g1, g2, g3⟩, h1, h2 => ⟨g1, by cases l <;> exact g2, Ch.snoc g3 h1 h2⟩
theorem Ch.en : ∀ {l : List Int} {a : Int}, Ch s l a → En s a → ∀ q ∈ l, En s q
  | [], a, _, _, q, hq => by cases hq
  | q :: l, a, ⟨g1, g2, g3⟩, he, x, hx => by
    have ih := Ch.en g3 he
    rcases List.mem_cons.1 hx with rfl | hx
    · refine En.ns g1 ?_
      rw [g2]
      cases l with
      | nil => exact he
      | cons y l => exact ih y List.mem_cons_self
    · exact ih x hx
theorem Ch.next : ∀ {l : List Int} {a : Int}, Ch s l a → ∀ q ∈ l, Ns s q ∧ (nx s q ∈ l ∨ nx s q = a)
  | [], a, _, q, hq => by cases hq
  | q :: l, a, ⟨g1, g2, g3⟩, x, hx => by
    rcases List.mem_cons.1 hx with rfl | hx
    · refine ⟨g1, ?_⟩
      rw [g2]
      cases l with
      | nil => exact .inr rfl
      | cons y l => exact .inl (by simp)
    · obtain ⟨h1, h2⟩ := Ch.next g3 x hx
      exact ⟨h1, h2.imp (List.mem_cons_of_mem _) id⟩
theorem closed_no {Q : List Int} (h : ∀ q ∈ Q, Ns s q ∧ nx s q ∈ Q) : ∀ (k : Nat) (q : Int), q ∈ Q → endsN s k q = false
  | 0, q, _ => rfl
  | k + 1, q, hq => by
    rw [endsN_ns (h q hq).1]
    exact closed_no h k _ (h q hq).2

def acyP (s : So) : Bool := (List.range s.cs.length).all fun i => endsB s (i : Nat)
def acyQ (s : So) : Bool := decide (s.cs.length ≤ 16777216) && (List.range s.cs.length).all fun i => !decide ((cellAt s (i : Nat)).t = 0) || inS s (cellAt s (i : Nat)).n

/-- The marks. -/
structure Mk0 (s : So) (m : List Int) : Prop where
  len : m.length = s.cs.length
  en : ∀ j : Nat, m.getD j 0 = 2 → En s j
theorem marks_get {m : List Int} {i : Int} (h0 : 0 ≤ i) (h : i < m.length) : (D.r (m.map D.i)).get i = .i (m.getD i.toNat 0) := by
  have : i.toNat < m.length := by omega
  simp [D.get, D.rs, List.getD_eq_getElem?_getD, this]
theorem marks_set {m : List Int} {k : Nat} {x : Int} : (m.map D.i).set k (.i x) = (m.set k x).map D.i := by simp
theorem getD_set {m : List Int} {k j : Nat} {x : Int} (hk : k < m.length) : (m.set k x).getD j 0 = if k = j then x else m.getD j 0 := by
  simp only [List.getD_eq_getElem?_getD, List.getElem?_set, hk]
  split <;> simp_all
end
end Go.Proofs.Ytinclokohcommaa

namespace Go.Proofs.Ytinclokohcommaa
open Go.RowKit
set_option linter.unusedVariables false
set_option linter.unusedSimpArgs false

/-- The loop that marks a path as done. -/
def markT (P M : X) : Tree := .loop 16 8 [(.lit (.i 0)), M] (.br (.lt (.tok 8) (.len P)) (.need [(.le (.lit (.i 0)) (.tok 8)), (.lt (.tok 8) (.len P))] (.need [(.le (.lit (.i 0)) (.get P (.tok 8))), (.lt (.get P (.tok 8)) (.len (.tok 9)))] (.need [(.rng .i64 (.add (.tok 8) (.lit (.i 1))))] (.back 16 [(.add (.tok 8) (.lit (.i 1))), (.put (.tok 9) (.get P (.tok 8)) (.lit (.i 2)))])))) (.need [(.rng .i64 (.add (.tok 2) (.lit (.i 1))))] (.back 3 [(.tok 6), (.add (.tok 2) (.lit (.i 1))), (.tok 9)])))

theorem take_mem_snoc {l : List Int} {k : Nat} (h : k < l.length) (x : Int) : x ∈ l.take (k + 1) ↔ x ∈ l.take k ∨ x = l.getD k default := by
  rw [take_snoc h]
  simp

theorem mark_ok {S : Nat → List D → Option (List D)} {R : List D → Prop} {L : List D} {B : Nat → List D → Prop} {P M : X} {l m : List Int} {i : Nat} (hL : L.length = 8) (hP : ∀ e, P.ev (evl S (L ++ e)) = .r (l.map D.i)) (hM : M.ev (evl S L) = .r (m.map D.i))
    (h2 : L.getD 2 .u = .i i) (hi : i64 ((i : Int) + 1)) (hl : ∀ x ∈ l, 0 ≤ x ∧ x < m.length) (hll : l.length ≤ 16777216)
    (hB : ∀ f : List Int, f.length = m.length → (∀ j : Nat, j < m.length → f.getD j 0 = if (j : Int) ∈ l then 2 else m.getD j 0) → B 3 [L.getD 6 .u, .i ((i : Int) + 1), .r (f.map D.i)]) : (markT P M).go S R L B := by
  unfold markT
  rw [go_loop]
  have hM' : (evl S L) = ⟨fun k => L.getD k .u, S⟩ := rfl
  refine ⟨fun st => ∃ (k : Nat) (f : List Int), k ≤ l.length ∧ st = [.i k, .r (f.map D.i)] ∧ f.length = m.length ∧ ∀ j : Nat, j < m.length → f.getD j 0 = if (j : Int) ∈ l.take k then 2 else m.getD j 0, fun st => l.length - (st.getD 0 .u).int.toNat, ⟨0, m, Nat.zero_le _, by simp [X.evs, X.ev, hM], rfl, fun j _ => by simp⟩, ?_⟩
  rintro st - ⟨k, f, hk, rfl, hfl, hf⟩
  rw [List.take_of_length_le (by omega)]
  have t : ∀ j, j < 8 → (L ++ [D.i k, D.r (f.map D.i)]).getD j .u = L.getD j .u := fun j hj => by
    simp only [List.getD_eq_getElem?_getD]
    rw [List.getElem?_append_left (by omega)]
  have t8 : (L ++ [D.i k, D.r (f.map D.i)]).getD 8 .u = .i k := by
    simp only [List.getD_eq_getElem?_getD]
    rw [List.getElem?_append_right (by omega), hL]
    rfl
  have t9 : (L ++ [D.i k, D.r (f.map D.i)]).getD 9 .u = .r (f.map D.i) := by
    simp only [List.getD_eq_getElem?_getD]
    rw [List.getElem?_append_right (by omega), hL]
    rfl
  have hP' := hP [D.i k, D.r (f.map D.i)]
  have e2 : (L ++ [D.i k, D.r (f.map D.i)]).getD 2 .u = .i i := (t 2 (by omega)).trans h2
  have e6 := t 6 (by omega)
  generalize hg : evl S (L ++ [D.i k, D.r (f.map D.i)]) = g at hP'
  have hE : ∀ n, g.E n = (L ++ [D.i k, D.r (f.map D.i)]).getD n .u := fun n => by rw [← hg]; rfl
  simp only [go_need, go_br, go_back, allSay, X.says, hg, X.evs, X.ev, hP', hE, t8, t9, e2, e6, int_i, rs_r, tt_b, List.length_map, decide_eq_true_eq, decide_eq_false_iff_not, and_true]
  refine ⟨fun hlt => ?_, fun hlt => ?_⟩
  · have hkl : k < l.length := by omega
    have hm := getD_mem hkl
    have hr := hl _ hm
    have hget : (D.r (l.map D.i)).get (k : Int) = .i (l.getD k default) := get_n D.i hkl
    rw [hget]
    generalize hx : l.getD k default = x at hm hr
    simp only [int_i]
    refine ⟨⟨by omega, hlt⟩, ⟨hr.1, by omega⟩, rng64.2 ⟨by omega, by omega⟩, ?_⟩
    rw [updB, if_pos rfl]
    refine ⟨⟨k + 1, f.set x.toNat 2, hkl, by simp, by simp [hfl], fun j hj => ?_⟩, ?_⟩
    · rw [getD_set (by omega), hf j hj]
      by_cases hjx : x.toNat = j
      · have : (j : Int) ∈ l.take (k + 1) := (take_mem_snoc hkl _).2 (.inr (by omega))
        rw [if_pos hjx, if_pos this]
      · rw [if_neg hjx]
        by_cases hm2 : (j : Int) ∈ l.take k
        · rw [if_pos hm2, if_pos ((take_mem_snoc hkl _).2 (.inl hm2))]
        · rw [if_neg hm2, if_neg fun h => ?_]
          rcases (take_mem_snoc hkl _).1 h with h | h
          · exact hm2 h
          · omega
    · simp [D.int]
      omega
  · have : k = l.length := by omega
    subst this
    refine ⟨rng64.2 hi, ?_⟩
    rw [updB, if_neg (by decide)]
    rw [List.take_length] at hf
    exact hB f hfl hf

instance {s : So} {n : Int} : Decidable (Ns s n) := inferInstanceAs (Decidable (_ ∧ _))

theorem ok_cells_acyclic : FOk ct_cells_acyclic (gSbP acyQ acyP) := fok_cells_acyclic fun ds outs hw hg => by
  obtain ⟨d, r, rfl, hd, rfl⟩ := hw
  obtain ⟨s, rfl, hs⟩ := wfS hd
  simp only [gSbP, dS_eS, Option.ite_none_right_eq_some, Option.some.injEq, acyQ, Bool.and_eq_true, decide_eq_true_eq] at hg
  obtain ⟨⟨hlen, hrf⟩, rfl⟩ := hg
  have hrange : ∀ n : Int, Ns s n → inS s (nx s n) = true := fun n hn => by
    have h1 := inS_iff.1 hn.inS
    have h2 := all_of hrf (k := n.toNat) (by omega)
    have e : ((n.toNat : Nat) : Int) = n := by omega
    have h0 : (cellAt s n).t = 0 := by rw [← tagS_in hn.inS]; exact hn.1
    rw [e] at h2
    simpa [h0] using h2
  rw [tree_cells_acyclic, go_need]
  refine ⟨by simp only [go_need, go_br, go_leaf, go_back, allSay, X.says, X.ev, X.evs, evl, tblS, List.getD_cons_zero, List.getD_cons_succ, List.getElem?_cons_zero, List.getElem?_cons_succ, tt_b, int_i, str_s, rs_r, Option.isSome_some, Option.getD_some, decide_eq_true_eq, decide_eq_false_iff_not, dS_eS, dC_eC, dU_eU, dW_eW, dY_eY, eC_0, eC_1, eU_0, eU_1, eW_0, eW_1, eW_2, eY_0, eY_1, eS_0, eS_1, eS_2, eS_3, eS_4, eS_5, List.length_map, i_inj, b_inj, s_inj, eC_eq, eU_eq, eW_eq, eY_eq, eS_eq, rng64, List.take_succ_cons, List.take_zero, List.nil_append, List.cons_append, decide_true, decide_false, Bool.or_true, true_and, and_true]; omega, ?_⟩
  rw [go_loop]
  refine ⟨fun st => ∃ (i : Nat) (m : List Int), i ≤ s.cs.length ∧ st = [.b false, .i i, .r (m.map D.i)] ∧ Mk0 s m ∧ (∀ j : Nat, j < s.cs.length → m.getD j 0 = 0 ∨ m.getD j 0 = 2) ∧ ∀ j : Nat, j < i → En s j, fun st => s.cs.length - (st.getD 1 .u).int.toNat,
    ⟨0, List.replicate s.cs.length 0, Nat.zero_le _, by simp [X.evs, X.ev, evl, eS_0, D.int, D.rs], ⟨by simp, fun j hj => ?_⟩, fun j hj => ?_, fun j hj => absurd hj (Nat.not_lt_zero _)⟩, ?_⟩
  · exfalso
    simp only [List.getD_eq_getElem?_getD, List.getElem?_replicate] at hj
    split at hj <;> simp at hj
  · left
    simp [List.getD_eq_getElem?_getD, List.getElem?_replicate, hj]
  rintro st - ⟨i, m, hi, rfl, hm, hm02, hdone⟩
  rw [go_br]
  refine ⟨fun hlt => ?_, fun hlt => ?_⟩
  · have hil : i < s.cs.length := by simpa [X.ev, evl, eS_0, D.int, D.rs, D.tt] using hlt
    rw [go_loop]
    refine ⟨fun st => ∃ (l : List Int) (a : Int) (f : List Int), st = [.r (l.map D.i), .i a, .b false, .r (f.map D.i)] ∧ inS s a = true ∧ f.length = s.cs.length ∧ Ch s l a ∧ l.headD a = (i : Int) ∧ (∀ x ∈ l, inS s x = true) ∧ l.length ≤ s.cs.length - f.count 0 ∧ ¬ f.getD a.toNat 0 = 1 ∧
      ∀ j : Nat, j < s.cs.length → f.getD j 0 = if (j : Int) ∈ l then 1 else m.getD j 0, fun st => ((st.getD 3 .u).rs.map D.int).count 0, ⟨[], i, m, by simp [X.evs, X.ev, evl], inS_iff.2 ⟨by omega, by omega⟩, hm.len, trivial, rfl, (fun x hx => by cases hx), Nat.zero_le _, ?_, fun j hj => by simp⟩, ?_⟩
    · have := hm02 i hil
      simp only [Int.toNat_natCast]
      omega
    rintro st - ⟨l, a, f, rfl, hin, hfl, hch, hhd, hl, hll, hna, hf⟩
    have ha := inS_iff.1 hin
    have hfa : (f.getD a.toNat 0) = if a ∈ l then 1 else m.getD a.toNat 0 := by
      have := hf a.toNat (by omega)
      rwa [show ((a.toNat : Nat) : Int) = a by omega] at this
    have hal : a ∉ l := fun h => hna (by rw [hfa, if_pos h])
    rw [if_neg hal] at hfa
    have hmark : (D.r (f.map D.i)).get a = .i (f.getD a.toNat 0) := marks_get ha.1 (by omega)
    rw [go_need]
    refine ⟨by simp only [go_need, go_br, go_leaf, go_back, allSay, X.says, X.ev, X.evs, evl, tblS, List.getD_cons_zero, List.getD_cons_succ, List.getElem?_cons_zero, List.getElem?_cons_succ, tt_b, int_i, str_s, rs_r, Option.isSome_some, Option.getD_some, decide_eq_true_eq, decide_eq_false_iff_not, dS_eS, dC_eC, dU_eU, dW_eW, dY_eY, eC_0, eC_1, eU_0, eU_1, eW_0, eW_1, eW_2, eY_0, eY_1, eS_0, eS_1, eS_2, eS_3, eS_4, eS_5, List.length_map, i_inj, b_inj, s_inj, eC_eq, eU_eq, eW_eq, eY_eq, eS_eq, rng64, List.take_succ_cons, List.take_zero, List.nil_append, List.cons_append, decide_true, decide_false, Bool.or_true, true_and, and_true]; omega, ?_⟩
    rw [go_br]
    -- what the marks are when a path is done
    have finish : ∀ (p : List Int), (∀ x ∈ p, inS s x = true) → (∀ x ∈ p, En s x) → En s i → (∀ x ∈ l, x ∈ p) → ∀ (f' : List Int), f'.length = s.cs.length → (∀ j : Nat, j < s.cs.length → f'.getD j 0 = if (j : Int) ∈ p then 2 else m.getD j 0) →
        updB (fun x x_1 => False) 3 (fun st' => (∃ (i : Nat) (m : List Int), i ≤ s.cs.length ∧ st' = [.b false, .i i, .r (m.map D.i)] ∧ Mk0 s m ∧ (∀ j : Nat, j < s.cs.length → m.getD j 0 = 0 ∨ m.getD j 0 = 2) ∧ ∀ j : Nat, j < i → En s j) ∧ s.cs.length - (st'.getD 1 .u).int.toNat < s.cs.length - (([D.b false, D.i i, D.r (m.map D.i)] : List D).getD 1 .u).int.toNat) 3 [.b false, .i ((i : Int) + 1), .r (f'.map D.i)] := by
      intro p hp1 hp2 hei hlp f' hf1 hf2
      rw [updB, if_pos rfl]
      refine ⟨⟨i + 1, f', hil, by simp, ⟨hf1, fun j hj => ?_⟩, fun j hj => ?_, fun j hj => ?_⟩, ?_⟩
      · by_cases hjl : j < s.cs.length
        · rw [hf2 j hjl] at hj
          split at hj
          · rename_i hjp; exact hp2 _ hjp
          · exact hm.en j hj
        · rw [List.getD_eq_getElem?_getD, List.getElem?_eq_none (by omega)] at hj
          cases hj
      · rw [hf2 j hj]
        split
        · exact .inr rfl
        · exact hm02 j hj
      · rcases Nat.lt_succ_iff_lt_or_eq.1 hj with h | h
        · exact hdone j h
        · rw [h]; exact hei
      · simp [D.int]
        omega
    have hend : En s a → En s i := fun he => by
      cases l with
      | nil => rw [← hhd]; exact he
      | cons y l => rw [← hhd]; exact hch.en he y List.mem_cons_self
    refine ⟨fun hz => ?_, fun hz => ?_⟩
    · -- an unknown cell
      have hz' : f.getD a.toNat 0 = 0 := by
        simp only [go_need, go_br, go_leaf, go_back, allSay, X.says, X.ev, X.evs, evl, tblS, List.getD_cons_zero, List.getD_cons_succ, List.getElem?_cons_zero, List.getElem?_cons_succ, tt_b, int_i, str_s, rs_r, Option.isSome_some, Option.getD_some, decide_eq_true_eq, decide_eq_false_iff_not, dS_eS, dC_eC, dU_eU, dW_eW, dY_eY, eC_0, eC_1, eU_0, eU_1, eW_0, eW_1, eW_2, eY_0, eY_1, eS_0, eS_1, eS_2, eS_3, eS_4, eS_5, List.length_map, i_inj, b_inj, s_inj, eC_eq, eU_eq, eW_eq, eY_eq, eS_eq, rng64, List.take_succ_cons, List.take_zero, List.nil_append, List.cons_append, decide_true, decide_false, Bool.or_true, true_and, and_true, hmark] at hz
        exact hz
      have hc0 : 0 < f.count 0 := List.count_pos_iff.2 (by
        rw [List.getD_eq_getElem?_getD, List.getElem?_eq_getElem (by omega)] at hz'
        have : f[a.toNat] = 0 := hz'
        exact List.mem_iff_getElem.2 ⟨a.toNat, by omega, this⟩)
      have hcl : f.count 0 ≤ f.length := List.count_le_length
      have hset : (f.set a.toNat 1).count 0 = f.count 0 - 1 := by
        rw [List.count_set (by omega)]
        have : f[a.toNat]'(by omega) = 0 := by
          rw [List.getD_eq_getElem?_getD, List.getElem?_eq_getElem (by omega)] at hz'
          exact hz'
        simp [this]
      rw [go_need, go_need, go_need]
      refine ⟨by simp only [go_need, go_br, go_leaf, go_back, allSay, X.says, X.ev, X.evs, evl, tblS, List.getD_cons_zero, List.getD_cons_succ, List.getElem?_cons_zero, List.getElem?_cons_succ, tt_b, int_i, str_s, rs_r, Option.isSome_some, Option.getD_some, decide_eq_true_eq, decide_eq_false_iff_not, dS_eS, dC_eC, dU_eU, dW_eW, dY_eY, eC_0, eC_1, eU_0, eU_1, eW_0, eW_1, eW_2, eY_0, eY_1, eS_0, eS_1, eS_2, eS_3, eS_4, eS_5, List.length_map, i_inj, b_inj, s_inj, eC_eq, eU_eq, eW_eq, eY_eq, eS_eq, rng64, List.take_succ_cons, List.take_zero, List.nil_append, List.cons_append, decide_true, decide_false, Bool.or_true, true_and, and_true]; omega, by simp only [go_need, go_br, go_leaf, go_back, allSay, X.says, X.ev, X.evs, evl, tblS, List.getD_cons_zero, List.getD_cons_succ, List.getElem?_cons_zero, List.getElem?_cons_succ, tt_b, int_i, str_s, rs_r, Option.isSome_some, Option.getD_some, decide_eq_true_eq, decide_eq_false_iff_not, dS_eS, dC_eC, dU_eU, dW_eW, dY_eY, eC_0, eC_1, eU_0, eU_1, eW_0, eW_1, eW_2, eY_0, eY_1, eS_0, eS_1, eS_2, eS_3, eS_4, eS_5, List.length_map, i_inj, b_inj, s_inj, eC_eq, eU_eq, eW_eq, eY_eq, eS_eq, rng64, List.take_succ_cons, List.take_zero, List.nil_append, List.cons_append, decide_true, decide_false, Bool.or_true, true_and, and_true]; omega, by simp only [go_need, go_br, go_leaf, go_back, allSay, X.says, X.ev, X.evs, evl, tblS, List.getD_cons_zero, List.getD_cons_succ, List.getElem?_cons_zero, List.getElem?_cons_succ, tt_b, int_i, str_s, rs_r, Option.isSome_some, Option.getD_some, decide_eq_true_eq, decide_eq_false_iff_not, dS_eS, dC_eC, dU_eU, dW_eW, dY_eY, eC_0, eC_1, eU_0, eU_1, eW_0, eW_1, eW_2, eY_0, eY_1, eS_0, eS_1, eS_2, eS_3, eS_4, eS_5, List.length_map, i_inj, b_inj, s_inj, eC_eq, eU_eq, eW_eq, eY_eq, eS_eq, rng64, List.take_succ_cons, List.take_zero, List.nil_append, List.cons_append, decide_true, decide_false, Bool.or_true, true_and, and_true]; omega, ?_⟩
      rw [go_br]
      have hcond : (X.ev (evl (tblS []) ([eS s, D.b false, D.i i, D.r (m.map D.i)] ++ [D.r (l.map D.i), D.i a, D.b false, D.r (f.map D.i)])) ((.or (.not (.eq (.fld (.get (.fld (.tok 0) 0) (.tok 5)) 0) (.lit (.i 0)))) (.eq (.fld (.get (.fld (.tok 0) 0) (.tok 5)) 1) (.tok 5))))).tt = !decide (Ns s a) := by
        simp only [go_need, go_br, go_leaf, go_back, allSay, X.says, X.ev, X.evs, evl, tblS, List.getD_cons_zero, List.getD_cons_succ, List.getElem?_cons_zero, List.getElem?_cons_succ, tt_b, int_i, str_s, rs_r, Option.isSome_some, Option.getD_some, decide_eq_true_eq, decide_eq_false_iff_not, dS_eS, dC_eC, dU_eU, dW_eW, dY_eY, eC_0, eC_1, eU_0, eU_1, eW_0, eW_1, eW_2, eY_0, eY_1, eS_0, eS_1, eS_2, eS_3, eS_4, eS_5, List.length_map, i_inj, b_inj, s_inj, eC_eq, eU_eq, eW_eq, eY_eq, eS_eq, rng64, List.take_succ_cons, List.take_zero, List.nil_append, List.cons_append, decide_true, decide_false, Bool.or_true, true_and, and_true, cell_get hin, Ns, tagS_in hin]
        by_cases h0 : (cellAt s a).t = 0 <;> simp [h0]
      refine ⟨fun hst => ?_, fun hst => ?_⟩
      · have hns : ¬ Ns s a := by
          have := hcond.symm.trans hst
          simpa using this
        have hea := En.st hns
        refine mark_ok (P := .app (.tok 4) (.row [.tok 5])) (l := l ++ [a]) (m := f.set a.toNat 1) (i := i) rfl (fun e => by simp [X.ev, X.evs, evl, D.rs]) (by simp [X.ev, evl, D.rs, D.int]) rfl ⟨by omega, by omega⟩ (fun x hx => ?_) (by simp; omega) fun f' hf1 hf2 => ?_
        · rcases List.mem_append.1 hx with hx | hx
          · have := inS_iff.1 (hl x hx); simp; omega
          · obtain rfl : x = a := by simpa using hx
            simp; omega
        · refine finish (l ++ [a]) (fun x hx => ?_) (fun x hx => ?_) (hend hea) (fun x hx => List.mem_append_left _ hx) f' (by simpa [hfl] using hf1) fun j hj => ?_
          · rcases List.mem_append.1 hx with hx | hx
            · exact hl x hx
            · obtain rfl : x = a := by simpa using hx
              exact hin
          · rcases List.mem_append.1 hx with hx | hx
            · exact hch.en hea x hx
            · obtain rfl : x = a := by simpa using hx
              exact hea
          · rw [hf2 j (by simp; omega)]
            by_cases hjm : (j : Int) ∈ l ++ [a]
            · rw [if_pos hjm, if_pos hjm]
            · rw [if_neg hjm, if_neg hjm, getD_set (by omega), if_neg, hf j hj, if_neg fun h => hjm (List.mem_append_left _ h)]
              intro e
              exact hjm (List.mem_append_right _ (by simp; omega))
      · have hns : Ns s a := by
          have := hcond.symm.trans hst
          simpa using this
        have hin2 : inS s (cellAt s a).n = true := hrange a hns
        have hb := inS_iff.1 hin2
        have hgb : (D.r ((f.set a.toNat 1).map D.i)).get ((cellAt s a).n) = .i ((f.set a.toNat 1).getD ((cellAt s a).n).toNat 0) := marks_get hb.1 (by simp; omega)
        have hput : D.r ((f.map D.i).set a.toNat (.i 1)) = D.r ((f.set a.toNat 1).map D.i) := by rw [marks_set]
        rw [go_need]
        refine ⟨by simp only [go_need, go_br, go_leaf, go_back, allSay, X.says, X.ev, X.evs, evl, tblS, List.getD_cons_zero, List.getD_cons_succ, List.getElem?_cons_zero, List.getElem?_cons_succ, tt_b, int_i, str_s, rs_r, Option.isSome_some, Option.getD_some, decide_eq_true_eq, decide_eq_false_iff_not, dS_eS, dC_eC, dU_eU, dW_eW, dY_eY, eC_0, eC_1, eU_0, eU_1, eW_0, eW_1, eW_2, eY_0, eY_1, eS_0, eS_1, eS_2, eS_3, eS_4, eS_5, List.length_map, i_inj, b_inj, s_inj, eC_eq, eU_eq, eW_eq, eY_eq, eS_eq, rng64, List.take_succ_cons, List.take_zero, List.nil_append, List.cons_append, decide_true, decide_false, Bool.or_true, true_and, and_true, cell_get hin, List.length_set]; omega, ?_⟩
        rw [go_br]
        simp only [go_need, go_br, go_leaf, go_back, allSay, X.says, X.ev, X.evs, evl, tblS, List.getD_cons_zero, List.getD_cons_succ, List.getElem?_cons_zero, List.getElem?_cons_succ, tt_b, int_i, str_s, rs_r, Option.isSome_some, Option.getD_some, decide_eq_true_eq, decide_eq_false_iff_not, dS_eS, dC_eC, dU_eU, dW_eW, dY_eY, eC_0, eC_1, eU_0, eU_1, eW_0, eW_1, eW_2, eY_0, eY_1, eS_0, eS_1, eS_2, eS_3, eS_4, eS_5, List.length_map, i_inj, b_inj, s_inj, eC_eq, eU_eq, eW_eq, eY_eq, eS_eq, rng64, List.take_succ_cons, List.take_zero, List.nil_append, List.cons_append, decide_true, decide_false, Bool.or_true, true_and, and_true, cell_get hin, hput, hgb]
        have hf' : ∀ j : Nat, j < s.cs.length → (f.set a.toNat 1).getD j 0 = if (j : Int) ∈ l ++ [a] then 1 else m.getD j 0 := fun j hj => by
          rw [getD_set (by omega), hf j hj]
          by_cases hja : a.toNat = j
          · rw [if_pos hja, if_pos (List.mem_append_right _ (by simp; omega))]
          · rw [if_neg hja]
            by_cases hjl : (j : Int) ∈ l
            · rw [if_pos hjl, if_pos (List.mem_append_left _ hjl)]
            · rw [if_neg hjl, if_neg fun h => ?_]
              rcases List.mem_append.1 h with h | h
              · exact hjl h
              · simp at h; omega
        refine ⟨fun hact => ?_, fun hact => ?_⟩
        · have hmem : (cellAt s a).n ∈ l ++ [a] := by
            rw [hf' _ (by omega), show ((((cellAt s a).n).toNat : Nat) : Int) = (cellAt s a).n by omega] at hact
            split at hact
            · assumption
            · have := hm02 ((cellAt s a).n).toNat (by omega)
              omega
          have hcl := closed_no (s := s) (Q := l ++ [a]) fun q hq => by
            rcases List.mem_append.1 hq with hq | hq
            · obtain ⟨g1, g2⟩ := hch.next q hq
              refine ⟨g1, g2.elim (List.mem_append_left _) fun e => List.mem_append_right _ (by simp [e])⟩
            · obtain rfl : q = a := by simpa using hq
              exact ⟨hns, hmem⟩
          have : acyP s = false := all_not hil (hcl _ _ (by
            rw [← hhd]
            cases l <;> simp))
          rw [this]
        · rw [updB, if_pos rfl]
          refine ⟨⟨l ++ [a], (cellAt s a).n, f.set a.toNat 1, by simp, hin2, by simp [hfl], hch.snoc hns rfl, by cases l <;> simpa using hhd, fun x hx => ?_, ?_, hact, hf'⟩, ?_⟩
          · rcases List.mem_append.1 hx with hx | hx
            · exact hl x hx
            · obtain rfl : x = a := by simpa using hx
              exact hin
          · rw [hset]
            simp
            omega
          · show List.count 0 (((f.set a.toNat 1).map D.i).map D.int) < List.count 0 ((f.map D.i).map D.int)
            rw [map_id' int_i, map_id' int_i, hset]
            omega
    · -- a cell that is done
      have hz' : ¬ f.getD a.toNat 0 = 0 := by
        simp only [go_need, go_br, go_leaf, go_back, allSay, X.says, X.ev, X.evs, evl, tblS, List.getD_cons_zero, List.getD_cons_succ, List.getElem?_cons_zero, List.getElem?_cons_succ, tt_b, int_i, str_s, rs_r, Option.isSome_some, Option.getD_some, decide_eq_true_eq, decide_eq_false_iff_not, dS_eS, dC_eC, dU_eU, dW_eW, dY_eY, eC_0, eC_1, eU_0, eU_1, eW_0, eW_1, eW_2, eY_0, eY_1, eS_0, eS_1, eS_2, eS_3, eS_4, eS_5, List.length_map, i_inj, b_inj, s_inj, eC_eq, eU_eq, eW_eq, eY_eq, eS_eq, rng64, List.take_succ_cons, List.take_zero, List.nil_append, List.cons_append, decide_true, decide_false, Bool.or_true, true_and, and_true, hmark] at hz
        exact hz
      have hea : En s a := by
        have h2 : m.getD a.toNat 0 = 2 := by
          have := hm02 a.toNat (by omega)
          omega
        have := hm.en _ h2
        rwa [show ((a.toNat : Nat) : Int) = a by omega] at this
      refine mark_ok (P := .tok 4) (l := l) (m := f) (i := i) rfl (fun e => by simp [X.ev, evl]) (by simp [X.ev, evl]) rfl ⟨by omega, by omega⟩ (fun x hx => ?_) (by omega) fun f' hf1 hf2 => ?_
      · have := inS_iff.1 (hl x hx); omega
      · refine finish l hl (hch.en hea) (hend hea) (fun x hx => hx) f' (by omega) fun j hj => ?_
        rw [hf2 j (by omega)]
        by_cases hjm : (j : Int) ∈ l
        · rw [if_pos hjm, if_pos hjm]
        · rw [if_neg hjm, if_neg hjm, hf j hj, if_neg hjm]
  · have : i = s.cs.length := by
      have : ¬ (i < s.cs.length) := by simpa [X.ev, evl, eS_0, D.int, D.rs, D.tt] using hlt
      omega
    subst this
    have : acyP s = true := all_yes fun j hj => (hdone j hj).ends
    rw [this]
    rfl
end Go.Proofs.Ytinclokohcommaa

namespace Go.Proofs.Ytinclokohcommaa
open Go.RowKit
set_option linter.unusedVariables false
set_option linter.unusedSimpArgs false

/-- A loop that looks at each element in turn. -/
theorem scan_ok {S : Nat → List D → Option (List D)} {R : List D → Prop} {id n : Nat} {x0 : X} {body : Tree} {l : List D} {B : Nat → List D → Prop} {v0 : D} (N : Nat) (P : Nat → Bool) (h0 : x0.ev (evl S l) = v0)
    (h : ∀ (k : Nat) (B' : Nat → List D → Prop), k ≤ N → (∀ j, j < k → P j = true) → (k < N → P k = true → B' id [v0, .i ((k : Int) + 1)]) → (∀ j, j ≠ id → B' j = B j) → body.go S R (l.take n ++ [v0, .i k]) B') : (Tree.loop id n [x0, .lit (.i 0)] body).go S R l B := by
  rw [go_loop]
  refine ⟨fun st => ∃ k : Nat, k ≤ N ∧ st = [v0, .i k] ∧ ∀ j, j < k → P j = true, fun st => N - (st.getD 1 .u).int.toNat, ⟨0, Nat.zero_le _, by simp [X.evs, X.ev, h0], fun j hj => absurd hj (Nat.not_lt_zero _)⟩, ?_⟩
  rintro st - ⟨k, hk, rfl, hP⟩
  refine h k _ hk hP (fun hlt hp => ?_) fun j hj => by rw [updB, if_neg hj]
  rw [updB, if_pos rfl]
  refine ⟨⟨k + 1, hlt, by simp, upto_succ hP hp⟩, ?_⟩
  simp [D.int]
  omega

def wkB (vc : So → Ce → Bool) (s : So) (w : Wk) : Bool := decide (1 ≤ w.ser) && (decide (w.ser ≤ s.ser) && (vc s w.att && vc s w.val))
def headB (s : So) : Bool := decide (1 ≤ s.mx) && (decide (s.mx ≤ 1048576) && (decide ((s.cs.length : Int) ≤ s.mx) && (decide (0 ≤ s.ser) && symsB s.ys)))
def validR (s : So) : Bool := headB s && ((List.range s.cs.length).all (fun i => cellR s (i : Nat)) && ((List.range s.tr.length).all (fun i => oldR s (s.tr.getD i default)) && (List.range s.wk.length).all fun i => wkB vcR s (s.wk.getD i default)))
def validP (s : So) : Bool := headB s && ((List.range s.cs.length).all (fun i => fitsP s (i : Nat)) && (acyP s && ((List.range s.tr.length).all (fun i => oldP s (s.tr.getD i default)) && (List.range s.wk.length).all fun i => wkB vcP s (s.wk.getD i default))))

theorem tag_nn {s : So} {n : Int} (h : 0 ≤ tagS s n) : inS s n = true := by
  cases hi : inS s n with
  | true => rfl
  | false => rw [tagS_out hi] at h; omega
theorem fits_acyQ {s : So} (hh : headB s = true) (h : ∀ j, j < s.cs.length → fitsP s (j : Nat) = true) : acyQ s = true := by
  simp only [headB, Bool.and_eq_true, decide_eq_true_eq] at hh
  simp only [acyQ, Bool.and_eq_true, decide_eq_true_eq]
  refine ⟨by omega, all_yes fun j hj => ?_⟩
  have := h j hj
  by_cases h0 : (cellAt s (j : Nat)).t = 0
  · simp only [fitsP, h0, vcP] at this
    have h1 : 0 ≤ tagS s (cellAt s (j : Nat)).n := by
      simp at this
      exact this.1
    simp [tag_nn h1]
  · simp [h0]

theorem ok_ref30_Valid : FOk ct_ref30_Valid (gSb validR) := fok_ref30_Valid ok_ref30_symbols ok_ref30_cell ok_ref30_old ok_ref30_ValidCell fun ds outs hw hg => by
  obtain ⟨d, r, rfl, hd, rfl⟩ := hw
  obtain ⟨s, rfl, hs⟩ := wfS hd
  simp only [gSb, dS_eS, Option.some.injEq] at hg
  subst hg
  have hl := hs.cs.1
  have hl2 := hs.tr.1
  have hl3 := hs.wk.1
  have hsy : gYsb symsB [D.r (s.ys.map eY)] = some [.b (symsB s.ys)] := by simp [gYsb, rs_r, map_id' dY_eY]
  rw [tree_ref30_Valid, go_need]
  refine ⟨by simp only [go_need, go_br, go_leaf, go_back, allSay, X.says, X.ev, X.evs, evl, tblS, List.getD_cons_zero, List.getD_cons_succ, List.getElem?_cons_zero, List.getElem?_cons_succ, tt_b, int_i, str_s, rs_r, Option.isSome_some, Option.getD_some, decide_eq_true_eq, decide_eq_false_iff_not, dS_eS, dC_eC, dU_eU, dW_eW, dY_eY, eC_0, eC_1, eU_0, eU_1, eW_0, eW_1, eW_2, eY_0, eY_1, eS_0, eS_1, eS_2, eS_3, eS_4, eS_5, List.length_map, i_inj, b_inj, s_inj, eC_eq, eU_eq, eW_eq, eY_eq, eS_eq, rng64, List.take_succ_cons, List.take_zero, List.nil_append, List.cons_append, decide_true, decide_false, Bool.or_true, true_and, and_true, hsy], ?_⟩
  rw [go_br]
  have hcond : (X.ev (evl (tblS [(ct_ref30_symbols, gYsb symsB), (ct_ref30_cell, gSIbP cellQ cellR), (ct_ref30_old, gSUb oldR), (ct_ref30_ValidCell, gSCb vcR)]) [eS s]) (.or (.or (.or (.or (.lt (.fld (.tok 0) 5) (.lit (.i 1))) (.lt (.lit (.i 1048576)) (.fld (.tok 0) 5))) (.lt (.fld (.tok 0) 5) (.len (.fld (.tok 0) 0)))) (.lt (.fld (.tok 0) 4) (.lit (.i 0)))) (.not (.call 0 0 [(.fld (.tok 0) 1)])))).tt = !headB s := by
    simp only [go_need, go_br, go_leaf, go_back, allSay, X.says, X.ev, X.evs, evl, tblS, List.getD_cons_zero, List.getD_cons_succ, List.getElem?_cons_zero, List.getElem?_cons_succ, tt_b, int_i, str_s, rs_r, Option.isSome_some, Option.getD_some, decide_eq_true_eq, decide_eq_false_iff_not, dS_eS, dC_eC, dU_eU, dW_eW, dY_eY, eC_0, eC_1, eU_0, eU_1, eW_0, eW_1, eW_2, eY_0, eY_1, eS_0, eS_1, eS_2, eS_3, eS_4, eS_5, List.length_map, i_inj, b_inj, s_inj, eC_eq, eU_eq, eW_eq, eY_eq, eS_eq, rng64, List.take_succ_cons, List.take_zero, List.nil_append, List.cons_append, decide_true, decide_false, Bool.or_true, true_and, and_true, hsy, headB]
    by_cases h1 : s.mx < 1
    · have : ¬ 1 ≤ s.mx := by omega
      simp [h1, this]
    · by_cases h2 : 1048576 < s.mx
      · have : ¬ s.mx ≤ 1048576 := by omega
        simp [h2, this]
      · by_cases h3 : s.mx < s.cs.length
        · have : ¬ (s.cs.length : Int) ≤ s.mx := by omega
          simp [h3, this]
        · by_cases h4 : s.ser < 0
          · have : ¬ 0 ≤ s.ser := by omega
            simp [h4, this]
          · have a1 : 1 ≤ s.mx := by omega
            have a2 : s.mx ≤ 1048576 := by omega
            have a3 : (s.cs.length : Int) ≤ s.mx := by omega
            have a4 : 0 ≤ s.ser := by omega
            simp [h1, h2, h3, h4, a1, a2, a3, a4]
  refine ⟨fun hx => ?_, fun hx => ?_⟩
  · have hh : headB s = false := by
      have := hcond.symm.trans hx
      simpa using this
    simp [go_leaf, X.evs, X.ev, validR, hh]
  have hh : headB s = true := by
    have := hcond.symm.trans hx
    simpa using this
  have hsy2 : symsB s.ys = true := by
    simp only [headB, Bool.and_eq_true] at hh
    exact hh.2.2.2.2
  refine scan_ok s.cs.length (fun i => cellR s (i : Nat)) (v0 := .b false) rfl fun k B' hk hP hB _ => ?_
  rw [go_br]
  refine ⟨fun hlt => ?_, fun hlt => ?_⟩
  · have hkl : k < s.cs.length := by simpa [X.ev, evl, eS_0, D.int, D.rs, D.tt] using hlt
    have hin : inS s (k : Nat) = true := inS_iff.2 ⟨by omega, by omega⟩
    have hQ : cellQ s (k : Nat) = true := by simp [cellQ, hin, hsy2]
    simp only [go_need, go_br, go_leaf, go_back, allSay, X.says, X.ev, X.evs, evl, tblS, List.getD_cons_zero, List.getD_cons_succ, List.getElem?_cons_zero, List.getElem?_cons_succ, tt_b, int_i, str_s, rs_r, Option.isSome_some, Option.getD_some, decide_eq_true_eq, decide_eq_false_iff_not, dS_eS, dC_eC, dU_eU, dW_eW, dY_eY, eC_0, eC_1, eU_0, eU_1, eW_0, eW_1, eW_2, eY_0, eY_1, eS_0, eS_1, eS_2, eS_3, eS_4, eS_5, List.length_map, i_inj, b_inj, s_inj, eC_eq, eU_eq, eW_eq, eY_eq, eS_eq, rng64, List.take_succ_cons, List.take_zero, List.nil_append, List.cons_append, decide_true, decide_false, Bool.or_true, true_and, and_true, gSIbP, hQ, if_true]
    refine ⟨fun hb => ?_, fun hb => ⟨⟨by omega, by omega⟩, ?_⟩⟩
    · have : cellR s (k : Nat) = false := by simpa using hb
      have := all_not (P := fun i => cellR s (i : Nat)) hkl this
      simp [validR, this]
    · exact hB hkl (by simpa using hb)
  have hc : (List.range s.cs.length).all (fun i => cellR s (i : Nat)) = true := by
    have : k = s.cs.length := by
      have : ¬ (k < s.cs.length) := by simpa [X.ev, evl, eS_0, D.int, D.rs, D.tt] using hlt
      omega
    subst this
    exact all_yes hP
  refine scan_ok s.tr.length (fun i => oldR s (s.tr.getD i default)) (v0 := .b false) rfl fun k B' hk hP hB _ => ?_
  rw [go_br]
  refine ⟨fun hlt => ?_, fun hlt => ?_⟩
  · have hkl : k < s.tr.length := by simpa [X.ev, evl, eS_2, D.int, D.rs, D.tt] using hlt
    simp only [go_need, go_br, go_leaf, go_back, allSay, X.says, X.ev, X.evs, evl, tblS, List.getD_cons_zero, List.getD_cons_succ, List.getElem?_cons_zero, List.getElem?_cons_succ, tt_b, int_i, str_s, rs_r, Option.isSome_some, Option.getD_some, decide_eq_true_eq, decide_eq_false_iff_not, dS_eS, dC_eC, dU_eU, dW_eW, dY_eY, eC_0, eC_1, eU_0, eU_1, eW_0, eW_1, eW_2, eY_0, eY_1, eS_0, eS_1, eS_2, eS_3, eS_4, eS_5, List.length_map, i_inj, b_inj, s_inj, eC_eq, eU_eq, eW_eq, eY_eq, eS_eq, rng64, List.take_succ_cons, List.take_zero, List.nil_append, List.cons_append, decide_true, decide_false, Bool.or_true, true_and, and_true, gSUb, get_n eU hkl]
    refine ⟨⟨by omega, by omega⟩, fun hb => ?_, fun hb => ⟨⟨by omega, by omega⟩, ?_⟩⟩
    · have : oldR s (s.tr.getD k default) = false := by simpa only [Bool.not_eq_true'] using hb
      have := all_not (P := fun i => oldR s (s.tr.getD i default)) hkl this
      simp only [validR, this, Bool.false_and, Bool.and_false]
    · exact hB hkl (by simpa only [Bool.not_eq_false'] using hb)
  have hc2 : (List.range s.tr.length).all (fun i => oldR s (s.tr.getD i default)) = true := by
    have : k = s.tr.length := by
      have : ¬ (k < s.tr.length) := by simpa [X.ev, evl, eS_2, D.int, D.rs, D.tt] using hlt
      omega
    subst this
    exact all_yes hP
  refine scan_ok s.wk.length (fun i => wkB vcR s (s.wk.getD i default)) (v0 := .b false) rfl fun k B' hk hP hB _ => ?_
  rw [go_br]
  refine ⟨fun hlt => ?_, fun hlt => ?_⟩
  · have hkl : k < s.wk.length := by simpa [X.ev, evl, eS_3, D.int, D.rs, D.tt] using hlt
    simp only [go_need, go_br, go_leaf, go_back, allSay, X.says, X.ev, X.evs, evl, tblS, List.getD_cons_zero, List.getD_cons_succ, List.getElem?_cons_zero, List.getElem?_cons_succ, tt_b, int_i, str_s, rs_r, Option.isSome_some, Option.getD_some, decide_eq_true_eq, decide_eq_false_iff_not, dS_eS, dC_eC, dU_eU, dW_eW, dY_eY, eC_0, eC_1, eU_0, eU_1, eW_0, eW_1, eW_2, eY_0, eY_1, eS_0, eS_1, eS_2, eS_3, eS_4, eS_5, List.length_map, i_inj, b_inj, s_inj, eC_eq, eU_eq, eW_eq, eY_eq, eS_eq, rng64, List.take_succ_cons, List.take_zero, List.nil_append, List.cons_append, decide_true, decide_false, Bool.or_true, true_and, and_true, gSCb, get_n eW hkl]
    have hw : ((decide ((s.wk.getD k default).ser < 1) || decide (s.ser < (s.wk.getD k default).ser) || !vcR s (s.wk.getD k default).att || !vcR s (s.wk.getD k default).val)) = !wkB vcR s (s.wk.getD k default) := by
      generalize s.wk.getD k default = w
      simp only [wkB]
      by_cases h1 : w.ser < 1
      · have : ¬ 1 ≤ w.ser := by omega
        simp [h1, this]
      · by_cases h2 : s.ser < w.ser
        · have : ¬ w.ser ≤ s.ser := by omega
          simp [h2, this]
        · have a1 : 1 ≤ w.ser := by omega
          have a2 : w.ser ≤ s.ser := by omega
          simp [h1, h2, a1, a2]
    refine ⟨⟨by omega, by omega⟩, fun hb => ?_, fun hb => ⟨⟨by omega, by omega⟩, ?_⟩⟩
    · rw [hw] at hb
      have := all_not (P := fun i => wkB vcR s (s.wk.getD i default)) hkl (by simpa only [Bool.not_eq_true'] using hb)
      simp only [validR, this, Bool.and_false]
    · rw [hw] at hb
      exact hB hkl (by simpa only [Bool.not_eq_false'] using hb)
  have hc3 : (List.range s.wk.length).all (fun i => wkB vcR s (s.wk.getD i default)) = true := by
    have : k = s.wk.length := by
      have : ¬ (k < s.wk.length) := by simpa [X.ev, evl, eS_3, D.int, D.rs, D.tt] using hlt
      omega
    subst this
    exact all_yes hP
  simp only [go_leaf, X.evs, X.ev, validR, hh, hc, hc2, hc3, Bool.and_true]
theorem ok_cells_Valid : FOk ct_cells_Valid (gSb validP) := fok_cells_Valid ok_cells_validSymbols ok_cells_fits ok_cells_acyclic ok_cells_validUndo ok_cells_ValidCell fun ds outs hw hg => by
  obtain ⟨d, r, rfl, hd, rfl⟩ := hw
  obtain ⟨s, rfl, hs⟩ := wfS hd
  simp only [gSb, dS_eS, Option.some.injEq] at hg
  subst hg
  have hl := hs.cs.1
  have hl2 := hs.tr.1
  have hl3 := hs.wk.1
  have hsy : gYsb symsB [D.r (s.ys.map eY)] = some [.b (symsB s.ys)] := by simp [gYsb, rs_r, map_id' dY_eY]
  rw [tree_cells_Valid, go_need]
  refine ⟨by simp only [go_need, go_br, go_leaf, go_back, allSay, X.says, X.ev, X.evs, evl, tblS, List.getD_cons_zero, List.getD_cons_succ, List.getElem?_cons_zero, List.getElem?_cons_succ, tt_b, int_i, str_s, rs_r, Option.isSome_some, Option.getD_some, decide_eq_true_eq, decide_eq_false_iff_not, dS_eS, dC_eC, dU_eU, dW_eW, dY_eY, eC_0, eC_1, eU_0, eU_1, eW_0, eW_1, eW_2, eY_0, eY_1, eS_0, eS_1, eS_2, eS_3, eS_4, eS_5, List.length_map, i_inj, b_inj, s_inj, eC_eq, eU_eq, eW_eq, eY_eq, eS_eq, rng64, List.take_succ_cons, List.take_zero, List.nil_append, List.cons_append, decide_true, decide_false, Bool.or_true, true_and, and_true, hsy], ?_⟩
  rw [go_br]
  have hcond : (X.ev (evl (tblS [(ct_cells_validSymbols, gYsb symsB), (ct_cells_fits, gSIbP cellQ fitsP), (ct_cells_acyclic, gSbP acyQ acyP), (ct_cells_validUndo, gSUb oldP), (ct_cells_ValidCell, gSCb vcP)]) [eS s]) (.or (.or (.or (.or (.lt (.fld (.tok 0) 5) (.lit (.i 1))) (.lt (.lit (.i 1048576)) (.fld (.tok 0) 5))) (.lt (.fld (.tok 0) 5) (.len (.fld (.tok 0) 0)))) (.lt (.fld (.tok 0) 4) (.lit (.i 0)))) (.not (.call 0 0 [(.fld (.tok 0) 1)])))).tt = !headB s := by
    simp only [go_need, go_br, go_leaf, go_back, allSay, X.says, X.ev, X.evs, evl, tblS, List.getD_cons_zero, List.getD_cons_succ, List.getElem?_cons_zero, List.getElem?_cons_succ, tt_b, int_i, str_s, rs_r, Option.isSome_some, Option.getD_some, decide_eq_true_eq, decide_eq_false_iff_not, dS_eS, dC_eC, dU_eU, dW_eW, dY_eY, eC_0, eC_1, eU_0, eU_1, eW_0, eW_1, eW_2, eY_0, eY_1, eS_0, eS_1, eS_2, eS_3, eS_4, eS_5, List.length_map, i_inj, b_inj, s_inj, eC_eq, eU_eq, eW_eq, eY_eq, eS_eq, rng64, List.take_succ_cons, List.take_zero, List.nil_append, List.cons_append, decide_true, decide_false, Bool.or_true, true_and, and_true, hsy, headB]
    by_cases h1 : s.mx < 1
    · have : ¬ 1 ≤ s.mx := by omega
      simp [h1, this]
    · by_cases h2 : 1048576 < s.mx
      · have : ¬ s.mx ≤ 1048576 := by omega
        simp [h2, this]
      · by_cases h3 : s.mx < s.cs.length
        · have : ¬ (s.cs.length : Int) ≤ s.mx := by omega
          simp [h3, this]
        · by_cases h4 : s.ser < 0
          · have : ¬ 0 ≤ s.ser := by omega
            simp [h4, this]
          · have a1 : 1 ≤ s.mx := by omega
            have a2 : s.mx ≤ 1048576 := by omega
            have a3 : (s.cs.length : Int) ≤ s.mx := by omega
            have a4 : 0 ≤ s.ser := by omega
            simp [h1, h2, h3, h4, a1, a2, a3, a4]
  refine ⟨fun hx => ?_, fun hx => ?_⟩
  · have hh : headB s = false := by
      have := hcond.symm.trans hx
      simpa using this
    simp [go_leaf, X.evs, X.ev, validP, hh]
  have hh : headB s = true := by
    have := hcond.symm.trans hx
    simpa using this
  have hsy2 : symsB s.ys = true := by
    simp only [headB, Bool.and_eq_true] at hh
    exact hh.2.2.2.2
  refine scan_ok s.cs.length (fun i => fitsP s (i : Nat)) (v0 := .b false) rfl fun k B' hk hP hB _ => ?_
  rw [go_br]
  refine ⟨fun hlt => ?_, fun hlt => ?_⟩
  · have hkl : k < s.cs.length := by simpa [X.ev, evl, eS_0, D.int, D.rs, D.tt] using hlt
    have hin : inS s (k : Nat) = true := inS_iff.2 ⟨by omega, by omega⟩
    have hQ : cellQ s (k : Nat) = true := by simp [cellQ, hin, hsy2]
    simp only [go_need, go_br, go_leaf, go_back, allSay, X.says, X.ev, X.evs, evl, tblS, List.getD_cons_zero, List.getD_cons_succ, List.getElem?_cons_zero, List.getElem?_cons_succ, tt_b, int_i, str_s, rs_r, Option.isSome_some, Option.getD_some, decide_eq_true_eq, decide_eq_false_iff_not, dS_eS, dC_eC, dU_eU, dW_eW, dY_eY, eC_0, eC_1, eU_0, eU_1, eW_0, eW_1, eW_2, eY_0, eY_1, eS_0, eS_1, eS_2, eS_3, eS_4, eS_5, List.length_map, i_inj, b_inj, s_inj, eC_eq, eU_eq, eW_eq, eY_eq, eS_eq, rng64, List.take_succ_cons, List.take_zero, List.nil_append, List.cons_append, decide_true, decide_false, Bool.or_true, true_and, and_true, gSIbP, hQ, if_true]
    refine ⟨fun hb => ?_, fun hb => ⟨⟨by omega, by omega⟩, ?_⟩⟩
    · have : fitsP s (k : Nat) = false := by simpa using hb
      have := all_not (P := fun i => fitsP s (i : Nat)) hkl this
      simp [validP, this]
    · exact hB hkl (by simpa using hb)
  have hc : (List.range s.cs.length).all (fun i => fitsP s (i : Nat)) = true := by
    have : k = s.cs.length := by
      have : ¬ (k < s.cs.length) := by simpa [X.ev, evl, eS_0, D.int, D.rs, D.tt] using hlt
      omega
    subst this
    exact all_yes hP
  have hq : acyQ s = true := fits_acyQ hh fun j hj => all_of (P := fun i => fitsP s (i : Nat)) hc hj
  rw [go_need]
  refine ⟨by simp only [go_need, go_br, go_leaf, go_back, allSay, X.says, X.ev, X.evs, evl, tblS, List.getD_cons_zero, List.getD_cons_succ, List.getElem?_cons_zero, List.getElem?_cons_succ, tt_b, int_i, str_s, rs_r, Option.isSome_some, Option.getD_some, decide_eq_true_eq, decide_eq_false_iff_not, dS_eS, dC_eC, dU_eU, dW_eW, dY_eY, eC_0, eC_1, eU_0, eU_1, eW_0, eW_1, eW_2, eY_0, eY_1, eS_0, eS_1, eS_2, eS_3, eS_4, eS_5, List.length_map, i_inj, b_inj, s_inj, eC_eq, eU_eq, eW_eq, eY_eq, eS_eq, rng64, List.take_succ_cons, List.take_zero, List.nil_append, List.cons_append, decide_true, decide_false, Bool.or_true, true_and, and_true, gSbP, hq, if_true], ?_⟩
  rw [go_br]
  refine ⟨fun hb => ?_, fun hb => ?_⟩
  · have : acyP s = false := by
      simp only [go_need, go_br, go_leaf, go_back, allSay, X.says, X.ev, X.evs, evl, tblS, List.getD_cons_zero, List.getD_cons_succ, List.getElem?_cons_zero, List.getElem?_cons_succ, tt_b, int_i, str_s, rs_r, Option.isSome_some, Option.getD_some, decide_eq_true_eq, decide_eq_false_iff_not, dS_eS, dC_eC, dU_eU, dW_eW, dY_eY, eC_0, eC_1, eU_0, eU_1, eW_0, eW_1, eW_2, eY_0, eY_1, eS_0, eS_1, eS_2, eS_3, eS_4, eS_5, List.length_map, i_inj, b_inj, s_inj, eC_eq, eU_eq, eW_eq, eY_eq, eS_eq, rng64, List.take_succ_cons, List.take_zero, List.nil_append, List.cons_append, decide_true, decide_false, Bool.or_true, true_and, and_true, gSbP, hq, if_true] at hb
      simpa only [Bool.not_eq_true'] using hb
    simp only [go_leaf, X.evs, X.ev, validP, this, Bool.false_and, Bool.and_false]
  have ha : acyP s = true := by
    simp only [go_need, go_br, go_leaf, go_back, allSay, X.says, X.ev, X.evs, evl, tblS, List.getD_cons_zero, List.getD_cons_succ, List.getElem?_cons_zero, List.getElem?_cons_succ, tt_b, int_i, str_s, rs_r, Option.isSome_some, Option.getD_some, decide_eq_true_eq, decide_eq_false_iff_not, dS_eS, dC_eC, dU_eU, dW_eW, dY_eY, eC_0, eC_1, eU_0, eU_1, eW_0, eW_1, eW_2, eY_0, eY_1, eS_0, eS_1, eS_2, eS_3, eS_4, eS_5, List.length_map, i_inj, b_inj, s_inj, eC_eq, eU_eq, eW_eq, eY_eq, eS_eq, rng64, List.take_succ_cons, List.take_zero, List.nil_append, List.cons_append, decide_true, decide_false, Bool.or_true, true_and, and_true, gSbP, hq, if_true] at hb
    simpa only [Bool.not_eq_false'] using hb
  refine scan_ok s.tr.length (fun i => oldP s (s.tr.getD i default)) (v0 := .b false) rfl fun k B' hk hP hB _ => ?_
  rw [go_br]
  refine ⟨fun hlt => ?_, fun hlt => ?_⟩
  · have hkl : k < s.tr.length := by simpa [X.ev, evl, eS_2, D.int, D.rs, D.tt] using hlt
    simp only [go_need, go_br, go_leaf, go_back, allSay, X.says, X.ev, X.evs, evl, tblS, List.getD_cons_zero, List.getD_cons_succ, List.getElem?_cons_zero, List.getElem?_cons_succ, tt_b, int_i, str_s, rs_r, Option.isSome_some, Option.getD_some, decide_eq_true_eq, decide_eq_false_iff_not, dS_eS, dC_eC, dU_eU, dW_eW, dY_eY, eC_0, eC_1, eU_0, eU_1, eW_0, eW_1, eW_2, eY_0, eY_1, eS_0, eS_1, eS_2, eS_3, eS_4, eS_5, List.length_map, i_inj, b_inj, s_inj, eC_eq, eU_eq, eW_eq, eY_eq, eS_eq, rng64, List.take_succ_cons, List.take_zero, List.nil_append, List.cons_append, decide_true, decide_false, Bool.or_true, true_and, and_true, gSUb, get_n eU hkl]
    refine ⟨⟨by omega, by omega⟩, fun hb => ?_, fun hb => ⟨⟨by omega, by omega⟩, ?_⟩⟩
    · have : oldP s (s.tr.getD k default) = false := by simpa only [Bool.not_eq_true'] using hb
      have := all_not (P := fun i => oldP s (s.tr.getD i default)) hkl this
      simp only [validP, this, Bool.false_and, Bool.and_false]
    · exact hB hkl (by simpa only [Bool.not_eq_false'] using hb)
  have hc2 : (List.range s.tr.length).all (fun i => oldP s (s.tr.getD i default)) = true := by
    have : k = s.tr.length := by
      have : ¬ (k < s.tr.length) := by simpa [X.ev, evl, eS_2, D.int, D.rs, D.tt] using hlt
      omega
    subst this
    exact all_yes hP
  refine scan_ok s.wk.length (fun i => wkB vcP s (s.wk.getD i default)) (v0 := .b false) rfl fun k B' hk hP hB _ => ?_
  rw [go_br]
  refine ⟨fun hlt => ?_, fun hlt => ?_⟩
  · have hkl : k < s.wk.length := by simpa [X.ev, evl, eS_3, D.int, D.rs, D.tt] using hlt
    simp only [go_need, go_br, go_leaf, go_back, allSay, X.says, X.ev, X.evs, evl, tblS, List.getD_cons_zero, List.getD_cons_succ, List.getElem?_cons_zero, List.getElem?_cons_succ, tt_b, int_i, str_s, rs_r, Option.isSome_some, Option.getD_some, decide_eq_true_eq, decide_eq_false_iff_not, dS_eS, dC_eC, dU_eU, dW_eW, dY_eY, eC_0, eC_1, eU_0, eU_1, eW_0, eW_1, eW_2, eY_0, eY_1, eS_0, eS_1, eS_2, eS_3, eS_4, eS_5, List.length_map, i_inj, b_inj, s_inj, eC_eq, eU_eq, eW_eq, eY_eq, eS_eq, rng64, List.take_succ_cons, List.take_zero, List.nil_append, List.cons_append, decide_true, decide_false, Bool.or_true, true_and, and_true, gSCb, get_n eW hkl]
    have hw : ((decide ((s.wk.getD k default).ser < 1) || decide (s.ser < (s.wk.getD k default).ser) || !vcP s (s.wk.getD k default).att || !vcP s (s.wk.getD k default).val)) = !wkB vcP s (s.wk.getD k default) := by
      generalize s.wk.getD k default = w
      simp only [wkB]
      by_cases h1 : w.ser < 1
      · have : ¬ 1 ≤ w.ser := by omega
        simp [h1, this]
      · by_cases h2 : s.ser < w.ser
        · have : ¬ w.ser ≤ s.ser := by omega
          simp [h2, this]
        · have a1 : 1 ≤ w.ser := by omega
          have a2 : w.ser ≤ s.ser := by omega
          simp [h1, h2, a1, a2]
    refine ⟨⟨by omega, by omega⟩, fun hb => ?_, fun hb => ⟨⟨by omega, by omega⟩, ?_⟩⟩
    · rw [hw] at hb
      have := all_not (P := fun i => wkB vcP s (s.wk.getD i default)) hkl (by simpa only [Bool.not_eq_true'] using hb)
      simp only [validP, this, Bool.and_false]
    · rw [hw] at hb
      exact hB hkl (by simpa only [Bool.not_eq_false'] using hb)
  have hc3 : (List.range s.wk.length).all (fun i => wkB vcP s (s.wk.getD i default)) = true := by
    have : k = s.wk.length := by
      have : ¬ (k < s.wk.length) := by simpa [X.ev, evl, eS_3, D.int, D.rs, D.tt] using hlt
      omega
    subst this
    exact all_yes hP
  simp only [go_leaf, X.evs, X.ev, validP, hh, hc, ha, hc2, hc3, Bool.and_true]
end Go.Proofs.Ytinclokohcommaa

namespace Go.Proofs.Ytinclokohcommaa
open Go.RowKit
set_option linter.unusedVariables false
set_option linter.unusedSimpArgs false

theorem rows_eq {l m : List D} (hl : l.length = m.length) (h : ∀ j, j < l.length → l.getD j .u = m.getD j .u) : l = m := by
  refine List.ext_getElem hl fun j h1 h2 => ?_
  have := h j h1
  simpa [List.getD_eq_getElem?_getD, h1, h2] using this
theorem get_k (l : List D) (k : Nat) : (D.r l).get (k : Int) = l.getD k .u := rfl

def eqT : Tree := (.br (.not (.eq (.len (.tok 0)) (.len (.tok 1)))) (.leaf [(.lit (.b .false))]) (.loop 4 2 [(.lit (.b .false)), (.lit (.i 0))] (.br (.lt (.tok 3) (.len (.tok 0))) (.need [(.le (.lit (.i 0)) (.tok 3)), (.lt (.tok 3) (.len (.tok 1))), (.le (.lit (.i 0)) (.tok 3)), (.lt (.tok 3) (.len (.tok 0)))] (.br (.not (.eq (.get (.tok 0) (.tok 3)) (.get (.tok 1) (.tok 3)))) (.leaf [(.lit (.b .false))]) (.need [(.rng .i64 (.add (.tok 3) (.lit (.i 1))))] (.back 4 [(.tok 2), (.add (.tok 3) (.lit (.i 1)))])))) (.leaf [(.lit (.b .true))]))))
theorem eqT_ok {S : Nat → List D → Option (List D)} {l m : List D} {R : List D → Prop} {B : Nat → List D → Prop} (hl : l.length ≤ LIM) (hR : R [.b (decide (l = m))]) : eqT.go S R [.r l, .r m] B := by
  simp only [LIM] at hl
  rw [eqT, go_br]
  refine ⟨fun hx => ?_, fun hx => ?_⟩
  · have : ¬ l = m := fun e => by subst e; simp [X.ev, evl, D.rs, D.tt] at hx
    rw [decide_eq_false this] at hR
    exact hR
  have hlen : l.length = m.length := by
    simp [X.ev, evl, D.rs, D.tt] at hx
    omega
  refine scan_ok l.length (fun j => decide (l.getD j .u = m.getD j .u)) (v0 := .b false) rfl fun k B' hk hP hB _ => ?_
  rw [go_br]
  refine ⟨fun hlt => ?_, fun hlt => ?_⟩
  · have hkl : k < l.length := by simpa [X.ev, evl, D.int, D.rs, D.tt] using hlt
    simp only [go_need, go_br, go_leaf, go_back, allSay, X.says, X.ev, X.evs, evl, tblS, List.getD_cons_zero, List.getD_cons_succ, List.getElem?_cons_zero, List.getElem?_cons_succ, tt_b, int_i, str_s, rs_r, Option.isSome_some, Option.getD_some, decide_eq_true_eq, decide_eq_false_iff_not, dS_eS, dC_eC, dU_eU, dW_eW, dY_eY, eC_0, eC_1, eU_0, eU_1, eW_0, eW_1, eW_2, eY_0, eY_1, eS_0, eS_1, eS_2, eS_3, eS_4, eS_5, List.length_map, i_inj, b_inj, s_inj, eC_eq, eU_eq, eW_eq, eY_eq, eS_eq, rng64, List.take_succ_cons, List.take_zero, List.nil_append, List.cons_append, decide_true, decide_false, Bool.or_true, true_and, and_true, get_k]
    refine ⟨⟨by omega, by omega, by omega, by omega⟩, fun hb => ?_, fun hb => ⟨⟨by omega, by omega⟩, ?_⟩⟩
    · have : ¬ l = m := fun e => by subst e; simp at hb
      rw [decide_eq_false this] at hR
      exact hR
    · exact hB hkl (by simpa using hb)
  · have : k = l.length := by
      have : ¬ (k < l.length) := by simpa [X.ev, evl, D.int, D.rs, D.tt] using hlt
      omega
    subst this
    have : l = m := rows_eq hlen fun j hj => by simpa using hP j hj
    rw [decide_eq_true this] at hR
    exact hR

def gEq : List D → Option (List D)
  | [a, b] => some [.b (decide (a = b))]
  | _ => none
theorem eq_rows {l m : List D} : decide (D.r l = D.r m) = decide (l = m) := by simp
theorem ok_slices_Equal_Cell : FOk ct_slices_Equal_Cell gEq := fok_slices_Equal_Cell fun ds outs hw hg => by
  obtain ⟨d, r, rfl, hd, e, r2, rfl, he, rfl⟩ := hw
  obtain ⟨l, te, rfl, -, hl, -⟩ := hd.row
  obtain ⟨m, te2, rfl, -⟩ := he.row
  simp only [gEq, Option.some.injEq, eq_rows] at hg
  subst hg
  exact eqT_ok (Nat.le_trans hl (LM_le _)) rfl
theorem ok_slices_Equal_Symbol : FOk ct_slices_Equal_Symbol gEq := fok_slices_Equal_Symbol fun ds outs hw hg => by
  obtain ⟨d, r, rfl, hd, e, r2, rfl, he, rfl⟩ := hw
  obtain ⟨l, te, rfl, -, hl, -⟩ := hd.row
  obtain ⟨m, te2, rfl, -⟩ := he.row
  simp only [gEq, Option.some.injEq, eq_rows] at hg
  subst hg
  exact eqT_ok (Nat.le_trans hl (LM_le _)) rfl
theorem ok_slices_Equal_Undo : FOk ct_slices_Equal_Undo gEq := fok_slices_Equal_Undo fun ds outs hw hg => by
  obtain ⟨d, r, rfl, hd, e, r2, rfl, he, rfl⟩ := hw
  obtain ⟨l, te, rfl, -, hl, -⟩ := hd.row
  obtain ⟨m, te2, rfl, -⟩ := he.row
  simp only [gEq, Option.some.injEq, eq_rows] at hg
  subst hg
  exact eqT_ok (Nat.le_trans hl (LM_le _)) rfl
theorem ok_slices_Equal_Wake : FOk ct_slices_Equal_Wake gEq := fok_slices_Equal_Wake fun ds outs hw hg => by
  obtain ⟨d, r, rfl, hd, e, r2, rfl, he, rfl⟩ := hw
  obtain ⟨l, te, rfl, -, hl, -⟩ := hd.row
  obtain ⟨m, te2, rfl, -⟩ := he.row
  simp only [gEq, Option.some.injEq, eq_rows] at hg
  subst hg
  exact eqT_ok (Nat.le_trans hl (LM_le _)) rfl

def rowQ (n : Nat) (d : D) : Bool := decide (d.rs.length ≤ n)
theorem rowQ_r (n : Nat) (l : List D) : (rowQ n (.r l) = true) = (l.length ≤ n) := by simp only [rowQ, decide_eq_true_eq]; rfl
def gCl (n : Nat) : List D → Option (List D)
  | [a] => if rowQ n a then some [a] else none
  | _ => none
def clT (n : Nat) : Tree := (.amb (.tok 0) .false (.leaf [(.lit (.r []))]) (.need [(.le (.add (.lit (.i 0)) (.len (.tok 0))) (.lit (.i (n : Nat))))] (.leaf [(.app (.row []) (.tok 0))])))
theorem clT_ok {S : Nat → List D → Option (List D)} {l : List D} {R : List D → Prop} {B : Nat → List D → Prop} {n : Nat} (hl : l.length ≤ n) (hR : R [.r l]) : (clT n).go S R [.r l] B := by
  refine ⟨fun h => ?_, fun _ => ?_⟩
  · have : l = [] := h rfl
    subst this
    exact hR
  · rw [go_need]
    refine ⟨by simp only [go_need, go_br, go_leaf, go_back, allSay, X.says, X.ev, X.evs, evl, tblS, List.getD_cons_zero, List.getD_cons_succ, List.getElem?_cons_zero, List.getElem?_cons_succ, tt_b, int_i, str_s, rs_r, Option.isSome_some, Option.getD_some, decide_eq_true_eq, decide_eq_false_iff_not, dS_eS, dC_eC, dU_eU, dW_eW, dY_eY, eC_0, eC_1, eU_0, eU_1, eW_0, eW_1, eW_2, eY_0, eY_1, eS_0, eS_1, eS_2, eS_3, eS_4, eS_5, List.length_map, i_inj, b_inj, s_inj, eC_eq, eU_eq, eW_eq, eY_eq, eS_eq, rng64, List.take_succ_cons, List.take_zero, List.nil_append, List.cons_append, decide_true, decide_false, Bool.or_true, true_and, and_true]; omega, ?_⟩
    simpa [go_leaf, X.evs, X.ev, evl, D.rs] using hR
theorem ok_slices_Clone_Cell : FOk ct_slices_Clone_Cell (gCl 8796093021952) := fok_slices_Clone_Cell fun ds outs hw hg => by
  obtain ⟨d, r, rfl, hd, rfl⟩ := hw
  obtain ⟨l, te, rfl, -⟩ := hd.row
  simp only [gCl, rowQ_r, Option.ite_none_right_eq_some, Option.some.injEq] at hg
  obtain ⟨h1, rfl⟩ := hg
  exact clT_ok h1 rfl
theorem ok_slices_Clone_Symbol : FOk ct_slices_Clone_Symbol (gCl 5864062014634) := fok_slices_Clone_Symbol fun ds outs hw hg => by
  obtain ⟨d, r, rfl, hd, rfl⟩ := hw
  obtain ⟨l, te, rfl, -⟩ := hd.row
  simp only [gCl, rowQ_r, Option.ite_none_right_eq_some, Option.some.injEq] at hg
  obtain ⟨h1, rfl⟩ := hg
  exact clT_ok h1 rfl
theorem ok_slices_Clone_Undo : FOk ct_slices_Clone_Undo (gCl 5864062014634) := fok_slices_Clone_Undo fun ds outs hw hg => by
  obtain ⟨d, r, rfl, hd, rfl⟩ := hw
  obtain ⟨l, te, rfl, -⟩ := hd.row
  simp only [gCl, rowQ_r, Option.ite_none_right_eq_some, Option.some.injEq] at hg
  obtain ⟨h1, rfl⟩ := hg
  exact clT_ok h1 rfl
theorem ok_slices_Clone_Wake : FOk ct_slices_Clone_Wake (gCl 3518437208780) := fok_slices_Clone_Wake fun ds outs hw hg => by
  obtain ⟨d, r, rfl, hd, rfl⟩ := hw
  obtain ⟨l, te, rfl, -⟩ := hd.row
  simp only [gCl, rowQ_r, Option.ite_none_right_eq_some, Option.some.injEq] at hg
  obtain ⟨h1, rfl⟩ := hg
  exact clT_ok h1 rfl

/-- A store that can be copied. -/
def clQ (s : So) : Bool := decide (s.cs.length ≤ 8796093021952) && (decide (s.ys.length ≤ 5864062014634) && (decide (s.tr.length ≤ 5864062014634) && decide (s.wk.length ≤ 3518437208780)))
def gClone : List D → Option (List D)
  | [s] => if clQ (dS s) then some [eS (dS s)] else none
  | _ => none
theorem clQ_of {s : So} (hs : s.ok) : clQ s = true := by
  simp only [clQ, Bool.and_eq_true, decide_eq_true_eq]
  exact ⟨hs.cs.1, hs.ys.1, hs.tr.1, hs.wk.1⟩
theorem ok_ref30_Clone : FOk ct_ref30_Clone gClone := fok_ref30_Clone fun ds outs hw hg => by
  obtain ⟨d, r, rfl, hd, rfl⟩ := hw
  obtain ⟨s, rfl, hs⟩ := wfS hd
  simp only [gClone, dS_eS, Option.ite_none_right_eq_some, Option.some.injEq] at hg
  obtain ⟨hq, rfl⟩ := hg
  simp only [clQ, Bool.and_eq_true, decide_eq_true_eq] at hq
  simp only [tree_ref30_Clone, go_need, go_br, go_leaf, go_back, allSay, X.says, X.ev, X.evs, evl, tblS, List.getD_cons_zero, List.getD_cons_succ, List.getElem?_cons_zero, List.getElem?_cons_succ, tt_b, int_i, str_s, rs_r, Option.isSome_some, Option.getD_some, decide_eq_true_eq, decide_eq_false_iff_not, dS_eS, dC_eC, dU_eU, dW_eW, dY_eY, eC_0, eC_1, eU_0, eU_1, eW_0, eW_1, eW_2, eY_0, eY_1, eS_0, eS_1, eS_2, eS_3, eS_4, eS_5, List.length_map, i_inj, b_inj, s_inj, eC_eq, eU_eq, eW_eq, eY_eq, eS_eq, rng64, List.take_succ_cons, List.take_zero, List.nil_append, List.cons_append, decide_true, decide_false, Bool.or_true, true_and, and_true, eS, D.fs, D.fld]
  simp
  omega
theorem ok_cells_Clone : FOk ct_cells_Clone gClone := fok_cells_Clone ok_slices_Clone_Cell ok_slices_Clone_Symbol ok_slices_Clone_Undo ok_slices_Clone_Wake fun ds outs hw hg => by
  obtain ⟨d, r, rfl, hd, rfl⟩ := hw
  obtain ⟨s, rfl, hs⟩ := wfS hd
  simp only [gClone, dS_eS, Option.ite_none_right_eq_some, Option.some.injEq] at hg
  obtain ⟨hq, rfl⟩ := hg
  simp only [clQ, Bool.and_eq_true, decide_eq_true_eq] at hq
  obtain ⟨h1, h2, h3, h4⟩ := hq
  simp only [tree_cells_Clone, go_need, go_br, go_leaf, go_back, allSay, X.says, X.ev, X.evs, evl, tblS, List.getD_cons_zero, List.getD_cons_succ, List.getElem?_cons_zero, List.getElem?_cons_succ, tt_b, int_i, str_s, rs_r, Option.isSome_some, Option.getD_some, decide_eq_true_eq, decide_eq_false_iff_not, dS_eS, dC_eC, dU_eU, dW_eW, dY_eY, eC_0, eC_1, eU_0, eU_1, eW_0, eW_1, eW_2, eY_0, eY_1, eS_0, eS_1, eS_2, eS_3, eS_4, eS_5, List.length_map, i_inj, b_inj, s_inj, eC_eq, eU_eq, eW_eq, eY_eq, eS_eq, rng64, List.take_succ_cons, List.take_zero, List.nil_append, List.cons_append, decide_true, decide_false, Bool.or_true, true_and, and_true, gCl, rowQ_r, h1, h2, h3, h4, if_true]
  simp [eS, D.fs, D.fld]

def gSame : List D → Option (List D)
  | [a, b] => some [.b (decide (a = b))]
  | _ => none
theorem ok_cells_Same : FOk ct_cells_Same gSame := fok_cells_Same ok_slices_Equal_Cell ok_slices_Equal_Symbol ok_slices_Equal_Undo ok_slices_Equal_Wake fun ds outs hw hg => by
  obtain ⟨d, r, rfl, hd, e, r', rfl, he, rfl⟩ := hw
  obtain ⟨s, rfl, hs⟩ := wfS hd
  obtain ⟨t, rfl, ht⟩ := wfS he
  simp only [gSame, Option.some.injEq] at hg
  subst hg
  simp only [tree_cells_Same, go_need, go_br, go_leaf, go_back, allSay, X.says, X.ev, X.evs, evl, tblS, List.getD_cons_zero, List.getD_cons_succ, List.getElem?_cons_zero, List.getElem?_cons_succ, tt_b, int_i, str_s, rs_r, Option.isSome_some, Option.getD_some, decide_eq_true_eq, decide_eq_false_iff_not, dS_eS, dC_eC, dU_eU, dW_eW, dY_eY, eC_0, eC_1, eU_0, eU_1, eW_0, eW_1, eW_2, eY_0, eY_1, eS_0, eS_1, eS_2, eS_3, eS_4, eS_5, List.length_map, i_inj, b_inj, s_inj, eC_eq, eU_eq, eW_eq, eY_eq, eS_eq, rng64, List.take_succ_cons, List.take_zero, List.nil_append, List.cons_append, decide_true, decide_false, Bool.or_true, true_and, and_true, gEq]
  have e0 : (s = t) = (s.cs.map eC = t.cs.map eC ∧ s.ys.map eY = t.ys.map eY ∧ s.tr.map eU = t.tr.map eU ∧ s.wk.map eW = t.wk.map eW ∧ s.ser = t.ser ∧ s.mx = t.mx) := by
    rw [← eS_eq]
    simp [eS]
  simp only [e0, r_inj]
  by_cases h1 : s.cs.map eC = t.cs.map eC <;> by_cases h2 : s.ys.map eY = t.ys.map eY <;> by_cases h3 : s.tr.map eU = t.tr.map eU <;> by_cases h4 : s.wk.map eW = t.wk.map eW <;> by_cases h5 : s.ser = t.ser <;> by_cases h6 : s.mx = t.mx <;> simp [h1, h2, h3, h4, h5, h6]
theorem ok_ref30_Same : FOk ct_ref30_Same gSame := fok_ref30_Same fun ds outs hw hg => by
  obtain ⟨d, r, rfl, hd, e, r', rfl, he, rfl⟩ := hw
  obtain ⟨s, rfl, hs⟩ := wfS hd
  obtain ⟨t, rfl, ht⟩ := wfS he
  simp only [gSame, Option.some.injEq] at hg
  subst hg
  have hl := hs.cs.1
  have hl1 := hs.ys.1
  have hl2 := hs.tr.1
  have hl3 := hs.wk.1
  have e0 : decide (eS s = eS t) = decide (s = t) := by simp [eS_eq]
  rw [e0]
  have no : ¬ s = t → [D.b false] = [D.b (decide (s = t))] := fun h => by rw [decide_eq_false h]
  rw [tree_ref30_Same, go_br]
  refine ⟨fun hx => ?_, fun hx => ?_⟩
  · refine no fun e => ?_
    subst e
    simp [X.ev, evl, D.tt] at hx
  simp only [go_need, go_br, go_leaf, go_back, allSay, X.says, X.ev, X.evs, evl, tblS, List.getD_cons_zero, List.getD_cons_succ, List.getElem?_cons_zero, List.getElem?_cons_succ, tt_b, int_i, str_s, rs_r, Option.isSome_some, Option.getD_some, decide_eq_true_eq, decide_eq_false_iff_not, dS_eS, dC_eC, dU_eU, dW_eW, dY_eY, eC_0, eC_1, eU_0, eU_1, eW_0, eW_1, eW_2, eY_0, eY_1, eS_0, eS_1, eS_2, eS_3, eS_4, eS_5, List.length_map, i_inj, b_inj, s_inj, eC_eq, eU_eq, eW_eq, eY_eq, eS_eq, rng64, List.take_succ_cons, List.take_zero, List.nil_append, List.cons_append, decide_true, decide_false, Bool.or_true, true_and, and_true] at hx
  have hx' : s.cs.length = t.cs.length ∧ s.ys.length = t.ys.length ∧ s.tr.length = t.tr.length ∧ s.wk.length = t.wk.length ∧ s.ser = t.ser ∧ s.mx = t.mx := by
    simp at hx
    omega
  obtain ⟨q1, q2, q3, q4, q5, q6⟩ := hx'
  refine scan_ok s.cs.length (fun j => decide ((s.cs.map eC).getD j .u = (t.cs.map eC).getD j .u)) (v0 := .b false) rfl fun k B' hk hP hB _ => ?_
  rw [go_br]
  refine ⟨fun hlt => ?_, fun hlt => ?_⟩
  · have hkl : k < s.cs.length := by simpa [X.ev, evl, eS_0, D.int, D.rs, D.tt] using hlt
    simp only [go_need, go_br, go_leaf, go_back, allSay, X.says, X.ev, X.evs, evl, tblS, List.getD_cons_zero, List.getD_cons_succ, List.getElem?_cons_zero, List.getElem?_cons_succ, tt_b, int_i, str_s, rs_r, Option.isSome_some, Option.getD_some, decide_eq_true_eq, decide_eq_false_iff_not, dS_eS, dC_eC, dU_eU, dW_eW, dY_eY, eC_0, eC_1, eU_0, eU_1, eW_0, eW_1, eW_2, eY_0, eY_1, eS_0, eS_1, eS_2, eS_3, eS_4, eS_5, List.length_map, i_inj, b_inj, s_inj, eC_eq, eU_eq, eW_eq, eY_eq, eS_eq, rng64, List.take_succ_cons, List.take_zero, List.nil_append, List.cons_append, decide_true, decide_false, Bool.or_true, true_and, and_true, get_k]
    refine ⟨⟨by omega, by omega, by omega, by omega⟩, fun hb => ?_, fun hb => ⟨⟨by omega, by omega⟩, ?_⟩⟩
    · refine no fun e => ?_
      subst e
      simp at hb
    · exact hB hkl (by simpa only [Bool.not_eq_false'] using hb)
  have hc0 : ∀ j, j < (s.cs.map eC).length → (s.cs.map eC).getD j .u = (t.cs.map eC).getD j .u := by
    have : k = s.cs.length := by
      have : ¬ (k < s.cs.length) := by simpa [X.ev, evl, eS_0, D.int, D.rs, D.tt] using hlt
      omega
    subst this
    exact fun j hj => by simpa only [decide_eq_true_eq] using hP j (by simpa using hj)
  refine scan_ok s.ys.length (fun j => decide ((s.ys.map eY).getD j .u = (t.ys.map eY).getD j .u)) (v0 := .b false) rfl fun k B' hk hP hB _ => ?_
  rw [go_br]
  refine ⟨fun hlt => ?_, fun hlt => ?_⟩
  · have hkl : k < s.ys.length := by simpa [X.ev, evl, eS_1, D.int, D.rs, D.tt] using hlt
    simp only [go_need, go_br, go_leaf, go_back, allSay, X.says, X.ev, X.evs, evl, tblS, List.getD_cons_zero, List.getD_cons_succ, List.getElem?_cons_zero, List.getElem?_cons_succ, tt_b, int_i, str_s, rs_r, Option.isSome_some, Option.getD_some, decide_eq_true_eq, decide_eq_false_iff_not, dS_eS, dC_eC, dU_eU, dW_eW, dY_eY, eC_0, eC_1, eU_0, eU_1, eW_0, eW_1, eW_2, eY_0, eY_1, eS_0, eS_1, eS_2, eS_3, eS_4, eS_5, List.length_map, i_inj, b_inj, s_inj, eC_eq, eU_eq, eW_eq, eY_eq, eS_eq, rng64, List.take_succ_cons, List.take_zero, List.nil_append, List.cons_append, decide_true, decide_false, Bool.or_true, true_and, and_true, get_k]
    refine ⟨⟨by omega, by omega, by omega, by omega⟩, fun hb => ?_, fun hb => ⟨⟨by omega, by omega⟩, ?_⟩⟩
    · refine no fun e => ?_
      subst e
      simp at hb
    · exact hB hkl (by simpa only [Bool.not_eq_false'] using hb)
  have hc1 : ∀ j, j < (s.ys.map eY).length → (s.ys.map eY).getD j .u = (t.ys.map eY).getD j .u := by
    have : k = s.ys.length := by
      have : ¬ (k < s.ys.length) := by simpa [X.ev, evl, eS_1, D.int, D.rs, D.tt] using hlt
      omega
    subst this
    exact fun j hj => by simpa only [decide_eq_true_eq] using hP j (by simpa using hj)
  refine scan_ok s.tr.length (fun j => decide ((s.tr.map eU).getD j .u = (t.tr.map eU).getD j .u)) (v0 := .b false) rfl fun k B' hk hP hB _ => ?_
  rw [go_br]
  refine ⟨fun hlt => ?_, fun hlt => ?_⟩
  · have hkl : k < s.tr.length := by simpa [X.ev, evl, eS_2, D.int, D.rs, D.tt] using hlt
    simp only [go_need, go_br, go_leaf, go_back, allSay, X.says, X.ev, X.evs, evl, tblS, List.getD_cons_zero, List.getD_cons_succ, List.getElem?_cons_zero, List.getElem?_cons_succ, tt_b, int_i, str_s, rs_r, Option.isSome_some, Option.getD_some, decide_eq_true_eq, decide_eq_false_iff_not, dS_eS, dC_eC, dU_eU, dW_eW, dY_eY, eC_0, eC_1, eU_0, eU_1, eW_0, eW_1, eW_2, eY_0, eY_1, eS_0, eS_1, eS_2, eS_3, eS_4, eS_5, List.length_map, i_inj, b_inj, s_inj, eC_eq, eU_eq, eW_eq, eY_eq, eS_eq, rng64, List.take_succ_cons, List.take_zero, List.nil_append, List.cons_append, decide_true, decide_false, Bool.or_true, true_and, and_true, get_k]
    refine ⟨⟨by omega, by omega, by omega, by omega⟩, fun hb => ?_, fun hb => ⟨⟨by omega, by omega⟩, ?_⟩⟩
    · refine no fun e => ?_
      subst e
      simp at hb
    · exact hB hkl (by simpa only [Bool.not_eq_false'] using hb)
  have hc2 : ∀ j, j < (s.tr.map eU).length → (s.tr.map eU).getD j .u = (t.tr.map eU).getD j .u := by
    have : k = s.tr.length := by
      have : ¬ (k < s.tr.length) := by simpa [X.ev, evl, eS_2, D.int, D.rs, D.tt] using hlt
      omega
    subst this
    exact fun j hj => by simpa only [decide_eq_true_eq] using hP j (by simpa using hj)
  refine scan_ok s.wk.length (fun j => decide ((s.wk.map eW).getD j .u = (t.wk.map eW).getD j .u)) (v0 := .b false) rfl fun k B' hk hP hB _ => ?_
  rw [go_br]
  refine ⟨fun hlt => ?_, fun hlt => ?_⟩
  · have hkl : k < s.wk.length := by simpa [X.ev, evl, eS_3, D.int, D.rs, D.tt] using hlt
    simp only [go_need, go_br, go_leaf, go_back, allSay, X.says, X.ev, X.evs, evl, tblS, List.getD_cons_zero, List.getD_cons_succ, List.getElem?_cons_zero, List.getElem?_cons_succ, tt_b, int_i, str_s, rs_r, Option.isSome_some, Option.getD_some, decide_eq_true_eq, decide_eq_false_iff_not, dS_eS, dC_eC, dU_eU, dW_eW, dY_eY, eC_0, eC_1, eU_0, eU_1, eW_0, eW_1, eW_2, eY_0, eY_1, eS_0, eS_1, eS_2, eS_3, eS_4, eS_5, List.length_map, i_inj, b_inj, s_inj, eC_eq, eU_eq, eW_eq, eY_eq, eS_eq, rng64, List.take_succ_cons, List.take_zero, List.nil_append, List.cons_append, decide_true, decide_false, Bool.or_true, true_and, and_true, get_k]
    refine ⟨⟨by omega, by omega, by omega, by omega⟩, fun hb => ?_, fun hb => ⟨⟨by omega, by omega⟩, ?_⟩⟩
    · refine no fun e => ?_
      subst e
      simp at hb
    · exact hB hkl (by simpa only [Bool.not_eq_false'] using hb)
  have hc3 : ∀ j, j < (s.wk.map eW).length → (s.wk.map eW).getD j .u = (t.wk.map eW).getD j .u := by
    have : k = s.wk.length := by
      have : ¬ (k < s.wk.length) := by simpa [X.ev, evl, eS_3, D.int, D.rs, D.tt] using hlt
      omega
    subst this
    exact fun j hj => by simpa only [decide_eq_true_eq] using hP j (by simpa using hj)
  have e1 := map_inj (fun _ _ => eC_inj) (rows_eq (by simpa using q1) hc0)
  have e2 := map_inj (fun _ _ => eY_inj) (rows_eq (by simpa using q2) hc1)
  have e3 := map_inj (fun _ _ => eU_inj) (rows_eq (by simpa using q3) hc2)
  have e4 := map_inj (fun _ _ => eW_inj) (rows_eq (by simpa using q4) hc3)
  have : s = t := by cases s; cases t; simp_all
  subst this
  simp [go_leaf, X.evs, X.ev]
end Go.Proofs.Ytinclokohcommaa

namespace Go.Proofs.Ytinclokohcommaa
open Go.RowKit
set_option linter.unusedVariables false
set_option maxRecDepth 100000

def g_cells_New : List D → Option (List D) := denF [] 12 tree_cells_New
theorem ok_cells_New_c : FOk ct_cells_New g_cells_New := fok_cells_New  fun ds outs hw hg => go_denF hg
def g_law30_x : List D → Option (List D) := denF [] 12 tree_law30_x
theorem ok_law30_x_c : FOk ct_law30_x g_law30_x := fok_law30_x  fun ds outs hw hg => go_denF hg
def g_law30_f : List D → Option (List D) := denF [] 12 tree_law30_f
theorem ok_law30_f_c : FOk ct_law30_f g_law30_f := fok_law30_f  fun ds outs hw hg => go_denF hg
def g_cells_find : List D → Option (List D) := denF [] 12 tree_cells_find
theorem ok_cells_find_c : FOk ct_cells_find g_cells_find := fok_cells_find  fun ds outs hw hg => go_denF hg
def g_cells_Symbol : List D → Option (List D) := denF [(ct_cells_find, g_cells_find)] 12 tree_cells_Symbol
theorem ok_cells_Symbol_c : FOk ct_cells_Symbol g_cells_Symbol := fok_cells_Symbol ok_cells_find_c fun ds outs hw hg => go_denF hg
def g_cmp_isNaN_int64 : List D → Option (List D) := denF [] 12 tree_cmp_isNaN_int64
theorem ok_cmp_isNaN_int64_c : FOk ct_cmp_isNaN_int64 g_cmp_isNaN_int64 := fok_cmp_isNaN_int64  fun ds outs hw hg => go_denF hg
def g_cmp_Compare_int64 : List D → Option (List D) := denF [(ct_cmp_isNaN_int64, g_cmp_isNaN_int64)] 12 tree_cmp_Compare_int64
theorem ok_cmp_Compare_int64_c : FOk ct_cmp_Compare_int64 g_cmp_Compare_int64 := fok_cmp_Compare_int64 ok_cmp_isNaN_int64_c fun ds outs hw hg => go_denF hg
def g_cells_byVar : List D → Option (List D) := denF [(ct_cmp_Compare_int64, g_cmp_Compare_int64)] 12 tree_cells_byVar
theorem ok_cells_byVar_c : FOk ct_cells_byVar g_cells_byVar := fok_cells_byVar ok_cmp_Compare_int64_c fun ds outs hw hg => go_denF hg
def g_slices_BinarySearchFunc_VarCell : List D → Option (List D) := denF [(ct_cells_byVar, g_cells_byVar)] 12 tree_slices_BinarySearchFunc_VarCell
theorem ok_slices_BinarySearchFunc_VarCell_c : FOk ct_slices_BinarySearchFunc_VarCell g_slices_BinarySearchFunc_VarCell := fok_slices_BinarySearchFunc_VarCell ok_cells_byVar_c fun ds outs hw hg => go_denF hg
def g_cells_kept : List D → Option (List D) := denF [] 12 tree_cells_kept
theorem ok_cells_kept_c : FOk ct_cells_kept g_cells_kept := fok_cells_kept  fun ds outs hw hg => go_denF hg
def g_cells_Fresh : List D → Option (List D) := denF [] 12 tree_cells_Fresh
theorem ok_cells_Fresh_c : FOk ct_cells_Fresh g_cells_Fresh := fok_cells_Fresh  fun ds outs hw hg => go_denF hg
def g_slices_Insert_VarCell : List D → Option (List D) := denF [] 12 tree_slices_Insert_VarCell
theorem ok_slices_Insert_VarCell_c : FOk ct_slices_Insert_VarCell g_slices_Insert_VarCell := fok_slices_Insert_VarCell  fun ds outs hw hg => go_denF hg
def G_cells_Put_1 (r : List D → Option (List D)) : List D → Option (List D) := denF [(ct_cells_Put_1, r), (ct_cells_Symbol, g_cells_Symbol), (ct_slices_BinarySearchFunc_VarCell, g_slices_BinarySearchFunc_VarCell), (ct_cells_kept, g_cells_kept), (ct_cells_Fresh, g_cells_Fresh), (ct_slices_Insert_VarCell, g_slices_Insert_VarCell)] 12 tree_cells_Put_1
def g_cells_Put_1 : List D → Option (List D) := upN G_cells_Put_1 6
theorem ok_cells_Put_1_c : FOk ct_cells_Put_1 g_cells_Put_1 := fok_up enter_cells_Put_1 (fun r hr => fok_cells_Put_1 hr ok_cells_Symbol_c ok_slices_BinarySearchFunc_VarCell_c ok_cells_kept_c ok_cells_Fresh_c ok_slices_Insert_VarCell_c fun ds outs hw hg => go_denF hg) 6
def G_term_Size_1 (r : List D → Option (List D)) : List D → Option (List D) := denF [(ct_term_Size_1, r)] 12 tree_term_Size_1
def g_term_Size_1 : List D → Option (List D) := upN G_term_Size_1 6
theorem ok_term_Size_1_c : FOk ct_term_Size_1 g_term_Size_1 := fok_up enter_term_Size_1 (fun r hr => fok_term_Size_1 hr fun ds outs hw hg => go_denF hg) 6
def g_term_Size : List D → Option (List D) := denF [(ct_term_Size_1, g_term_Size_1)] 12 tree_term_Size
theorem ok_term_Size_c : FOk ct_term_Size g_term_Size := fok_term_Size ok_term_Size_1_c fun ds outs hw hg => go_denF hg
def G_term_fits (r : List D → Option (List D)) : List D → Option (List D) := denF [(ct_term_fits, r)] 12 tree_term_fits
def g_term_fits : List D → Option (List D) := upN G_term_fits 6
theorem ok_term_fits_c : FOk ct_term_fits g_term_fits := fok_up enter_term_fits (fun r hr => fok_term_fits hr fun ds outs hw hg => go_denF hg) 6
def g_term_Valid : List D → Option (List D) := denF [(ct_term_Size, g_term_Size), (ct_term_fits, g_term_fits)] 12 tree_term_Valid
theorem ok_term_Valid_c : FOk ct_term_Valid g_term_Valid := fok_term_Valid ok_term_Size_c ok_term_fits_c fun ds outs hw hg => go_denF hg
def g_cells_arity : List D → Option (List D) := denF [] 12 tree_cells_arity
theorem ok_cells_arity_c : FOk ct_cells_arity g_cells_arity := fok_cells_arity  fun ds outs hw hg => go_denF hg
def g_cells_tag : List D → Option (List D) := denF [] 12 tree_cells_tag
theorem ok_cells_tag_c : FOk ct_cells_tag g_cells_tag := fok_cells_tag  fun ds outs hw hg => go_denF hg
def g_cells_ValidCell : List D → Option (List D) := denF [(ct_cells_arity, g_cells_arity), (ct_cells_tag, g_cells_tag)] 12 tree_cells_ValidCell
theorem ok_cells_ValidCell_c : FOk ct_cells_ValidCell g_cells_ValidCell := fok_cells_ValidCell ok_cells_arity_c ok_cells_tag_c fun ds outs hw hg => go_denF hg
def g_cells_validVars : List D → Option (List D) := denF [(ct_cells_ValidCell, g_cells_ValidCell)] 12 tree_cells_validVars
theorem ok_cells_validVars_c : FOk ct_cells_validVars g_cells_validVars := fok_cells_validVars ok_cells_ValidCell_c fun ds outs hw hg => go_denF hg
def G_cells_room_1 (r : List D → Option (List D)) : List D → Option (List D) := denF [(ct_cells_room_1, r), (ct_cells_find, g_cells_find)] 12 tree_cells_room_1
def g_cells_room_1 : List D → Option (List D) := upN G_cells_room_1 6
theorem ok_cells_room_1_c : FOk ct_cells_room_1 g_cells_room_1 := fok_up enter_cells_room_1 (fun r hr => fok_cells_room_1 hr ok_cells_find_c fun ds outs hw hg => go_denF hg) 6
def g_cells_room : List D → Option (List D) := denF [(ct_cells_room_1, g_cells_room_1), (ct_slices_BinarySearchFunc_VarCell, g_slices_BinarySearchFunc_VarCell)] 12 tree_cells_room
theorem ok_cells_room_c : FOk ct_cells_room g_cells_room := fok_cells_room ok_cells_room_1_c ok_slices_BinarySearchFunc_VarCell_c fun ds outs hw hg => go_denF hg
def g_slices_Clone_VarCell : List D → Option (List D) := denF [] 12 tree_slices_Clone_VarCell
theorem ok_slices_Clone_VarCell_c : FOk ct_slices_Clone_VarCell g_slices_Clone_VarCell := fok_slices_Clone_VarCell  fun ds outs hw hg => go_denF hg
def g_cells_Put : List D → Option (List D) := denF [(ct_cells_Put_1, g_cells_Put_1), (ct_term_Valid, g_term_Valid), (ct_cells_validVars, g_cells_validVars), (ct_cells_room, g_cells_room), (ct_slices_Clone_VarCell, g_slices_Clone_VarCell)] 12 tree_cells_Put
theorem ok_cells_Put_c : FOk ct_cells_Put g_cells_Put := fok_cells_Put ok_cells_Put_1_c ok_term_Valid_c ok_cells_validVars_c ok_cells_room_c ok_slices_Clone_VarCell_c fun ds outs hw hg => go_denF hg
def g_law30_str : List D → Option (List D) := denF [] 12 tree_law30_str
theorem ok_law30_str_c : FOk ct_law30_str g_law30_str := fok_law30_str  fun ds outs hw hg => go_denF hg
def g_law30_ref : List D → Option (List D) := denF [] 12 tree_law30_ref
theorem ok_law30_ref_c : FOk ct_law30_ref g_law30_ref := fok_law30_ref  fun ds outs hw hg => go_denF hg
def g_law30_vars : List D → Option (List D) := denF [] 12 tree_law30_vars
theorem ok_law30_vars_c : FOk ct_law30_vars g_law30_vars := fok_law30_vars  fun ds outs hw hg => go_denF hg
def g_cells_Deref : List D → Option (List D) := denF [(ct_cells_ValidCell, g_cells_ValidCell), (ct_cells_tag, g_cells_tag)] 12 tree_cells_Deref
theorem ok_cells_Deref_c : FOk ct_cells_Deref g_cells_Deref := fok_cells_Deref ok_cells_ValidCell_c ok_cells_tag_c fun ds outs hw hg => go_denF hg
def g_term_Int : List D → Option (List D) := denF [] 12 tree_term_Int
theorem ok_term_Int_c : FOk ct_term_Int g_term_Int := fok_term_Int  fun ds outs hw hg => go_denF hg
def g_term_Clone_1 : List D → Option (List D) := denF [] 12 tree_term_Clone_1
theorem ok_term_Clone_1_c : FOk ct_term_Clone_1 g_term_Clone_1 := fok_term_Clone_1  fun ds outs hw hg => go_denF hg
def G_term_apply (r : List D → Option (List D)) : List D → Option (List D) := denF [(ct_term_Clone_1, g_term_Clone_1), (ct_term_apply, r)] 12 tree_term_apply
def g_term_apply : List D → Option (List D) := upN G_term_apply 6
theorem ok_term_apply_c : FOk ct_term_apply g_term_apply := fok_up enter_term_apply (fun r hr => fok_term_apply ok_term_Clone_1_c hr fun ds outs hw hg => go_denF hg) 6
def g_term_Clone : List D → Option (List D) := denF [(ct_term_Valid, g_term_Valid), (ct_term_apply, g_term_apply)] 12 tree_term_Clone
theorem ok_term_Clone_c : FOk ct_term_Clone g_term_Clone := fok_term_Clone ok_term_Valid_c ok_term_apply_c fun ds outs hw hg => go_denF hg
def g_term_Atom : List D → Option (List D) := denF [(ct_term_Clone, g_term_Clone)] 12 tree_term_Atom
theorem ok_term_Atom_c : FOk ct_term_Atom g_term_Atom := fok_term_Atom ok_term_Clone_c fun ds outs hw hg => go_denF hg
def G_cells_Get_1 (r : List D → Option (List D)) : List D → Option (List D) := denF [(ct_cells_Get_1, r), (ct_cells_Deref, g_cells_Deref), (ct_term_Int, g_term_Int), (ct_cells_arity, g_cells_arity), (ct_term_Atom, g_term_Atom), (ct_cells_tag, g_cells_tag)] 12 tree_cells_Get_1
def g_cells_Get_1 : List D → Option (List D) := upN G_cells_Get_1 6
theorem ok_cells_Get_1_c : FOk ct_cells_Get_1 g_cells_Get_1 := fok_up enter_cells_Get_1 (fun r hr => fok_cells_Get_1 hr ok_cells_Deref_c ok_term_Int_c ok_cells_arity_c ok_term_Atom_c ok_cells_tag_c fun ds outs hw hg => go_denF hg) 6
def g_cells_Get : List D → Option (List D) := denF [(ct_cells_Get_1, g_cells_Get_1), (ct_cells_ValidCell, g_cells_ValidCell)] 12 tree_cells_Get
theorem ok_cells_Get_c : FOk ct_cells_Get g_cells_Get := fok_cells_Get ok_cells_Get_1_c ok_cells_ValidCell_c fun ds outs hw hg => go_denF hg
def G_ref03_Count (r : List D → Option (List D)) : List D → Option (List D) := denF [(ct_ref03_Count, r)] 12 tree_ref03_Count
def g_ref03_Count : List D → Option (List D) := upN G_ref03_Count 6
theorem ok_ref03_Count_c : FOk ct_ref03_Count g_ref03_Count := fok_up enter_ref03_Count (fun r hr => fok_ref03_Count hr fun ds outs hw hg => go_denF hg) 6
def g_ref03_Size : List D → Option (List D) := denF [(ct_ref03_Count, g_ref03_Count)] 12 tree_ref03_Size
theorem ok_ref03_Size_c : FOk ct_ref03_Size g_ref03_Size := fok_ref03_Size ok_ref03_Count_c fun ds outs hw hg => go_denF hg
def g_ref03_node : List D → Option (List D) := denF [] 12 tree_ref03_node
theorem ok_ref03_node_c : FOk ct_ref03_node g_ref03_node := fok_ref03_node  fun ds outs hw hg => go_denF hg
def G_ref03_nodes (r : List D → Option (List D)) : List D → Option (List D) := denF [(ct_ref03_node, g_ref03_node), (ct_ref03_nodes, r)] 12 tree_ref03_nodes
def g_ref03_nodes : List D → Option (List D) := upN G_ref03_nodes 6
theorem ok_ref03_nodes_c : FOk ct_ref03_nodes g_ref03_nodes := fok_up enter_ref03_nodes (fun r hr => fok_ref03_nodes ok_ref03_node_c hr fun ds outs hw hg => go_denF hg) 6
def g_ref03_Valid : List D → Option (List D) := denF [(ct_ref03_Size, g_ref03_Size), (ct_ref03_nodes, g_ref03_nodes)] 12 tree_ref03_Valid
theorem ok_ref03_Valid_c : FOk ct_ref03_Valid g_ref03_Valid := fok_ref03_Valid ok_ref03_Size_c ok_ref03_nodes_c fun ds outs hw hg => go_denF hg
def G_ref03_identical (r : List D → Option (List D)) : List D → Option (List D) := denF [(ct_ref03_identical, r)] 12 tree_ref03_identical
def g_ref03_identical : List D → Option (List D) := upN G_ref03_identical 6
theorem ok_ref03_identical_c : FOk ct_ref03_identical g_ref03_identical := fok_up enter_ref03_identical (fun r hr => fok_ref03_identical hr fun ds outs hw hg => go_denF hg) 6
def g_ref03_Same : List D → Option (List D) := denF [(ct_ref03_Valid, g_ref03_Valid), (ct_ref03_identical, g_ref03_identical)] 12 tree_ref03_Same
theorem ok_ref03_Same_c : FOk ct_ref03_Same g_ref03_Same := fok_ref03_Same ok_ref03_Valid_c ok_ref03_identical_c fun ds outs hw hg => go_denF hg
end Go.Proofs.Ytinclokohcommaa

namespace Go.Proofs.Ytinclokohcommaa
open Go.RowKit
set_option linter.unusedVariables false
set_option maxRecDepth 100000

def gYes : List D → Option (List D) := fun _ => some [.b true]
theorem ok_law30_awake : FOk ct_law30_awake gYes := fok_law30_awake ok_cells_New_c ok_law30_x_c ok_law30_f_c ok_cells_Put_c ok_law30_str_c ok_law30_ref_c ok_law30_vars_c ok_cells_Get_c ok_ref03_Same_c ok_cells_Deref_c fun ds outs hw hg => by
  obtain rfl : ds = [] := hw
  simp only [gYes, Option.some.injEq] at hg
  subst hg
  exact go_denF (fuel := 12) (by kernel_rfl)
end Go.Proofs.Ytinclokohcommaa

namespace Go.Proofs.Ytinclokohcommaa
open Go.RowKit
set_option linter.unusedVariables false
set_option linter.unusedSimpArgs false

theorem law_CellsEqual : FOk ct_law30_CellsEqual gYes := fok_law30_CellsEqual ok_cells_Same ok_ref30_Same ok_law30_awake fun ds outs hw hg => by
  obtain ⟨d, r, rfl, hd, e, r', rfl, he, rfl⟩ := hw
  obtain ⟨s, rfl, hs⟩ := wfS hd
  obtain ⟨t, rfl, ht⟩ := wfS he
  simp only [gYes, Option.some.injEq] at hg
  subst hg
  simp only [tree_law30_CellsEqual, go_need, go_br, go_leaf, go_back, allSay, X.says, X.ev, X.evs, evl, tblS, List.getD_cons_zero, List.getD_cons_succ, List.getElem?_cons_zero, List.getElem?_cons_succ, tt_b, int_i, str_s, rs_r, Option.isSome_some, Option.getD_some, decide_eq_true_eq, decide_eq_false_iff_not, dS_eS, dC_eC, dU_eU, dW_eW, dY_eY, eC_0, eC_1, eU_0, eU_1, eW_0, eW_1, eW_2, eY_0, eY_1, eS_0, eS_1, eS_2, eS_3, eS_4, eS_5, List.length_map, i_inj, b_inj, s_inj, eC_eq, eU_eq, eW_eq, eY_eq, eS_eq, rng64, List.take_succ_cons, List.take_zero, List.nil_append, List.cons_append, decide_true, decide_false, Bool.or_true, true_and, and_true, gSame, gYes]
  simp
end Go.Proofs.Ytinclokohcommaa

namespace Go.Proofs.Ytinclokohcommaa
open Go.RowKit
set_option linter.unusedVariables false
set_option linter.unusedSimpArgs false

/-- The number of a symbol. -/
def fnd (nm : ByteArray) (ar : Int) : Nat → List Sy → Int
  | _, [] => -1
  | k, y :: l => if y.name = nm ∧ y.ar = ar then (k : Int) else fnd nm ar (k + 1) l
def findS (s : So) (nm : ByteArray) (ar : Int) : Int := fnd nm ar 0 s.ys
theorem drop_get' {α : Type} [Inhabited α] {l : List α} {k : Nat} (h : k < l.length) : l.drop k = l.getD k default :: l.drop (k + 1) := by
  rw [List.drop_eq_getElem_cons h]
  simp [List.getD_eq_getElem?_getD, h]
theorem fnd_drop {nm : ByteArray} {ar : Int} {l : List Sy} {k : Nat} (h : k < l.length) : fnd nm ar k (l.drop k) = if (l.getD k default).name = nm ∧ (l.getD k default).ar = ar then (k : Int) else fnd nm ar (k + 1) (l.drop (k + 1)) := by
  rw [drop_get' h]
  rfl
theorem fnd_rng {nm : ByteArray} {ar : Int} : ∀ (k : Nat) (l : List Sy), fnd nm ar k l = -1 ∨ ((k : Int) ≤ fnd nm ar k l ∧ fnd nm ar k l < k + l.length)
  | k, [] => .inl rfl
  | k, y :: l => by
    unfold fnd
    split
    · exact .inr ⟨Int.le_refl _, by simp; omega⟩
    · rcases fnd_rng (nm := nm) (ar := ar) (k + 1) l with h | ⟨h1, h2⟩
      · exact .inl h
      · exact .inr ⟨by omega, by simp; omega⟩

def gFind1 : List D → Option (List D)
  | [s, y] => some [.i (findS (dS s) (y.fld 0).str (y.fld 1).int)]
  | _ => none
def gFind2 : List D → Option (List D)
  | [s, nm, ar] => some [.i (findS (dS s) nm.str ar.int)]
  | _ => none
theorem ok_cells_find : FOk ct_cells_find gFind1 := fok_cells_find fun ds outs hw hg => by
  obtain ⟨d, r, rfl, hd, e, r', rfl, he, rfl⟩ := hw
  obtain ⟨s, rfl, hs⟩ := wfS hd
  obtain ⟨y, rfl, hy⟩ := wfY he
  simp only [gFind1, dS_eS, eY_0, eY_1, str_s, int_i, Option.some.injEq] at hg
  subst hg
  have hl := hs.ys.1
  rw [tree_cells_find, go_loop]
  refine ⟨fun st => ∃ k : Nat, k ≤ s.ys.length ∧ st = [.i 0, .i k] ∧ fnd y.name y.ar k (s.ys.drop k) = findS s y.name y.ar, fun st => s.ys.length - (st.getD 1 .u).int.toNat, ⟨0, Nat.zero_le _, rfl, rfl⟩, ?_⟩
  rintro st - ⟨k, hk, rfl, hf⟩
  simp only [go_need, go_br, go_leaf, go_back, allSay, X.says, X.ev, X.evs, evl, tblS, List.getD_cons_zero, List.getD_cons_succ, List.getElem?_cons_zero, List.getElem?_cons_succ, tt_b, int_i, str_s, rs_r, Option.isSome_some, Option.getD_some, decide_eq_true_eq, decide_eq_false_iff_not, dS_eS, dC_eC, dU_eU, dW_eW, dY_eY, eC_0, eC_1, eU_0, eU_1, eW_0, eW_1, eW_2, eY_0, eY_1, eS_0, eS_1, eS_2, eS_3, eS_4, eS_5, List.length_map, i_inj, b_inj, s_inj, eC_eq, eU_eq, eW_eq, eY_eq, eS_eq, rng64, List.take_succ_cons, List.take_zero, List.nil_append, List.cons_append, decide_true, decide_false, Bool.or_true, true_and, and_true]
  refine ⟨fun hlt => ?_, fun hlt => ?_⟩
  · have hkn : k < s.ys.length := by omega
    rw [fnd_drop hkn] at hf
    simp only [get_n eY hkn, eY_eq]
    generalize s.ys.getD k default = z at hf
    refine ⟨⟨by omega, by omega⟩, fun he => ?_, fun he => ⟨⟨by omega, by omega⟩, ?_⟩⟩
    · have he' : z = y := by simpa using he
      subst he'
      rw [if_pos ⟨rfl, rfl⟩] at hf
      rw [← hf]
    · have he' : ¬ z = y := by simpa using he
      have hne : ¬ (z.name = y.name ∧ z.ar = y.ar) := fun h => he' (by cases z; cases y; simp_all)
      rw [if_neg hne] at hf
      rw [updB, if_pos rfl]
      refine ⟨⟨k + 1, hkn, by simp, hf⟩, ?_⟩
      simp [D.int]
      omega
  · have : k = s.ys.length := by omega
    subst this
    rw [List.drop_length] at hf
    rw [← hf]
    rfl
theorem ok_ref30_Find : FOk ct_ref30_Find gFind2 := fok_ref30_Find fun ds outs hw hg => by
  obtain ⟨d, r, rfl, hd, e, r', rfl, he, f, r2, rfl, hf', rfl⟩ := hw
  obtain ⟨s, rfl, hs⟩ := wfS hd
  obtain ⟨nm, rfl, hn⟩ := he.str
  obtain ⟨ar, rfl, ha⟩ := wfI hf'
  simp only [gFind2, dS_eS, str_s, int_i, Option.some.injEq] at hg
  subst hg
  have hl := hs.ys.1
  rw [tree_ref30_Find, go_loop]
  refine ⟨fun st => ∃ k : Nat, k ≤ s.ys.length ∧ st = [.i 0, .i k] ∧ fnd nm ar k (s.ys.drop k) = findS s nm ar, fun st => s.ys.length - (st.getD 1 .u).int.toNat, ⟨0, Nat.zero_le _, rfl, rfl⟩, ?_⟩
  rintro st - ⟨k, hk, rfl, hf⟩
  simp only [go_need, go_br, go_leaf, go_back, allSay, X.says, X.ev, X.evs, evl, tblS, List.getD_cons_zero, List.getD_cons_succ, List.getElem?_cons_zero, List.getElem?_cons_succ, tt_b, int_i, str_s, rs_r, Option.isSome_some, Option.getD_some, decide_eq_true_eq, decide_eq_false_iff_not, dS_eS, dC_eC, dU_eU, dW_eW, dY_eY, eC_0, eC_1, eU_0, eU_1, eW_0, eW_1, eW_2, eY_0, eY_1, eS_0, eS_1, eS_2, eS_3, eS_4, eS_5, List.length_map, i_inj, b_inj, s_inj, eC_eq, eU_eq, eW_eq, eY_eq, eS_eq, rng64, List.take_succ_cons, List.take_zero, List.nil_append, List.cons_append, decide_true, decide_false, Bool.or_true, true_and, and_true]
  refine ⟨fun hlt => ?_, fun hlt => ?_⟩
  · have hkn : k < s.ys.length := by omega
    rw [fnd_drop hkn] at hf
    simp only [get_n eY hkn, eY_0, eY_1, s_inj, i_inj]
    generalize s.ys.getD k default = z at hf
    refine ⟨⟨by omega, by omega, by simp, by simp; omega⟩, fun he => ?_, fun he => ⟨⟨by omega, by omega⟩, ?_⟩⟩
    · have he' : z.name = nm ∧ z.ar = ar := by simpa using he
      rw [if_pos he'] at hf
      rw [← hf]
    · have he' : ¬ (z.name = nm ∧ z.ar = ar) := by simpa using he
      rw [if_neg he'] at hf
      rw [updB, if_pos rfl]
      refine ⟨⟨k + 1, hkn, by simp, hf⟩, ?_⟩
      simp [D.int]
      omega
  · have : k = s.ys.length := by omega
    subst this
    rw [List.drop_length] at hf
    rw [← hf]
    rfl

def symBad (nm : ByteArray) (ar : Int) : Bool := decide (100 < (nm.size : Int)) || (decide (ar < 0) || decide (8 < ar))
def gSym : List D → Option (List D)
  | [s, nm, ar] => if symBad nm.str ar.int then some [.i 0, .i 1, eS (dS s)] else if decide (0 ≤ findS (dS s) nm.str ar.int) then some [.i (findS (dS s) nm.str ar.int), .i 0, eS (dS s)]
      else if decide (1048576 ≤ (dS s).ys.length) then some [.i 0, .i 13, eS (dS s)] else some [.i (dS s).ys.length, .i 0, eS { dS s with ys := (dS s).ys ++ [⟨nm.str, ar.int⟩] }]
  | _ => none
theorem ys_app (s : So) (y : Sy) : D.a ((eS s).fs.set 1 (.r (s.ys.map eY ++ [eY y]))) = eS { s with ys := s.ys ++ [y] } := by simp [eS, D.fs]
theorem ok_cells_Symbol : FOk ct_cells_Symbol gSym := fok_cells_Symbol ok_cells_find fun ds outs hw hg => by
  obtain ⟨d, r, rfl, hd, e, r', rfl, he, f, r2, rfl, hf', rfl⟩ := hw
  obtain ⟨s, rfl, hs⟩ := wfS hd
  obtain ⟨nm, rfl, hn⟩ := he.str
  obtain ⟨ar, rfl, ha⟩ := wfI hf'
  simp only [gSym, dS_eS, str_s, int_i] at hg
  have ey : D.a [.s nm, .i ar] = eY ⟨nm, ar⟩ := rfl
  simp only [tree_cells_Symbol, go_need, go_br, go_leaf, go_back, allSay, X.says, X.ev, X.evs, evl, tblS, List.getD_cons_zero, List.getD_cons_succ, List.getElem?_cons_zero, List.getElem?_cons_succ, tt_b, int_i, str_s, rs_r, Option.isSome_some, Option.getD_some, decide_eq_true_eq, decide_eq_false_iff_not, dS_eS, dC_eC, dU_eU, dW_eW, dY_eY, eC_0, eC_1, eU_0, eU_1, eW_0, eW_1, eW_2, eY_0, eY_1, eS_0, eS_1, eS_2, eS_3, eS_4, eS_5, List.length_map, i_inj, b_inj, s_inj, eC_eq, eU_eq, eW_eq, eY_eq, eS_eq, rng64, List.take_succ_cons, List.take_zero, List.nil_append, List.cons_append, decide_true, decide_false, Bool.or_true, true_and, and_true, gFind1, ey, ys_app]
  cases hb : symBad nm ar with
  | true =>
    simp only [hb, if_true, Option.some.injEq] at hg
    subst hg
    have hb' : (decide (100 < (nm.size : Int)) || decide (ar < 0) || decide (8 < ar)) = true := by rw [Bool.or_assoc]; exact hb
    rw [hb']
    exact ⟨fun _ => rfl, fun h => (by cases h)⟩
  | false =>
    simp only [hb, Bool.false_eq_true, if_false] at hg
    have hb' : (decide (100 < (nm.size : Int)) || decide (ar < 0) || decide (8 < ar)) = false := by rw [Bool.or_assoc]; exact hb
    rw [hb']
    refine ⟨fun h => (by cases h), fun _ => ⟨fun h0 => ?_, fun h0 => ⟨fun h1 => ?_, fun h1 => ?_⟩⟩⟩
    · rw [if_pos (decide_eq_true h0)] at hg
      exact Option.some.inj hg
    · have h1' : 1048576 ≤ s.ys.length := by omega
      rw [if_neg (by simpa using h0), if_pos (decide_eq_true h1')] at hg
      exact Option.some.inj hg
    · have h1' : ¬ 1048576 ≤ s.ys.length := by omega
      rw [if_neg (by simpa using h0), if_neg (by simpa using h1')] at hg
      have := Option.some.inj hg
      subst this
      simp [eS, D.fld, D.fs, D.rs]
      omega
theorem ok_ref30_Symbol : FOk ct_ref30_Symbol gSym := fok_ref30_Symbol ok_ref30_Find fun ds outs hw hg => by
  obtain ⟨d, r, rfl, hd, e, r', rfl, he, f, r2, rfl, hf', rfl⟩ := hw
  obtain ⟨s, rfl, hs⟩ := wfS hd
  obtain ⟨nm, rfl, hn⟩ := he.str
  obtain ⟨ar, rfl, ha⟩ := wfI hf'
  simp only [gSym, dS_eS, str_s, int_i] at hg
  have ey : D.a [.s nm, .i ar] = eY ⟨nm, ar⟩ := rfl
  simp only [tree_ref30_Symbol, go_need, go_br, go_leaf, go_back, allSay, X.says, X.ev, X.evs, evl, tblS, List.getD_cons_zero, List.getD_cons_succ, List.getElem?_cons_zero, List.getElem?_cons_succ, tt_b, int_i, str_s, rs_r, Option.isSome_some, Option.getD_some, decide_eq_true_eq, decide_eq_false_iff_not, dS_eS, dC_eC, dU_eU, dW_eW, dY_eY, eC_0, eC_1, eU_0, eU_1, eW_0, eW_1, eW_2, eY_0, eY_1, eS_0, eS_1, eS_2, eS_3, eS_4, eS_5, List.length_map, i_inj, b_inj, s_inj, eC_eq, eU_eq, eW_eq, eY_eq, eS_eq, rng64, List.take_succ_cons, List.take_zero, List.nil_append, List.cons_append, decide_true, decide_false, Bool.or_true, true_and, and_true, gFind2, ey, ys_app]
  cases hb : symBad nm ar with
  | true =>
    simp only [hb, if_true, Option.some.injEq] at hg
    subst hg
    have hb' : (decide (100 < (nm.size : Int)) || decide (ar < 0) || decide (8 < ar)) = true := by rw [Bool.or_assoc]; exact hb
    rw [hb']
    exact ⟨fun _ => rfl, fun h => (by cases h)⟩
  | false =>
    simp only [hb, Bool.false_eq_true, if_false] at hg
    have hb' : (decide (100 < (nm.size : Int)) || decide (ar < 0) || decide (8 < ar)) = false := by rw [Bool.or_assoc]; exact hb
    rw [hb']
    refine ⟨fun h => (by cases h), fun _ => ⟨fun h0 => ?_, fun h0 => ⟨fun h1 => ?_, fun h1 => ?_⟩⟩⟩
    · rw [if_pos (decide_eq_true h0)] at hg
      exact Option.some.inj hg
    · have h1' : 1048576 ≤ s.ys.length := by omega
      rw [if_neg (by simpa using h0), if_pos (decide_eq_true h1')] at hg
      exact Option.some.inj hg
    · have h1' : ¬ 1048576 ≤ s.ys.length := by omega
      rw [if_neg (by simpa using h0), if_neg (by simpa using h1')] at hg
      have := Option.some.inj hg
      subst this
      simp [eS, D.fld, D.fs, D.rs]
      omega

def gFresh : List D → Option (List D)
  | [s] => if decide ((dS s).mx ≤ (dS s).cs.length) then some [eC ⟨0, 0⟩, .i 13, eS (dS s)] else if decide ((dS s).cs.length < 8796093021952) then some [eC ⟨0, (dS s).cs.length⟩, .i 0, eS { dS s with cs := (dS s).cs ++ [⟨0, (dS s).cs.length⟩] }] else none
  | _ => none
theorem cs_app (s : So) (y : Ce) : D.a ((eS s).fs.set 0 (.r (s.cs.map eC ++ [eC y]))) = eS { s with cs := s.cs ++ [y] } := by simp [eS, D.fs]
theorem ok_cells_Fresh : FOk ct_cells_Fresh gFresh := fok_cells_Fresh fun ds outs hw hg => by
  obtain ⟨d, r, rfl, hd, rfl⟩ := hw
  obtain ⟨s, rfl, hs⟩ := wfS hd
  simp only [gFresh, dS_eS] at hg
  simp only [tree_cells_Fresh, go_need, go_br, go_leaf, go_back, allSay, X.says, X.ev, X.evs, evl, tblS, List.getD_cons_zero, List.getD_cons_succ, List.getElem?_cons_zero, List.getElem?_cons_succ, tt_b, int_i, str_s, rs_r, Option.isSome_some, Option.getD_some, decide_eq_true_eq, decide_eq_false_iff_not, dS_eS, dC_eC, dU_eU, dW_eW, dY_eY, eC_0, eC_1, eU_0, eU_1, eW_0, eW_1, eW_2, eY_0, eY_1, eS_0, eS_1, eS_2, eS_3, eS_4, eS_5, List.length_map, i_inj, b_inj, s_inj, eC_eq, eU_eq, eW_eq, eY_eq, eS_eq, rng64, List.take_succ_cons, List.take_zero, List.nil_append, List.cons_append, decide_true, decide_false, Bool.or_true, true_and, and_true, eC_mk, cs_app]
  refine ⟨fun h0 => ?_, fun h0 => ?_⟩
  · rw [if_pos (decide_eq_true h0)] at hg
    exact Option.some.inj hg
  · rw [if_neg (by simpa using h0)] at hg
    split at hg
    · rename_i h1
      have h1 := of_decide_eq_true h1
      have := Option.some.inj hg
      exact ⟨by omega, this⟩
    · cases hg
theorem ok_ref30_Fresh : FOk ct_ref30_Fresh gFresh := fok_ref30_Fresh fun ds outs hw hg => by
  obtain ⟨d, r, rfl, hd, rfl⟩ := hw
  obtain ⟨s, rfl, hs⟩ := wfS hd
  simp only [gFresh, dS_eS] at hg
  simp only [tree_ref30_Fresh, go_need, go_br, go_leaf, go_back, allSay, X.says, X.ev, X.evs, evl, tblS, List.getD_cons_zero, List.getD_cons_succ, List.getElem?_cons_zero, List.getElem?_cons_succ, tt_b, int_i, str_s, rs_r, Option.isSome_some, Option.getD_some, decide_eq_true_eq, decide_eq_false_iff_not, dS_eS, dC_eC, dU_eU, dW_eW, dY_eY, eC_0, eC_1, eU_0, eU_1, eW_0, eW_1, eW_2, eY_0, eY_1, eS_0, eS_1, eS_2, eS_3, eS_4, eS_5, List.length_map, i_inj, b_inj, s_inj, eC_eq, eU_eq, eW_eq, eY_eq, eS_eq, rng64, List.take_succ_cons, List.take_zero, List.nil_append, List.cons_append, decide_true, decide_false, Bool.or_true, true_and, and_true, eC_mk, cs_app]
  refine ⟨fun h0 => ?_, fun h0 => ?_⟩
  · rw [if_pos (decide_eq_true h0)] at hg
    exact Option.some.inj hg
  · rw [if_neg (by simpa using h0)] at hg
    split at hg
    · rename_i h1
      have h1 := of_decide_eq_true h1
      have := Option.some.inj hg
      exact ⟨by omega, this⟩
    · cases hg

theorem gSym_some (s : So) (nm : ByteArray) (ar : Int) : ∃ n e s', gSym [eS s, .s nm, .i ar] = some [.i n, .i e, eS s'] ∧ s'.cs = s.cs ∧ s'.mx = s.mx := by
  simp only [gSym, dS_eS, str_s, int_i]
  split
  · exact ⟨_, _, s, rfl, rfl, rfl⟩
  · split
    · exact ⟨_, _, s, rfl, rfl, rfl⟩
    · split
      · exact ⟨_, _, s, rfl, rfl, rfl⟩
      · exact ⟨_, _, _, rfl, rfl, rfl⟩

theorem law_CellsAdd : FOk ct_law30_CellsAdd gYes := fok_law30_CellsAdd ok_ref30_Valid ok_law30_awake ok_ref30_Clone ok_cells_Symbol ok_ref30_Symbol ok_ref30_Same ok_cells_Fresh ok_ref30_Fresh fun ds outs hw hg => by
  obtain ⟨d, r, rfl, hd, e, r', rfl, he, f, r2, rfl, hf, rfl⟩ := hw
  obtain ⟨s, rfl, hs⟩ := wfS hd
  obtain ⟨nm, rfl, hn⟩ := he.str
  obtain ⟨ar, rfl, ha⟩ := wfI hf
  simp only [gYes, Option.some.injEq] at hg
  subst hg
  have hc : gClone [eS s] = some [eS s] := by simp only [gClone, dS_eS, clQ_of hs, if_true]
  obtain ⟨n, x, s', hsym, hcs, hmx⟩ := gSym_some s nm ar
  rw [tree_law30_CellsAdd, go_need]
  refine ⟨by simp only [go_need, go_br, go_leaf, go_back, allSay, X.says, X.ev, X.evs, evl, tblS, List.getD_cons_zero, List.getD_cons_succ, List.getElem?_cons_zero, List.getElem?_cons_succ, tt_b, int_i, str_s, rs_r, Option.isSome_some, Option.getD_some, decide_eq_true_eq, decide_eq_false_iff_not, dS_eS, dC_eC, dU_eU, dW_eW, dY_eY, eC_0, eC_1, eU_0, eU_1, eW_0, eW_1, eW_2, eY_0, eY_1, eS_0, eS_1, eS_2, eS_3, eS_4, eS_5, List.length_map, i_inj, b_inj, s_inj, eC_eq, eU_eq, eW_eq, eY_eq, eS_eq, rng64, List.take_succ_cons, List.take_zero, List.nil_append, List.cons_append, decide_true, decide_false, Bool.or_true, true_and, and_true, gSb], ?_⟩
  rw [go_br]
  refine ⟨fun hx => by simp only [go_need, go_br, go_leaf, go_back, allSay, X.says, X.ev, X.evs, evl, tblS, List.getD_cons_zero, List.getD_cons_succ, List.getElem?_cons_zero, List.getElem?_cons_succ, tt_b, int_i, str_s, rs_r, Option.isSome_some, Option.getD_some, decide_eq_true_eq, decide_eq_false_iff_not, dS_eS, dC_eC, dU_eU, dW_eW, dY_eY, eC_0, eC_1, eU_0, eU_1, eW_0, eW_1, eW_2, eY_0, eY_1, eS_0, eS_1, eS_2, eS_3, eS_4, eS_5, List.length_map, i_inj, b_inj, s_inj, eC_eq, eU_eq, eW_eq, eY_eq, eS_eq, rng64, List.take_succ_cons, List.take_zero, List.nil_append, List.cons_append, decide_true, decide_false, Bool.or_true, true_and, and_true, gYes], fun hx => ?_⟩
  have hv : validR s = true := by simpa [X.ev, X.evs, evl, tblS, gSb, dS_eS, D.tt] using hx
  have hmax : (s.cs.length : Int) ≤ 1048576 := by
    simp only [validR, headB, Bool.and_eq_true, decide_eq_true_eq] at hv
    omega
  have hfr : ∃ c e s2, gFresh [eS s'] = some [eC c, .i e, eS s2] := by
    simp only [gFresh, dS_eS]
    split
    · exact ⟨_, _, _, rfl⟩
    · rw [if_pos (decide_eq_true (by rw [hcs]; omega))]
      exact ⟨_, _, _, rfl⟩
  obtain ⟨c2, e2, s2, hfr⟩ := hfr
  simp only [go_need, go_br, go_leaf, go_back, allSay, X.says, X.ev, X.evs, evl, tblS, List.getD_cons_zero, List.getD_cons_succ, List.getElem?_cons_zero, List.getElem?_cons_succ, tt_b, int_i, str_s, rs_r, Option.isSome_some, Option.getD_some, decide_eq_true_eq, decide_eq_false_iff_not, dS_eS, dC_eC, dU_eU, dW_eW, dY_eY, eC_0, eC_1, eU_0, eU_1, eW_0, eW_1, eW_2, eY_0, eY_1, eS_0, eS_1, eS_2, eS_3, eS_4, eS_5, List.length_map, i_inj, b_inj, s_inj, eC_eq, eU_eq, eW_eq, eY_eq, eS_eq, rng64, List.take_succ_cons, List.take_zero, List.nil_append, List.cons_append, decide_true, decide_false, Bool.or_true, true_and, and_true, hc, hsym, hfr, gSame, gYes]
  simp
end Go.Proofs.Ytinclokohcommaa

namespace Go.Proofs.Ytinclokohcommaa
open Go.RowKit
set_option linter.unusedVariables false
set_option maxRecDepth 100000

def ct_law30_spoil : Ct := ⟨48, [.own (.st 26)], [], []⟩
theorem enter_law30_spoil (args : Array Value) (w : World) : (callFunc ct_law30_spoil.f args).run Try.prog w = .ok (.enter ct_law30_spoil.f args) w := by kernel_rfl
def ann_law30_spoil : Ann := ⟨[0, 1, 2, 3, 4, 5, 10, 22, 34, 46], [(2, ⟨[(2, .int .i64, false)], [1], [6, 7, 8, 9, 10, 13, 14, 15, 16, 17, 11, 12, 0], []⟩),
  (6, ⟨[(3, .int .i64, false)], [1], [18, 19, 20, 21, 22, 25, 26, 27, 28, 29, 23, 24, 0], []⟩),
  (10, ⟨[(4, .int .i64, false)], [1], [30, 31, 32, 33, 34, 37, 38, 39, 40, 41, 35, 36, 0], []⟩),
  (14, ⟨[(5, .int .i64, false)], [1], [42, 43, 44, 45, 46, 49, 50, 51, 52, 53, 47, 48, 0], []⟩)]⟩
def tree_law30_spoil : Tree := (.loop 2 1 [(.lit (.i 0)), (.tok 0)] (.br (.lt (.tok 1) (.len (.fld (.tok 2) 0))) (.need [(.le (.lit (.i 0)) (.tok 1)), (.lt (.tok 1) (.len (.fld (.tok 2) 0)))] (.need [(.rng .i64 (.add (.tok 1) (.lit (.i 1))))] (.back 2 [(.add (.tok 1) (.lit (.i 1))), (.set (.tok 2) 0 (.put (.fld (.tok 2) 0) (.tok 1) (.set (.lit (.a [(.i 0), (.i 0)])) 0 (.lit (.i 9)))))]))) (.loop 6 3 [(.lit (.i 0)), (.tok 2)] (.br (.lt (.tok 3) (.len (.fld (.tok 4) 1))) (.need [(.le (.lit (.i 0)) (.tok 3)), (.lt (.tok 3) (.len (.fld (.tok 4) 1)))] (.need [(.rng .i64 (.add (.tok 3) (.lit (.i 1))))] (.back 6 [(.add (.tok 3) (.lit (.i 1))), (.set (.tok 4) 1 (.put (.fld (.tok 4) 1) (.tok 3) (.set (.get (.fld (.tok 4) 1) (.tok 3)) 1 (.lit (.i 99)))))]))) (.loop 10 5 [(.lit (.i 0)), (.tok 4)] (.br (.lt (.tok 5) (.len (.fld (.tok 6) 2))) (.need [(.le (.lit (.i 0)) (.tok 5)), (.lt (.tok 5) (.len (.fld (.tok 6) 2)))] (.need [(.rng .i64 (.add (.tok 5) (.lit (.i 1))))] (.back 10 [(.add (.tok 5) (.lit (.i 1))), (.set (.tok 6) 2 (.put (.fld (.tok 6) 2) (.tok 5) (.set (.get (.fld (.tok 6) 2) (.tok 5)) 0 (.lit (.i (-1))))))]))) (.loop 14 7 [(.lit (.i 0)), (.tok 6)] (.br (.lt (.tok 7) (.len (.fld (.tok 8) 3))) (.need [(.le (.lit (.i 0)) (.tok 7)), (.lt (.tok 7) (.len (.fld (.tok 8) 3)))] (.need [(.rng .i64 (.add (.tok 7) (.lit (.i 1))))] (.back 14 [(.add (.tok 7) (.lit (.i 1))), (.set (.tok 8) 3 (.put (.fld (.tok 8) 3) (.tok 7) (.set (.get (.fld (.tok 8) 3) (.tok 7)) 0 (.lit (.i (-1))))))]))) (.leaf [])))))))))
set_option maxRecDepth 100000 in
theorem code_law30_spoil : ∀ cd, Try.f48.body = some cd → treeOf Try.prog [] ann_law30_spoil ct_law30_spoil Try.f48 cd = tree_law30_spoil := by
  intro cd h
  injection h with h
  subst h
  kernel_rfl
theorem fok_law30_spoil {g : List D → Option (List D)}  (h : ∀ ds outs, WfA ct_law30_spoil.ars ds → g ds = some outs → tree_law30_spoil.go (tblS []) (fun o => o = outs) ds fun _ _ => False) : FOk ct_law30_spoil g :=
  fok_of ann_law30_spoil Try.f48 _ .nil rfl rfl enter_law30_spoil (by decide) fun ds outs hw hg => by rw [code_law30_spoil  _ rfl]; exact h ds outs hw hg

def ct_law30_CellsValid : Ct := ⟨12, [.val (.st 26), .val (.st 36), .val (.int .i64)], [(.bool, false)], []⟩
theorem enter_law30_CellsValid (args : Array Value) (w : World) : (callFunc ct_law30_CellsValid.f args).run Try.prog w = .ok (.enter ct_law30_CellsValid.f args) w := by kernel_rfl
def ann_law30_CellsValid : Ann := ⟨[0, 1, 2, 3, 4, 6, 7, 8, 9, 10, 11, 12, 30, 65], []⟩
def tree_law30_CellsValid : Tree := (.need [(.imp (.and (.not (.not (.eq (.call 0 0 [(.tok 0)]) (.call 1 0 [(.tok 0)])))) (.call 1 0 [(.tok 0)])) (.ok 3 [(.tok 0), (.tok 1)])), (.imp (.and (.not (.not (.eq (.call 0 0 [(.tok 0)]) (.call 1 0 [(.tok 0)])))) (.call 1 0 [(.tok 0)])) (.ok 2 [(.tok 0), (.tok 1)])), (.imp (.and (.not (.not (.eq (.call 0 0 [(.tok 0)]) (.call 1 0 [(.tok 0)])))) (.call 1 0 [(.tok 0)])) (.ok 2 [(.tok 0), (.tok 1)])), (.imp (.and (.not (.not (.eq (.call 0 0 [(.tok 0)]) (.call 1 0 [(.tok 0)])))) (.call 1 0 [(.tok 0)])) (.ok 2 [(.tok 0), (.tok 1)])), (.imp (.not (.not (.eq (.call 0 0 [(.tok 0)]) (.call 1 0 [(.tok 0)])))) (.ok 1 [(.tok 0)])), (.ok 1 [(.tok 0)]), (.ok 0 [(.tok 0)])] (.br (.or (.not (.eq (.call 0 0 [(.tok 0)]) (.call 1 0 [(.tok 0)]))) (.and (.call 1 0 [(.tok 0)]) (.not (.eq (.call 2 0 [(.tok 0), (.tok 1)]) (.call 3 0 [(.tok 0), (.tok 1)]))))) (.leaf [(.lit (.b .false))]) (.need [(.ok 4 [(.tok 2)])] (.need [(.ok 5 [(.tok 2)])] (.need [(.ok 6 [(.tok 0)])] (.need [(.ok 7 [(.tok 0)])] (.need [(.imp (.not (.not (.eq (.call 4 1 [(.tok 2)]) (.call 5 1 [(.tok 2)])))) (.ok 8 [(.call 4 0 [(.tok 2)]), (.call 5 0 [(.tok 2)])])), (.imp (.not (.or (.not (.eq (.call 4 1 [(.tok 2)]) (.call 5 1 [(.tok 2)]))) (.not (.call 8 0 [(.call 4 0 [(.tok 2)]), (.call 5 0 [(.tok 2)])])))) (.ok 8 [(.call 7 0 [(.tok 0)]), (.tok 0)])), (.imp (.not (.or (.or (.not (.eq (.call 4 1 [(.tok 2)]) (.call 5 1 [(.tok 2)]))) (.not (.call 8 0 [(.call 4 0 [(.tok 2)]), (.call 5 0 [(.tok 2)])]))) (.not (.call 8 0 [(.call 7 0 [(.tok 0)]), (.tok 0)])))) (.ok 9 [(.call 7 0 [(.tok 0)]), (.tok 0)]))] (.br (.or (.or (.or (.not (.eq (.call 4 1 [(.tok 2)]) (.call 5 1 [(.tok 2)]))) (.not (.call 8 0 [(.call 4 0 [(.tok 2)]), (.call 5 0 [(.tok 2)])]))) (.not (.call 8 0 [(.call 7 0 [(.tok 0)]), (.tok 0)]))) (.not (.call 9 0 [(.call 7 0 [(.tok 0)]), (.tok 0)]))) (.leaf [(.lit (.b .false))]) (.need [(.ok 10 [(.call 7 0 [(.tok 0)])])] (.need [(.ok 8 [(.tok 0), (.call 6 0 [(.tok 0)])]), (.imp (.call 8 0 [(.tok 0), (.call 6 0 [(.tok 0)])]) (.ok 11 []))] (.leaf [(.and (.call 8 0 [(.tok 0), (.call 6 0 [(.tok 0)])]) (.call 11 0 []))])))))))))))
set_option maxRecDepth 100000 in
theorem code_law30_CellsValid (g0 g1 g2 g3 g4 g5 g6 g7 g8 g9 g10 g11 : List D → Option (List D)) : ∀ cd, Try.f12.body = some cd → treeOf Try.prog [(ct_cells_Valid, g0), (ct_ref30_Valid, g1), (ct_cells_ValidCell, g2), (ct_ref30_ValidCell, g3), (ct_cells_New, g4), (ct_ref30_New, g5), (ct_ref30_Clone, g6), (ct_cells_Clone, g7), (ct_ref30_Same, g8), (ct_cells_Same, g9), (ct_law30_spoil, g10), (ct_law30_awake, g11)] ann_law30_CellsValid ct_law30_CellsValid Try.f12 cd = tree_law30_CellsValid := by
  intro cd h
  injection h with h
  subst h
  kernel_rfl
theorem fok_law30_CellsValid {g0 g1 g2 g3 g4 g5 g6 g7 g8 g9 g10 g11 : List D → Option (List D)} {g : List D → Option (List D)} (h0 : FOk ct_cells_Valid g0) (h1 : FOk ct_ref30_Valid g1) (h2 : FOk ct_cells_ValidCell g2) (h3 : FOk ct_ref30_ValidCell g3) (h4 : FOk ct_cells_New g4) (h5 : FOk ct_ref30_New g5) (h6 : FOk ct_ref30_Clone g6) (h7 : FOk ct_cells_Clone g7) (h8 : FOk ct_ref30_Same g8) (h9 : FOk ct_cells_Same g9) (h10 : FOk ct_law30_spoil g10) (h11 : FOk ct_law30_awake g11) (h : ∀ ds outs, WfA ct_law30_CellsValid.ars ds → g ds = some outs → tree_law30_CellsValid.go (tblS [(ct_cells_Valid, g0), (ct_ref30_Valid, g1), (ct_cells_ValidCell, g2), (ct_ref30_ValidCell, g3), (ct_cells_New, g4), (ct_ref30_New, g5), (ct_ref30_Clone, g6), (ct_cells_Clone, g7), (ct_ref30_Same, g8), (ct_cells_Same, g9), (ct_law30_spoil, g10), (ct_law30_awake, g11)]) (fun o => o = outs) ds fun _ _ => False) : FOk ct_law30_CellsValid g :=
  fok_of ann_law30_CellsValid Try.f12 _ (.cons h0 (.cons h1 (.cons h2 (.cons h3 (.cons h4 (.cons h5 (.cons h6 (.cons h7 (.cons h8 (.cons h9 (.cons h10 (.cons h11 .nil)))))))))))) rfl rfl enter_law30_CellsValid (by decide) fun ds outs hw hg => by rw [code_law30_CellsValid g0 g1 g2 g3 g4 g5 g6 g7 g8 g9 g10 g11 _ rfl]; exact h ds outs hw hg

end Go.Proofs.Ytinclokohcommaa

namespace Go.Proofs.Ytinclokohcommaa
open Go.RowKit
set_option linter.unusedVariables false
set_option linter.unusedSimpArgs false

structure VS (s : So) : Prop where
  tag : ∀ i : Int, inS s i = true → 0 ≤ (cellAt s i).t ∧ (cellAt s i).t ≤ 5
theorem vcR_tag {s : So} {c : Ce} (h : vcR s c = true) : c.t = 0 ∨ c.t = 1 ∨ c.t = 2 ∨ c.t = 3 ∨ c.t = 5 := by
  unfold vcR at h
  by_cases h0 : c.t = 0
  · exact .inl h0
  · by_cases h1 : c.t = 1
    · exact .inr (.inl h1)
    · by_cases h2 : c.t = 2
      · exact .inr (.inr (.inl h2))
      · by_cases h3 : c.t = 3
        · exact .inr (.inr (.inr (.inl h3)))
        · by_cases h5 : c.t = 5
          · exact .inr (.inr (.inr (.inr h5)))
          · simp [h0, h1, h2, h3, h5] at h
theorem vcP_tag {s : So} {c : Ce} (h : vcP s c = true) : c.t = 0 ∨ c.t = 1 ∨ c.t = 2 ∨ c.t = 3 ∨ c.t = 5 := by
  unfold vcP at h
  by_cases h0 : c.t = 0
  · exact .inl h0
  · by_cases h1 : c.t = 1
    · exact .inr (.inl h1)
    · by_cases h2 : c.t = 2
      · exact .inr (.inr (.inl h2))
      · by_cases h3 : c.t = 3
        · exact .inr (.inr (.inr (.inl h3)))
        · by_cases h5 : c.t = 5
          · exact .inr (.inr (.inr (.inr h5)))
          · simp [h0, h1, h2, h3, h5] at h
theorem validR_vs {s : So} (h : validR s = true) : VS s := by
  simp only [validR, Bool.and_eq_true] at h
  refine ⟨fun i hi => ?_⟩
  have h1 := inS_iff.1 hi
  have hk := all_of h.2.1 (k := i.toNat) (by omega)
  rw [show ((i.toNat : Nat) : Int) = i by omega] at hk
  unfold cellR at hk
  by_cases h4 : (cellAt s i).t = 4
  · omega
  · rw [if_neg h4] at hk
    simp only [Bool.and_eq_true] at hk
    have := vcR_tag hk.1
    omega
theorem validP_vs {s : So} (h : validP s = true) : VS s := by
  simp only [validP, Bool.and_eq_true] at h
  refine ⟨fun i hi => ?_⟩
  have h1 := inS_iff.1 hi
  have hk := all_of h.2.1 (k := i.toNat) (by omega)
  rw [show ((i.toNat : Nat) : Int) = i by omega] at hk
  unfold fitsP at hk
  by_cases h4 : (cellAt s i).t = 4
  · omega
  · rw [if_neg h4] at hk
    by_cases h5 : (cellAt s i).t = 5
    · omega
    · rw [if_neg h5] at hk
      have := vcP_tag hk
      omega
theorem VS.tag_in {s : So} (h : VS s) (n : Int) : decide (0 ≤ tagS s n) = inS s n := by
  cases hi : inS s n with
  | true =>
    rw [tagS_in hi]
    exact decide_eq_true (h.tag n hi).1
  | false =>
    rw [tagS_out hi]
    decide
theorem VS.vc {s : So} (h : VS s) (c : Ce) : vcP s c = vcR s c := by
  unfold vcP vcR
  rw [h.tag_in]
theorem VS.old {s : So} (h : VS s) (u : Un) : oldP s u = oldR s u := by
  simp only [oldP, oldR, oldB, h.tag_in, h.vc]
theorem VS.cell {s : So} (h : VS s) {i : Int} (hi : inS s i = true) : cellR s i = (fitsP s i && endsB s i) := by
  have h1 := inS_iff.1 hi
  have ht := tagS_in hi
  unfold cellR fitsP
  by_cases h4 : (cellAt s i).t = 4
  · rw [if_pos h4, if_pos h4]
    have he : endsB s i = true := (En.st (fun hn => by have := hn.1; omega)).ends
    rw [he, Bool.and_true]
    by_cases ha : 1 ≤ arS s (cellAt s i).n
    · rw [decide_eq_true ha, Bool.true_and, Bool.true_and]
      generalize harr : arS s (cellAt s i).n = ar at ha
      rw [Bool.eq_iff_iff]
      simp only [Bool.and_eq_true, List.all_eq_true, List.mem_range, Bool.not_eq_true', decide_eq_false_iff_not, decide_eq_true_eq]
      constructor
      · rintro ⟨q1, q2⟩ j hj
        refine ⟨?_, q2 j hj⟩
        have hin : inS s (i + ((j : Int) + 1)) = true := by
          have := inS_iff.1 q1
          exact inS_iff.2 ⟨by omega, by omega⟩
        rw [tagS_in hin]
        exact (h.tag _ hin).1
      · intro q
        refine ⟨?_, fun j hj => (q j hj).2⟩
        have h2 := (q (ar.toNat - 1) (by omega)).1
        have h3 := h.tag_in (i + (((ar.toNat - 1 : Nat) : Int) + 1))
        rw [decide_eq_true h2] at h3
        have e : i + (((ar.toNat - 1 : Nat) : Int) + 1) = i + ar := by omega
        rw [e] at h3
        exact h3.symm
    · rw [decide_eq_false ha]
      rfl
  · rw [if_neg h4, if_neg h4]
    by_cases h5 : (cellAt s i).t = 5
    · rw [if_pos h5]
      have hd : decide ((cellAt s i).t = 5) = true := decide_eq_true h5
      rw [hd]
      by_cases hn : (cellAt s i).n = i
      · have hv : vcR s (cellAt s i) = true := by
          unfold vcR
          simp [h5, hn, ht]
        rw [hv, decide_eq_true hn]
        simp [Bool.and_comm]
      · rw [decide_eq_false hn]
        simp
    · rw [if_neg h5, decide_eq_false h5, h.vc]
      simp
theorem all_congr {n : Nat} {P Q : Nat → Bool} (h : ∀ j, j < n → P j = Q j) : (List.range n).all P = (List.range n).all Q := by
  rw [Bool.eq_iff_iff, List.all_eq_true, List.all_eq_true]
  exact ⟨fun q j hj => (h j (List.mem_range.1 hj)) ▸ q j hj, fun q j hj => (h j (List.mem_range.1 hj)).symm ▸ q j hj⟩
theorem all_and {n : Nat} {P Q : Nat → Bool} : ((List.range n).all fun j => P j && Q j) = ((List.range n).all P && (List.range n).all Q) := by
  rw [Bool.eq_iff_iff]
  simp only [List.all_eq_true, Bool.and_eq_true]
  exact ⟨fun q => ⟨fun j hj => (q j hj).1, fun j hj => (q j hj).2⟩, fun q j hj => ⟨q.1 j hj, q.2 j hj⟩⟩
theorem VS.valid {s : So} (h : VS s) : validP s = validR s := by
  have e1 : ((List.range s.cs.length).all fun i => cellR s (i : Nat)) = ((List.range s.cs.length).all (fun i => fitsP s (i : Nat)) && acyP s) := by
    unfold acyP
    rw [← all_and]
    exact all_congr fun j hj => h.cell (inS_iff.2 ⟨by omega, by omega⟩)
  have e2 : ((List.range s.tr.length).all fun i => oldP s (s.tr.getD i default)) = (List.range s.tr.length).all fun i => oldR s (s.tr.getD i default) := all_congr fun j _ => h.old _
  have e3 : ((List.range s.wk.length).all fun i => wkB vcP s (s.wk.getD i default)) = (List.range s.wk.length).all fun i => wkB vcR s (s.wk.getD i default) := all_congr fun j _ => by
    unfold wkB
    rw [h.vc, h.vc]
  unfold validP validR
  rw [e1, e2, e3, Bool.and_assoc]
theorem valid_eq (s : So) : validP s = validR s := by
  cases hP : validP s with
  | true => rw [← (validP_vs hP).valid, hP]
  | false =>
    cases hR : validR s with
    | false => rfl
    | true => rw [(validR_vs hR).valid, hR] at hP; cases hP

def so0 : So := ⟨[], [], [], [], 0, 0⟩
def newBad (n : Int) : Bool := decide (n < 1) || decide (1048576 < n)
def gNew : List D → Option (List D)
  | [n] => if newBad n.int then some [eS so0, .i 1] else some [eS { so0 with mx := n.int }, .i 0]
  | _ => none
theorem ok_cells_New : FOk ct_cells_New gNew := fok_cells_New fun ds outs hw hg => by
  obtain ⟨d, r, rfl, hd, rfl⟩ := hw
  obtain ⟨n, rfl, hn⟩ := wfI hd
  have hg2 : (if newBad n = true then some [eS so0, D.i 1] else some [eS { so0 with mx := n }, D.i 0]) = some outs := hg
  clear hg
  simp only [tree_cells_New, go_need, go_br, go_leaf, go_back, allSay, X.says, X.ev, X.evs, evl, tblS, List.getD_cons_zero, List.getD_cons_succ, List.getElem?_cons_zero, List.getElem?_cons_succ, tt_b, int_i, str_s, rs_r, Option.isSome_some, Option.getD_some, decide_eq_true_eq, decide_eq_false_iff_not, dS_eS, dC_eC, dU_eU, dW_eW, dY_eY, eC_0, eC_1, eU_0, eU_1, eW_0, eW_1, eW_2, eY_0, eY_1, eS_0, eS_1, eS_2, eS_3, eS_4, eS_5, List.length_map, i_inj, b_inj, s_inj, eC_eq, eU_eq, eW_eq, eY_eq, eS_eq, rng64, List.take_succ_cons, List.take_zero, List.nil_append, List.cons_append, decide_true, decide_false, Bool.or_true, true_and, and_true]
  cases hb : newBad n with
  | true =>
    rw [hb, if_pos rfl] at hg2
    have hb' : (decide (n < 1) || decide (1048576 < n)) = true := hb
    rw [hb']
    exact ⟨fun _ => Option.some.inj hg2, fun h => (by cases h)⟩
  | false =>
    rw [hb] at hg2
    have hb' : (decide (n < 1) || decide (1048576 < n)) = false := hb
    rw [hb']
    exact ⟨fun h => (by cases h), fun _ => Option.some.inj hg2⟩
theorem ok_ref30_New : FOk ct_ref30_New gNew := fok_ref30_New fun ds outs hw hg => by
  obtain ⟨d, r, rfl, hd, rfl⟩ := hw
  obtain ⟨n, rfl, hn⟩ := wfI hd
  have hg2 : (if newBad n = true then some [eS so0, D.i 1] else some [eS { so0 with mx := n }, D.i 0]) = some outs := hg
  clear hg
  simp only [tree_ref30_New, go_need, go_br, go_leaf, go_back, allSay, X.says, X.ev, X.evs, evl, tblS, List.getD_cons_zero, List.getD_cons_succ, List.getElem?_cons_zero, List.getElem?_cons_succ, tt_b, int_i, str_s, rs_r, Option.isSome_some, Option.getD_some, decide_eq_true_eq, decide_eq_false_iff_not, dS_eS, dC_eC, dU_eU, dW_eW, dY_eY, eC_0, eC_1, eU_0, eU_1, eW_0, eW_1, eW_2, eY_0, eY_1, eS_0, eS_1, eS_2, eS_3, eS_4, eS_5, List.length_map, i_inj, b_inj, s_inj, eC_eq, eU_eq, eW_eq, eY_eq, eS_eq, rng64, List.take_succ_cons, List.take_zero, List.nil_append, List.cons_append, decide_true, decide_false, Bool.or_true, true_and, and_true]
  cases hb : newBad n with
  | true =>
    rw [hb, if_pos rfl] at hg2
    have hb' : (decide (n < 1) || decide (1048576 < n)) = true := hb
    rw [hb']
    exact ⟨fun _ => Option.some.inj hg2, fun h => (by cases h)⟩
  | false =>
    rw [hb] at hg2
    have hb' : (decide (n < 1) || decide (1048576 < n)) = false := hb
    rw [hb']
    exact ⟨fun h => (by cases h), fun _ => Option.some.inj hg2⟩

def Lk (s t : So) : Prop := t.cs.length = s.cs.length ∧ t.ys.length = s.ys.length ∧ t.tr.length = s.tr.length ∧ t.wk.length = s.wk.length
def gNone : List D → Option (List D) := fun _ => some []
theorem sp0 (t : So) (k : Nat) (c : Ce) : D.a ((eS t).fs.set 0 (.r ((t.cs.map eC).set k (eC c)))) = eS { t with cs := t.cs.set k c } := by simp [eS, D.fs, List.map_set]
theorem sp1 (t : So) (k : Nat) (c : Sy) : D.a ((eS t).fs.set 1 (.r ((t.ys.map eY).set k (eY c)))) = eS { t with ys := t.ys.set k c } := by simp [eS, D.fs, List.map_set]
theorem sp2 (t : So) (k : Nat) (c : Un) : D.a ((eS t).fs.set 2 (.r ((t.tr.map eU).set k (eU c)))) = eS { t with tr := t.tr.set k c } := by simp [eS, D.fs, List.map_set]
theorem sp3 (t : So) (k : Nat) (c : Wk) : D.a ((eS t).fs.set 3 (.r ((t.wk.map eW).set k (eW c)))) = eS { t with wk := t.wk.set k c } := by simp [eS, D.fs, List.map_set]
theorem ok_law30_spoil : FOk ct_law30_spoil gNone := fok_law30_spoil fun ds outs hw hg => by
  obtain ⟨d, r, rfl, hd, rfl⟩ := hw
  obtain ⟨s, rfl, hs⟩ := wfS hd
  simp only [gNone, Option.some.injEq] at hg
  subst hg
  have l0 := hs.cs.1
  have l1 := hs.ys.1
  have l2 := hs.tr.1
  have l3 := hs.wk.1
  rw [tree_law30_spoil, go_loop]
  refine ⟨fun st => ∃ (k : Nat) (t : So), Lk s t ∧ k ≤ s.cs.length ∧ st = [.i k, eS t], fun st => s.cs.length - (st.getD 0 .u).int.toNat, ⟨0, s, ⟨rfl, rfl, rfl, rfl⟩, Nat.zero_le _, rfl⟩, ?_⟩
  rintro st - ⟨k, t, hL, hk, rfl⟩
  obtain ⟨q0, q1, q2, q3⟩ := hL
  rw [go_br]
  refine ⟨fun hlt => ?_, fun _ => ?_⟩
  · have hkn : k < t.cs.length := by simpa [X.ev, evl, D.int, D.rs, D.tt, D.fld, eS, D.fs] using hlt
    have e : D.a ([D.i 0, D.i 0].set 0 (.i 9)) = eC ⟨9, 0⟩ := rfl
    simp only [go_need, go_br, go_leaf, go_back, allSay, X.says, X.ev, X.evs, evl, tblS, List.getD_cons_zero, List.getD_cons_succ, List.getElem?_cons_zero, List.getElem?_cons_succ, tt_b, int_i, str_s, rs_r, Option.isSome_some, Option.getD_some, decide_eq_true_eq, decide_eq_false_iff_not, dS_eS, dC_eC, dU_eU, dW_eW, dY_eY, eC_0, eC_1, eU_0, eU_1, eW_0, eW_1, eW_2, eY_0, eY_1, eS_0, eS_1, eS_2, eS_3, eS_4, eS_5, List.length_map, i_inj, b_inj, s_inj, eC_eq, eU_eq, eW_eq, eY_eq, eS_eq, rng64, List.take_succ_cons, List.take_zero, List.nil_append, List.cons_append, decide_true, decide_false, Bool.or_true, true_and, and_true, fs_a, e, sp0]
    refine ⟨⟨by omega, by omega⟩, ⟨by omega, by omega⟩, ?_⟩
    rw [updB, if_pos rfl]
    refine ⟨⟨k + 1, { t with cs := t.cs.set k ⟨9, 0⟩ }, ⟨by simpa using q0, q1, q2, q3⟩, by omega, ?_⟩, ?_⟩
    · simp
    · simp [D.int]
      omega
  rw [go_loop]
  refine ⟨fun st => ∃ (k : Nat) (t : So), Lk s t ∧ k ≤ s.ys.length ∧ st = [.i k, eS t], fun st => s.ys.length - (st.getD 0 .u).int.toNat, ⟨0, t, ⟨q0, q1, q2, q3⟩, Nat.zero_le _, rfl⟩, ?_⟩
  clear q0 q1 q2 q3 hk
  rintro st - ⟨k2, t2, hL, hk, rfl⟩
  obtain ⟨q0, q1, q2, q3⟩ := hL
  rw [go_br]
  refine ⟨fun hlt => ?_, fun _ => ?_⟩
  · have hkn : k2 < t2.ys.length := by simpa [X.ev, evl, D.int, D.rs, D.tt, D.fld, eS, D.fs] using hlt
    have e : D.a ((eY (t2.ys.getD k2 default)).fs.set 1 (.i 99)) = eY ⟨(t2.ys.getD k2 default).name, 99⟩ := rfl
    simp only [go_need, go_br, go_leaf, go_back, allSay, X.says, X.ev, X.evs, evl, tblS, List.getD_cons_zero, List.getD_cons_succ, List.getElem?_cons_zero, List.getElem?_cons_succ, tt_b, int_i, str_s, rs_r, Option.isSome_some, Option.getD_some, decide_eq_true_eq, decide_eq_false_iff_not, dS_eS, dC_eC, dU_eU, dW_eW, dY_eY, eC_0, eC_1, eU_0, eU_1, eW_0, eW_1, eW_2, eY_0, eY_1, eS_0, eS_1, eS_2, eS_3, eS_4, eS_5, List.length_map, i_inj, b_inj, s_inj, eC_eq, eU_eq, eW_eq, eY_eq, eS_eq, rng64, List.take_succ_cons, List.take_zero, List.nil_append, List.cons_append, decide_true, decide_false, Bool.or_true, true_and, and_true, get_n eY hkn, e, sp1]
    refine ⟨⟨by omega, by omega⟩, ⟨by omega, by omega⟩, ?_⟩
    rw [updB, if_pos rfl]
    refine ⟨⟨k2 + 1, { t2 with ys := t2.ys.set k2 ⟨(t2.ys.getD k2 default).name, 99⟩ }, ⟨q0, by simpa using q1, q2, q3⟩, by omega, ?_⟩, ?_⟩
    · simp
    · simp [D.int]
      omega
  rw [go_loop]
  refine ⟨fun st => ∃ (k : Nat) (t : So), Lk s t ∧ k ≤ s.tr.length ∧ st = [.i k, eS t], fun st => s.tr.length - (st.getD 0 .u).int.toNat, ⟨0, t2, ⟨q0, q1, q2, q3⟩, Nat.zero_le _, rfl⟩, ?_⟩
  clear q0 q1 q2 q3 hk
  rintro st - ⟨k3, t3, hL, hk, rfl⟩
  obtain ⟨q0, q1, q2, q3⟩ := hL
  rw [go_br]
  refine ⟨fun hlt => ?_, fun _ => ?_⟩
  · have hkn : k3 < t3.tr.length := by simpa [X.ev, evl, D.int, D.rs, D.tt, D.fld, eS, D.fs] using hlt
    have e : D.a ((eU (t3.tr.getD k3 default)).fs.set 0 (.i (-1))) = eU ⟨-1, (t3.tr.getD k3 default).old⟩ := rfl
    simp only [go_need, go_br, go_leaf, go_back, allSay, X.says, X.ev, X.evs, evl, tblS, List.getD_cons_zero, List.getD_cons_succ, List.getElem?_cons_zero, List.getElem?_cons_succ, tt_b, int_i, str_s, rs_r, Option.isSome_some, Option.getD_some, decide_eq_true_eq, decide_eq_false_iff_not, dS_eS, dC_eC, dU_eU, dW_eW, dY_eY, eC_0, eC_1, eU_0, eU_1, eW_0, eW_1, eW_2, eY_0, eY_1, eS_0, eS_1, eS_2, eS_3, eS_4, eS_5, List.length_map, i_inj, b_inj, s_inj, eC_eq, eU_eq, eW_eq, eY_eq, eS_eq, rng64, List.take_succ_cons, List.take_zero, List.nil_append, List.cons_append, decide_true, decide_false, Bool.or_true, true_and, and_true, get_n eU hkn, e, sp2]
    refine ⟨⟨by omega, by omega⟩, ⟨by omega, by omega⟩, ?_⟩
    rw [updB, if_pos rfl]
    refine ⟨⟨k3 + 1, { t3 with tr := t3.tr.set k3 ⟨-1, (t3.tr.getD k3 default).old⟩ }, ⟨q0, q1, by simpa using q2, q3⟩, by omega, ?_⟩, ?_⟩
    · simp
    · simp [D.int]
      omega
  rw [go_loop]
  refine ⟨fun st => ∃ (k : Nat) (t : So), Lk s t ∧ k ≤ s.wk.length ∧ st = [.i k, eS t], fun st => s.wk.length - (st.getD 0 .u).int.toNat, ⟨0, t3, ⟨q0, q1, q2, q3⟩, Nat.zero_le _, rfl⟩, ?_⟩
  clear q0 q1 q2 q3 hk
  rintro st - ⟨k4, t4, hL, hk, rfl⟩
  obtain ⟨q0, q1, q2, q3⟩ := hL
  rw [go_br]
  refine ⟨fun hlt => ?_, fun _ => rfl⟩
  have hkn : k4 < t4.wk.length := by simpa [X.ev, evl, D.int, D.rs, D.tt, D.fld, eS, D.fs] using hlt
  have e : D.a ((eW (t4.wk.getD k4 default)).fs.set 0 (.i (-1))) = eW ⟨-1, (t4.wk.getD k4 default).att, (t4.wk.getD k4 default).val⟩ := rfl
  simp only [go_need, go_br, go_leaf, go_back, allSay, X.says, X.ev, X.evs, evl, tblS, List.getD_cons_zero, List.getD_cons_succ, List.getElem?_cons_zero, List.getElem?_cons_succ, tt_b, int_i, str_s, rs_r, Option.isSome_some, Option.getD_some, decide_eq_true_eq, decide_eq_false_iff_not, dS_eS, dC_eC, dU_eU, dW_eW, dY_eY, eC_0, eC_1, eU_0, eU_1, eW_0, eW_1, eW_2, eY_0, eY_1, eS_0, eS_1, eS_2, eS_3, eS_4, eS_5, List.length_map, i_inj, b_inj, s_inj, eC_eq, eU_eq, eW_eq, eY_eq, eS_eq, rng64, List.take_succ_cons, List.take_zero, List.nil_append, List.cons_append, decide_true, decide_false, Bool.or_true, true_and, and_true, get_n eW hkn, e, sp3]
  refine ⟨⟨by omega, by omega⟩, ⟨by omega, by omega⟩, ?_⟩
  rw [updB, if_pos rfl]
  refine ⟨⟨k4 + 1, { t4 with wk := t4.wk.set k4 ⟨-1, (t4.wk.getD k4 default).att, (t4.wk.getD k4 default).val⟩ }, ⟨q0, q1, q2, by simpa using q3⟩, by omega, ?_⟩, ?_⟩
  · simp
  · simp [D.int]
    omega

theorem law_CellsValid : FOk ct_law30_CellsValid gYes := fok_law30_CellsValid ok_cells_Valid ok_ref30_Valid ok_cells_ValidCell ok_ref30_ValidCell ok_cells_New ok_ref30_New ok_ref30_Clone ok_cells_Clone ok_ref30_Same ok_cells_Same ok_law30_spoil ok_law30_awake fun ds outs hw hg => by
  obtain ⟨d, r, rfl, hd, e, r', rfl, he, f, r2, rfl, hf, rfl⟩ := hw
  obtain ⟨s, rfl, hs⟩ := wfS hd
  obtain ⟨c, rfl, hc⟩ := wfC he
  obtain ⟨n, rfl, hn⟩ := wfI hf
  simp only [gYes, Option.some.injEq] at hg
  subst hg
  have hcl : gClone [eS s] = some [eS s] := by simp only [gClone, dS_eS, clQ_of hs, if_true]
  have hnw : ∃ t e, gNew [.i n] = some [eS t, .i e] := by
    simp only [gNew]
    split <;> exact ⟨_, _, rfl⟩
  obtain ⟨t, x, hnw⟩ := hnw
  have hvc : validR s = true → vcP s c = vcR s c := fun h => (validR_vs h).vc c
  simp only [tree_law30_CellsValid, go_need, go_br, go_leaf, go_back, allSay, X.says, X.ev, X.evs, evl, tblS, List.getD_cons_zero, List.getD_cons_succ, List.getElem?_cons_zero, List.getElem?_cons_succ, tt_b, int_i, str_s, rs_r, Option.isSome_some, Option.getD_some, decide_eq_true_eq, decide_eq_false_iff_not, dS_eS, dC_eC, dU_eU, dW_eW, dY_eY, eC_0, eC_1, eU_0, eU_1, eW_0, eW_1, eW_2, eY_0, eY_1, eS_0, eS_1, eS_2, eS_3, eS_4, eS_5, List.length_map, i_inj, b_inj, s_inj, eC_eq, eU_eq, eW_eq, eY_eq, eS_eq, rng64, List.take_succ_cons, List.take_zero, List.nil_append, List.cons_append, decide_true, decide_false, Bool.or_true, true_and, and_true, gSb, gSCb, valid_eq, hcl, hnw, gSame, gNone, gYes]
  cases hr : validR s with
  | false => simp
  | true =>
    rw [hvc hr]
    simp
end Go.Proofs.Ytinclokohcommaa

namespace Go.Proofs.Ytinclokohcommaa
open Go.ChangeShapes Go.WideShapes Go.ChangeAt Go.RowKit
set_option linter.unusedVariables false
set_option maxRecDepth 100000

theorem own_knobD : ownKnob Try.prog.godebug = none := by kernel_rfl
theorem laid_outD : laidOutB Try.prog = true := by kernel_rfl

def posB (P : Program) : Bool := tyTab.all fun e => Nat.blt 0 (P.bytesOf e.1)
set_option maxRecDepth 100000 in
theorem pos_ok : posB Try.prog = true := by kernel_rfl
theorem bytes_pos {T : TypeId} {t : Ty} (h : tyOf T = some t) : 0 < Try.prog.bytesOf T := by
  have := List.all_eq_true.1 pos_ok _ (lkA_mem h)
  simpa [Nat.blt_eq] using this

section
variable {H : Type} {enc : TypeId × Value → H} {W : World} {base : Nat} {spare : Nat → Bool} {held : Bool}

def LightD (t : TypeId) (d : DataW H) : Prop := ∀ n ∈ d.weights Try.prog t, n ≤ reachBytes

theorem weightsAll_memD {e : TypeId} : ∀ {l : List (DataW H)} {d : DataW H}, d ∈ l → ∀ n ∈ d.weights Try.prog e, n ∈ DataW.weightsAll Try.prog e l
  | [], _, h, _, _ => by cases h
  | x :: l, d, h, n, hn => by
    simp only [DataW.weightsAll, List.mem_append]
    rcases List.mem_cons.1 h with rfl | h
    · exact .inl hn
    · exact .inr (weightsAll_memD h n hn)

theorem LightD.each {ts : List TypeId} {l : List (DataW H)} {k : Nat} {t : TypeId} {d : DataW H} (h : ∀ n ∈ DataW.weightsEach Try.prog ts l, n ≤ reachBytes) (ht : ts[k]? = some t) (hd : l[k]? = some d) : LightD t d := fun n hn =>
  h n (DataW.weights_mem_each ht hd n hn)

theorem reach_eqD : reachBytes = LIM := rfl

theorem cells_w {T : TypeId} {t : Ty} (h : tyOf T = some t) : Try.prog.cellsOf T = t.w := by
  obtain ⟨i, hi, h1, -⟩ := row_info h
  simp [Program.cellsOf, hi, h1]

theorem rng_wf {k : IntKind} {t : TypeId} (ht : tyOf t = some (.int k)) {n : Int} (h : (Lit.int k n).wf = true) : rngB k n = true := by
  have h0 := (row_int ht).2.1
  cases k <;> first | (simp [rngB] at h0; done) | (simp [Lit.wf, IntKind.min, IntKind.max, IntKind.signed, IntKind.bits] at h; simp [rngB]; omega)

theorem spot_noneD {a : Addr} {v : Value} (h : W.cell? a = some v) : a.spot = none := by
  unfold World.cell? at h
  split at h
  · split at h
    · cases h
    · rename_i hs; simpa using hs
  · cases h

theorem rdF_of {F : Nat → Prop} {cs : List Value} : ∀ {fl : List Field} {fs : List Ty} {o : Nat}, fieldsB fl fs o = true → (∀ (j : Nat) (f : Field) (t : Ty), fl[j]? = some f → fs[j]? = some t → ∃ y, Rd W F y t ((cs.drop f.offset).take t.w)) → cs.length = o + widths fs → ∃ ds, RdF W F ds fs (cs.drop o)
  | [], [], o, _, _, hl => by
    simp [widths] at hl
    exact ⟨[], rfl, by rw [List.drop_eq_nil_iff]; omega⟩
  | f :: l, t :: ts, o, hb, hf, hl => by
    simp only [fieldsB, Bool.and_eq_true] at hb
    obtain ⟨⟨⟨h1, -⟩, -⟩, h3⟩ := hb
    have ho := Nat.eq_of_beq_eq_true h1
    rw [widths_cons] at hl
    obtain ⟨ds, hds⟩ := rdF_of h3 (fun j f' t' hj ht => hf (j + 1) f' t' (by simpa using hj) (by simpa using ht)) (by omega)
    obtain ⟨y, hy⟩ := hf 0 f t rfl rfl
    refine ⟨y :: ds, t, ts, (cs.drop o).take t.w, cs.drop (o + t.w), rfl, ?_, by rw [← ho]; exact hy, hds⟩
    rw [← List.drop_drop, List.take_append_drop]
  | [], _ :: _, o, hb, _, _ => by cases hb
  | _ :: _, [], o, hb, _, _ => by cases hb

theorem open_recD : ∀ (fuel : Nat) {T : TypeId} {t : Ty} (cs : List Value) (x : DataW H × List MemPlace), tyOf T = some t → isMp t = false → DataW.trod enc Try.prog W base spare held fuel T cs = some x → LightD T x.1 → ∃ y, Rd W (fun _ => True) y t cs := by
  intro fuel
  induction fuel with
  | zero => intro T t cs x _ _ h; simp [DataW.trod] at h
  | succ fuel ih =>
    intro T t cs x hT hM h hL
    cases t with
    | map K V => cases hM
    | int k =>
      obtain ⟨n, rfl, -, hw⟩ := DataW.trod_int (row_int hT).1 h
      exact ⟨.i n, k, rfl, rfl, rng_wf hT hw⟩
    | bool =>
      obtain ⟨b, rfl, -⟩ := DataW.trod_bool (row_bool hT).1 h
      exact ⟨.b b, rfl, rfl⟩
    | str =>
      obtain ⟨s, rfl, rfl, -⟩ := DataW.trod_string (row_str hT).1 h
      have := hL s.data.toList.length (by simp [DataW.weights])
      exact ⟨.s s, rfl, rfl, by rw [reach_eqD] at this; simpa using this⟩
    | st S =>
      obtain ⟨fields, fs, zc, i, hu, hfs, hfb, hi, hsz, -, -, -, -⟩ := row_st hT
      obtain ⟨xs, n, hn, hx, hlen, hxl, hf⟩ := DataW.trod_struct hu h
      obtain rfl : fuel = n := by omega
      have hw : ∀ n ∈ DataW.weightsEach Try.prog (fields.toList.map (·.type)) (xs.map (·.1)), n ≤ reachBytes := fun n hn => hL n (by rw [hx]; simp only [DataW.weights, hu]; exact hn)
      have hcl : cs.length = 0 + widths fs := by rw [hlen, cells_w hT, (fld_okD hfs).1]; omega
      obtain ⟨ds, hds⟩ := rdF_of (W := W) (F := fun _ => True) hfb (fun j f t hj ht => by
        obtain ⟨f', hf', ho, hty, -⟩ := fieldsB_get hfb ht
        obtain rfl := Option.some.inj (hj.symm.trans hf')
        have h5 := hf j f (by rw [← Array.getElem?_toList]; exact hj)
        have hjl : j < fields.toList.length := (List.getElem?_eq_some_iff.1 hj).1
        have hjx : j < xs.length := by rw [hxl]; simpa using hjl
        rw [cells_w hty, List.getElem?_eq_getElem hjx] at h5
        refine ih _ _ hty (fld_noM hfs (List.mem_of_getElem? ht)) h5 (LightD.each (k := j) hw ?_ ?_)
        · rw [List.getElem?_map, hj]; rfl
        · rw [List.getElem?_map, List.getElem?_eq_getElem hjx]; rfl) hcl
      exact ⟨.a ds, S, fs, rfl, hfs, by simpa using hds⟩
    | row E =>
      obtain ⟨hu, ⟨te, hte⟩, -⟩ := row_row hT
      rcases DataW.trod_slice hu h with ⟨rfl, hx⟩ | ⟨a, len, cap, elems, rest, n, hn, rfl, hx, hb, hl, hm, hlen, hel, -⟩
      · exact ⟨.r [], E, te, none, 0, rfl, hte, rfl, by simp, by simp, by simp [maxLen], by simp [RdE]⟩
      · obtain rfl : fuel = n := by omega
        have hwd := tyOf_pos hte
        rw [cells_w hte] at hel
        have hw := hL
        rw [hx] at hw
        simp only [LightD, DataW.weights, hu, List.mem_cons, List.mem_append] at hw
        have hlen2 : len ≤ LM te := by
          have := hw _ (.inl rfl)
          rw [reach_eqD] at this
          have hbe : Try.prog.bytesOf E = te.by := by
            obtain ⟨i, hi, -⟩ := row_info hte
            simp [Program.bytesOf, hi, row_bytes hte hi]
          refine (Nat.le_div_iff_mul_le (by_pos hte).1).2 ?_
          simp [hbe] at this
          have h2 : len * te.by ≤ (elems.length + rest.length) * te.by := Nat.mul_le_mul_right _ (by omega)
          exact Nat.le_trans h2 this
        have spot : 0 < len → a.spot = none := fun h0 => by
          have h2 := hel 0 h0
          rw [List.getElem?_eq_getElem (by omega)] at h2
          cases hc0 : W.cells? base (a.add (0 * te.w)) te.w with
          | none => rw [hc0] at h2; cases h2
          | some cs0 =>
            obtain ⟨_, hcl0, hat0⟩ := World.cells?_some hc0
            have hp : 0 < cs0.length := by omega
            have := hat0 0 (by omega)
            rw [List.getElem?_eq_getElem hp] at this
            exact spot_noneD (a := a) (v := cs0[0]) (by simpa [Addr.add] using this)
        have each : ∀ i, i < len → ∃ y, RdEl W (fun _ => True) y te (some a) i := fun i hi => by
          have h1 := hel i hi
          rw [List.getElem?_eq_getElem (by omega)] at h1
          cases hc : W.cells? base (a.add (i * te.w)) te.w with
          | none => rw [hc] at h1; cases h1
          | some cs' =>
            rw [hc] at h1
            obtain ⟨_, hcl, hat⟩ := World.cells?_some hc
            obtain ⟨y, hy⟩ := ih cs' _ hte (row_noM hT hte) h1 (fun n hn => hw n (.inr (.inl (weightsAll_memD (List.mem_map.2 ⟨_, List.getElem_mem (by omega), rfl⟩) n hn))))
            have hsp := spot (by omega)
            obtain ⟨b, o, sp⟩ := a
            obtain rfl : sp = none := hsp
            have add : ∀ k, (Addr.add ⟨b, o, none⟩ (i * te.w)).add k = ⟨b, o + i * te.w + k, none⟩ := fun k => by
              unfold Addr.add
              split <;> split <;> simp <;> omega
            refine ⟨y, b, o, cs', rfl, trivial, fun j v hj => ?_, hy⟩
            have hj' := (List.getElem?_eq_some_iff.1 hj).1
            have := hat j (by omega)
            rw [add, hj] at this
            exact this
        have pick : ∀ n, n ≤ len → ∃ l : List D, l.length = n ∧ ∀ i (h : i < l.length), RdEl W (fun _ => True) l[i] te (some a) i := by
          intro n
          induction n with
          | zero => exact fun _ => ⟨[], rfl, fun i hi => by simp at hi⟩
          | succ n ihn =>
            intro hn
            obtain ⟨l, hl1, hl2⟩ := ihn (by omega)
            obtain ⟨t, ht⟩ := each n (by omega)
            refine ⟨l ++ [t], by simp [hl1], fun i hi => ?_⟩
            by_cases hin : i < l.length
            · rw [List.getElem_append_left hin]; exact hl2 i hin
            · obtain rfl : i = l.length := by simp at hi; omega
              rw [List.getElem_append_right (by omega)]
              simp [hl1]
              exact ht
        obtain ⟨l, hl1, hl2⟩ := pick len (Nat.le_refl _)
        exact ⟨.r l, E, te, some a, cap, rfl, hte, by rw [hl1], by omega, by omega, hm, rdE_iff.2 fun j hj => by rw [Nat.zero_add]; exact hl2 j hj⟩

/-- The value of the type, and its cells. -/
theorem open_D {T : TypeId} {t : Ty} (hT : tyOf T = some t) (hM : isMp t = false) {v : Value} {d : DataW H} {p : List MemPlace} {b0 : Nat} {r : Reach} (hv : Value.okWide Try.prog W r b0 T v) (h : DataW.Trod enc Try.prog W base spare held T v d p) (hL : LightD T d) :
    ∃ x cs, Pack t cs v ∧ Rd W (fun b => b < W.heap.size) x t cs := by
  obtain ⟨fuel, hf⟩ := h
  obtain ⟨y, hy⟩ := open_recD fuel _ _ hT hM hf hL
  refine ⟨y, v.cells.toList, ?_, Rd.keeps (fun b o _ ho => ⟨ho, lt_of_heap ho⟩) _ hy⟩
  cases t with
  | int k => obtain ⟨n, rfl⟩ := okWide_int (row_int hT).1 hv; rfl
  | bool => obtain ⟨n, rfl⟩ := okWide_bool (row_bool hT).1 hv; rfl
  | str => obtain ⟨n, rfl⟩ := okWide_string (row_str hT).1 hv; rfl
  | map K V => cases hM
  | row E => obtain ⟨A, l, c, rfl⟩ := okWide_slice (row_row hT).1 hv; rfl
  | st S =>
    obtain ⟨fields, fs, zc, i, hu, -⟩ := row_st hT
    obtain ⟨cs, rfl, -⟩ := okWide_struct hu hv
    simp [Pack, Value.cells]
end

/-- A law that is true on all data: what its call does. -/
def ArgsV (W : World) : List Ar → List Value → List D → Prop
  | [], vs, ds => vs = [] ∧ ds = []
  | .val t :: l, vs, ds => ∃ v r d ds', vs = v :: r ∧ ds = d :: ds' ∧ (∃ cs, Pack t cs v ∧ Rd W (FFD (fun _ => True) (fun _ => none) []) d t cs) ∧ ArgsV W l r ds'
  | _ :: _, _, _ => False
theorem ArgsV.ok {W : World} {V : List Value} : ∀ {i : Nat} {ar : List Ar} {vs : List Value} {ds : List D}, ArgsV W ar vs ds → ArgsOk V (fun _ => True) (fun _ => none) W (idx i ar) vs ds ∧ vs.length = ar.length
  | _, [], vs, ds, h => ⟨h, by rw [h.1]; rfl⟩
  | i, .val t :: l, vs, ds, ⟨v, r, d, ds', e1, e2, h1, h⟩ => by
    obtain ⟨h2, h3⟩ := ArgsV.ok (V := V) (i := i + 1) h
    exact ⟨⟨v, r, d, ds', e1, e2, h1, h2⟩, by rw [e1]; simp [h3]⟩
  | _, .ref _ :: _, _, _, h => h.elim
  | _, .rref _ :: _, _, _, h => h.elim
  | _, .own _ :: _, _, _, h => h.elim
  | _, .nilp :: _, _, _, h => h.elim
  | _, .fn _ _ :: _, _, _, h => h.elim
  | _, .cell _ _ :: _, _, _, h => h.elim
theorem law_calls {ct : Ct} {g : List D → Option (List D)} (h : FOk ct g) (hrs : ct.rs = [(.bool, false)]) (hvr : ct.vr = []) {W : World} {vs : List Value} {ds : List D} (ha : ArgsV W ct.ar vs ds) (hg : g ds = some [.b true]) :
    Calls Try.prog ct.f vs.toArray W fun e W' => e = .returned (.bool true) ∧ But Nil W W' := by
  obtain ⟨h1, h2⟩ := ArgsV.ok (V := vs ++ []) (i := 0) ha
  refine (h.call (fun _ => True) (fun _ => none) W vs [] ds _ hg (by constructor <;> simp) h2 (by simpa [Ct.all, hvr, idx] using h1)).mono ?_
  rintro e W' ⟨rs, p', rfl, hb, hr, -⟩
  rw [hrs] at hr
  obtain ⟨v, r, d, ds', rfl, hd, ⟨cs, hp, hc⟩, rfl⟩ := hr
  simp at hd
  obtain ⟨rfl, rfl⟩ := hd
  obtain ⟨e1, e2⟩ : D.b true = .b true ∧ cs = [.bool true] := ⟨rfl, by
    have hc' : Rd W' (FFD (fun _ => True) p' []) (.b true) .bool cs := hc
    exact hc'.2⟩
  subst e2
  have hpv : [Value.bool true] = [v] := hp
  injection hpv with hpv
  subst hpv
  exact ⟨rfl, hb.but.mono fun i hi _ => by obtain ⟨x, hx⟩ := hi; cases hx⟩
end Go.Proofs.Ytinclokohcommaa
