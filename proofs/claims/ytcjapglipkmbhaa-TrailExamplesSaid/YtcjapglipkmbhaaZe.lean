/-
  Lemmas of the walk and plain laws, put together. No condition.
-/
import Derived.ChangeArms
import Derived.OpenShut
import Derived.ProofKit
import Derived.SizedLaws
import Derived.Test.YtcjapglipkmbhaaRows
import Derived.Test.YtcjapglipkmbhaaZd
namespace Go.Proofs.Ytcjapglipkmbhaa
open Go.RowKit
set_option linter.unusedVariables false
set_option linter.unusedSimpArgs false

/-- A loop that looks at each element in turn. -/
theorem scan_ok {S : Nat → List D → Option (List D)} {R : List D → Prop} {id n : Nat} {x0 : X} {body : Tree} {l : List D} {B : Nat → List D → Prop} {v0 : D} (N : Nat) (P : Nat → Bool) (h0 : x0.ev (evl S l) = v0)
    (h : ∀ (k : Nat) (B' : Nat → List D → Prop), k ≤ N → (∀ j, j < k → P j = true) → (k < N → P k = true → B' id [v0, .i ((k : Int) + 1)]) → (∀ j, j ≠ id → B' j = B j) → body.go S R (l.take n ++ [v0, .i k]) B') : (Tree.loop id n [x0, .lit (.i 0)] body).go S R l B := by
  rw [go_loop]
  refine ⟨fun st => ∃ k : Nat, k ≤ N ∧ st = [v0, .i k] ∧ ∀ j, j < k → P j = true, fun st => N - (st.getD 1 .u).int.toNat, ⟨0, Nat.zero_le _, by simp [X.evs, X.ev, h0], fun j hj => absurd hj (Nat.not_lt_zero _)⟩, ?_⟩
  rintro st - ⟨k, hk, rfl, hP⟩
  refine h k _ hk hP (fun hlt hp => ?_) fun j hj => by rw [updB, if_neg hj]
  rw [updB, if_pos rfl]
  refine ⟨⟨k + 1, hlt, by simp, upto_succ hP hp⟩, ?_⟩
  simp [D.int]
  omega

def wkB (vc : So → Ce → Bool) (s : So) (w : Wk) : Bool := decide (1 ≤ w.ser) && (decide (w.ser ≤ s.ser) && (vc s w.att && vc s w.val))
def headB (s : So) : Bool := decide (1 ≤ s.mx) && (decide (s.mx ≤ 1048576) && (decide ((s.cs.length : Int) ≤ s.mx) && (decide (0 ≤ s.ser) && symsB s.ys)))
def validR (s : So) : Bool := headB s && ((List.range s.cs.length).all (fun i => cellR s (i : Nat)) && ((List.range s.tr.length).all (fun i => oldR s (s.tr.getD i default)) && (List.range s.wk.length).all fun i => wkB vcR s (s.wk.getD i default)))
def validP (s : So) : Bool := headB s && ((List.range s.cs.length).all (fun i => fitsP s (i : Nat)) && (acyP s && ((List.range s.tr.length).all (fun i => oldP s (s.tr.getD i default)) && (List.range s.wk.length).all fun i => wkB vcP s (s.wk.getD i default))))

theorem tag_nn {s : So} {n : Int} (h : 0 ≤ tagS s n) : inS s n = true := by
  cases hi : inS s n with
  | true => rfl
  | false => rw [tagS_out hi] at h; omega
theorem fits_acyQ {s : So} (hh : headB s = true) (h : ∀ j, j < s.cs.length → fitsP s (j : Nat) = true) : acyQ s = true := by
  simp only [headB, Bool.and_eq_true, decide_eq_true_eq] at hh
  simp only [acyQ, Bool.and_eq_true, decide_eq_true_eq]
  refine ⟨by omega, all_yes fun j hj => ?_⟩
  have := h j hj
  by_cases h0 : (cellAt s (j : Nat)).t = 0
  · simp only [fitsP, h0, vcP] at this
    have h1 : 0 ≤ tagS s (cellAt s (j : Nat)).n := by
      simp at this
      exact this.1
    simp [tag_nn h1]
  · simp [h0]

theorem ok_ref30_Valid : FOk ct_ref30_Valid (gSb validR) := fok_ref30_Valid ok_ref30_symbols ok_ref30_cell ok_ref30_old ok_ref30_ValidCell fun ds outs hw hg => by
  obtain ⟨d, r, rfl, hd, rfl⟩ := hw
  obtain ⟨s, rfl, hs⟩ := wfS hd
  simp only [gSb, dS_eS, Option.some.injEq] at hg
  subst hg
  have hl := hs.cs.1
  have hl2 := hs.tr.1
  have hl3 := hs.wk.1
  simp only [LIM] at hl hl2 hl3
  have hsy : gYsb symsB [D.r (s.ys.map eY)] = some [.b (symsB s.ys)] := by simp [gYsb, rs_r, map_id' dY_eY]
  rw [tree_ref30_Valid, go_need]
  refine ⟨by simp only [go_need, go_br, go_leaf, go_back, allSay, X.says, X.ev, X.evs, evl, tblS, List.getD_cons_zero, List.getD_cons_succ, List.getElem?_cons_zero, List.getElem?_cons_succ, tt_b, int_i, str_s, rs_r, Option.isSome_some, Option.getD_some, decide_eq_true_eq, decide_eq_false_iff_not, dS_eS, dC_eC, dU_eU, dW_eW, dY_eY, eC_0, eC_1, eU_0, eU_1, eW_0, eW_1, eW_2, eY_0, eY_1, eS_0, eS_1, eS_2, eS_3, eS_4, eS_5, List.length_map, i_inj, b_inj, s_inj, eC_eq, eU_eq, eW_eq, eY_eq, eS_eq, rng64, List.take_succ_cons, List.take_zero, List.nil_append, List.cons_append, decide_true, decide_false, Bool.or_true, true_and, and_true, hsy], ?_⟩
  rw [go_br]
  have hcond : (X.ev (evl (tblS [(ct_ref30_symbols, gYsb symsB), (ct_ref30_cell, gSIbP cellQ cellR), (ct_ref30_old, gSUb oldR), (ct_ref30_ValidCell, gSCb vcR)]) [eS s]) (.or (.or (.or (.or (.lt (.fld (.tok 0) 5) (.lit (.i 1))) (.lt (.lit (.i 1048576)) (.fld (.tok 0) 5))) (.lt (.fld (.tok 0) 5) (.len (.fld (.tok 0) 0)))) (.lt (.fld (.tok 0) 4) (.lit (.i 0)))) (.not (.call 0 0 [(.fld (.tok 0) 1)])))).tt = !headB s := by
    simp only [go_need, go_br, go_leaf, go_back, allSay, X.says, X.ev, X.evs, evl, tblS, List.getD_cons_zero, List.getD_cons_succ, List.getElem?_cons_zero, List.getElem?_cons_succ, tt_b, int_i, str_s, rs_r, Option.isSome_some, Option.getD_some, decide_eq_true_eq, decide_eq_false_iff_not, dS_eS, dC_eC, dU_eU, dW_eW, dY_eY, eC_0, eC_1, eU_0, eU_1, eW_0, eW_1, eW_2, eY_0, eY_1, eS_0, eS_1, eS_2, eS_3, eS_4, eS_5, List.length_map, i_inj, b_inj, s_inj, eC_eq, eU_eq, eW_eq, eY_eq, eS_eq, rng64, List.take_succ_cons, List.take_zero, List.nil_append, List.cons_append, decide_true, decide_false, Bool.or_true, true_and, and_true, hsy, headB]
    by_cases h1 : s.mx < 1
    · have : ¬ 1 ≤ s.mx := by omega
      simp [h1, this]
    · by_cases h2 : 1048576 < s.mx
      · have : ¬ s.mx ≤ 1048576 := by omega
        simp [h2, this]
      · by_cases h3 : s.mx < s.cs.length
        · have : ¬ (s.cs.length : Int) ≤ s.mx := by omega
          simp [h3, this]
        · by_cases h4 : s.ser < 0
          · have : ¬ 0 ≤ s.ser := by omega
            simp [h4, this]
          · have a1 : 1 ≤ s.mx := by omega
            have a2 : s.mx ≤ 1048576 := by omega
            have a3 : (s.cs.length : Int) ≤ s.mx := by omega
            have a4 : 0 ≤ s.ser := by omega
            simp [h1, h2, h3, h4, a1, a2, a3, a4]
  refine ⟨fun hx => ?_, fun hx => ?_⟩
  · have hh : headB s = false := by
      have := hcond.symm.trans hx
      simpa using this
    simp [go_leaf, X.evs, X.ev, validR, hh]
  have hh : headB s = true := by
    have := hcond.symm.trans hx
    simpa using this
  have hsy2 : symsB s.ys = true := by
    simp only [headB, Bool.and_eq_true] at hh
    exact hh.2.2.2.2
  refine scan_ok s.cs.length (fun i => cellR s (i : Nat)) (v0 := .b false) rfl fun k B' hk hP hB _ => ?_
  rw [go_br]
  refine ⟨fun hlt => ?_, fun hlt => ?_⟩
  · have hkl : k < s.cs.length := by simpa [X.ev, evl, eS_0, D.int, D.rs, D.tt] using hlt
    have hin : inS s (k : Nat) = true := inS_iff.2 ⟨by omega, by omega⟩
    have hQ : cellQ s (k : Nat) = true := by simp [cellQ, hin, hsy2]
    simp only [go_need, go_br, go_leaf, go_back, allSay, X.says, X.ev, X.evs, evl, tblS, List.getD_cons_zero, List.getD_cons_succ, List.getElem?_cons_zero, List.getElem?_cons_succ, tt_b, int_i, str_s, rs_r, Option.isSome_some, Option.getD_some, decide_eq_true_eq, decide_eq_false_iff_not, dS_eS, dC_eC, dU_eU, dW_eW, dY_eY, eC_0, eC_1, eU_0, eU_1, eW_0, eW_1, eW_2, eY_0, eY_1, eS_0, eS_1, eS_2, eS_3, eS_4, eS_5, List.length_map, i_inj, b_inj, s_inj, eC_eq, eU_eq, eW_eq, eY_eq, eS_eq, rng64, List.take_succ_cons, List.take_zero, List.nil_append, List.cons_append, decide_true, decide_false, Bool.or_true, true_and, and_true, gSIbP, hQ, if_true]
    refine ⟨fun hb => ?_, fun hb => ⟨⟨by omega, by omega⟩, ?_⟩⟩
    · have : cellR s (k : Nat) = false := by simpa using hb
      have := all_not (P := fun i => cellR s (i : Nat)) hkl this
      simp [validR, this]
    · exact hB hkl (by simpa using hb)
  have hc : (List.range s.cs.length).all (fun i => cellR s (i : Nat)) = true := by
    have : k = s.cs.length := by
      have : ¬ (k < s.cs.length) := by simpa [X.ev, evl, eS_0, D.int, D.rs, D.tt] using hlt
      omega
    subst this
    exact all_yes hP
  refine scan_ok s.tr.length (fun i => oldR s (s.tr.getD i default)) (v0 := .b false) rfl fun k B' hk hP hB _ => ?_
  rw [go_br]
  refine ⟨fun hlt => ?_, fun hlt => ?_⟩
  · have hkl : k < s.tr.length := by simpa [X.ev, evl, eS_2, D.int, D.rs, D.tt] using hlt
    simp only [go_need, go_br, go_leaf, go_back, allSay, X.says, X.ev, X.evs, evl, tblS, List.getD_cons_zero, List.getD_cons_succ, List.getElem?_cons_zero, List.getElem?_cons_succ, tt_b, int_i, str_s, rs_r, Option.isSome_some, Option.getD_some, decide_eq_true_eq, decide_eq_false_iff_not, dS_eS, dC_eC, dU_eU, dW_eW, dY_eY, eC_0, eC_1, eU_0, eU_1, eW_0, eW_1, eW_2, eY_0, eY_1, eS_0, eS_1, eS_2, eS_3, eS_4, eS_5, List.length_map, i_inj, b_inj, s_inj, eC_eq, eU_eq, eW_eq, eY_eq, eS_eq, rng64, List.take_succ_cons, List.take_zero, List.nil_append, List.cons_append, decide_true, decide_false, Bool.or_true, true_and, and_true, gSUb, get_n eU hkl]
    refine ⟨⟨by omega, by omega⟩, fun hb => ?_, fun hb => ⟨⟨by omega, by omega⟩, ?_⟩⟩
    · have : oldR s (s.tr.getD k default) = false := by simpa only [Bool.not_eq_true'] using hb
      have := all_not (P := fun i => oldR s (s.tr.getD i default)) hkl this
      simp only [validR, this, Bool.false_and, Bool.and_false]
    · exact hB hkl (by simpa only [Bool.not_eq_false'] using hb)
  have hc2 : (List.range s.tr.length).all (fun i => oldR s (s.tr.getD i default)) = true := by
    have : k = s.tr.length := by
      have : ¬ (k < s.tr.length) := by simpa [X.ev, evl, eS_2, D.int, D.rs, D.tt] using hlt
      omega
    subst this
    exact all_yes hP
  refine scan_ok s.wk.length (fun i => wkB vcR s (s.wk.getD i default)) (v0 := .b false) rfl fun k B' hk hP hB _ => ?_
  rw [go_br]
  refine ⟨fun hlt => ?_, fun hlt => ?_⟩
  · have hkl : k < s.wk.length := by simpa [X.ev, evl, eS_3, D.int, D.rs, D.tt] using hlt
    simp only [go_need, go_br, go_leaf, go_back, allSay, X.says, X.ev, X.evs, evl, tblS, List.getD_cons_zero, List.getD_cons_succ, List.getElem?_cons_zero, List.getElem?_cons_succ, tt_b, int_i, str_s, rs_r, Option.isSome_some, Option.getD_some, decide_eq_true_eq, decide_eq_false_iff_not, dS_eS, dC_eC, dU_eU, dW_eW, dY_eY, eC_0, eC_1, eU_0, eU_1, eW_0, eW_1, eW_2, eY_0, eY_1, eS_0, eS_1, eS_2, eS_3, eS_4, eS_5, List.length_map, i_inj, b_inj, s_inj, eC_eq, eU_eq, eW_eq, eY_eq, eS_eq, rng64, List.take_succ_cons, List.take_zero, List.nil_append, List.cons_append, decide_true, decide_false, Bool.or_true, true_and, and_true, gSCb, get_n eW hkl]
    have hw : ((decide ((s.wk.getD k default).ser < 1) || decide (s.ser < (s.wk.getD k default).ser) || !vcR s (s.wk.getD k default).att || !vcR s (s.wk.getD k default).val)) = !wkB vcR s (s.wk.getD k default) := by
      generalize s.wk.getD k default = w
      simp only [wkB]
      by_cases h1 : w.ser < 1
      · have : ¬ 1 ≤ w.ser := by omega
        simp [h1, this]
      · by_cases h2 : s.ser < w.ser
        · have : ¬ w.ser ≤ s.ser := by omega
          simp [h2, this]
        · have a1 : 1 ≤ w.ser := by omega
          have a2 : w.ser ≤ s.ser := by omega
          simp [h1, h2, a1, a2]
    refine ⟨⟨by omega, by omega⟩, fun hb => ?_, fun hb => ⟨⟨by omega, by omega⟩, ?_⟩⟩
    · rw [hw] at hb
      have := all_not (P := fun i => wkB vcR s (s.wk.getD i default)) hkl (by simpa only [Bool.not_eq_true'] using hb)
      simp only [validR, this, Bool.and_false]
    · rw [hw] at hb
      exact hB hkl (by simpa only [Bool.not_eq_false'] using hb)
  have hc3 : (List.range s.wk.length).all (fun i => wkB vcR s (s.wk.getD i default)) = true := by
    have : k = s.wk.length := by
      have : ¬ (k < s.wk.length) := by simpa [X.ev, evl, eS_3, D.int, D.rs, D.tt] using hlt
      omega
    subst this
    exact all_yes hP
  simp only [go_leaf, X.evs, X.ev, validR, hh, hc, hc2, hc3, Bool.and_true]
theorem ok_cells_Valid : FOk ct_cells_Valid (gSb validP) := fok_cells_Valid ok_cells_validSymbols ok_cells_fits ok_cells_acyclic ok_cells_validUndo ok_cells_ValidCell fun ds outs hw hg => by
  obtain ⟨d, r, rfl, hd, rfl⟩ := hw
  obtain ⟨s, rfl, hs⟩ := wfS hd
  simp only [gSb, dS_eS, Option.some.injEq] at hg
  subst hg
  have hl := hs.cs.1
  have hl2 := hs.tr.1
  have hl3 := hs.wk.1
  simp only [LIM] at hl hl2 hl3
  have hsy : gYsb symsB [D.r (s.ys.map eY)] = some [.b (symsB s.ys)] := by simp [gYsb, rs_r, map_id' dY_eY]
  rw [tree_cells_Valid, go_need]
  refine ⟨by simp only [go_need, go_br, go_leaf, go_back, allSay, X.says, X.ev, X.evs, evl, tblS, List.getD_cons_zero, List.getD_cons_succ, List.getElem?_cons_zero, List.getElem?_cons_succ, tt_b, int_i, str_s, rs_r, Option.isSome_some, Option.getD_some, decide_eq_true_eq, decide_eq_false_iff_not, dS_eS, dC_eC, dU_eU, dW_eW, dY_eY, eC_0, eC_1, eU_0, eU_1, eW_0, eW_1, eW_2, eY_0, eY_1, eS_0, eS_1, eS_2, eS_3, eS_4, eS_5, List.length_map, i_inj, b_inj, s_inj, eC_eq, eU_eq, eW_eq, eY_eq, eS_eq, rng64, List.take_succ_cons, List.take_zero, List.nil_append, List.cons_append, decide_true, decide_false, Bool.or_true, true_and, and_true, hsy], ?_⟩
  rw [go_br]
  have hcond : (X.ev (evl (tblS [(ct_cells_validSymbols, gYsb symsB), (ct_cells_fits, gSIbP cellQ fitsP), (ct_cells_acyclic, gSbP acyQ acyP), (ct_cells_validUndo, gSUb oldP), (ct_cells_ValidCell, gSCb vcP)]) [eS s]) (.or (.or (.or (.or (.lt (.fld (.tok 0) 5) (.lit (.i 1))) (.lt (.lit (.i 1048576)) (.fld (.tok 0) 5))) (.lt (.fld (.tok 0) 5) (.len (.fld (.tok 0) 0)))) (.lt (.fld (.tok 0) 4) (.lit (.i 0)))) (.not (.call 0 0 [(.fld (.tok 0) 1)])))).tt = !headB s := by
    simp only [go_need, go_br, go_leaf, go_back, allSay, X.says, X.ev, X.evs, evl, tblS, List.getD_cons_zero, List.getD_cons_succ, List.getElem?_cons_zero, List.getElem?_cons_succ, tt_b, int_i, str_s, rs_r, Option.isSome_some, Option.getD_some, decide_eq_true_eq, decide_eq_false_iff_not, dS_eS, dC_eC, dU_eU, dW_eW, dY_eY, eC_0, eC_1, eU_0, eU_1, eW_0, eW_1, eW_2, eY_0, eY_1, eS_0, eS_1, eS_2, eS_3, eS_4, eS_5, List.length_map, i_inj, b_inj, s_inj, eC_eq, eU_eq, eW_eq, eY_eq, eS_eq, rng64, List.take_succ_cons, List.take_zero, List.nil_append, List.cons_append, decide_true, decide_false, Bool.or_true, true_and, and_true, hsy, headB]
    by_cases h1 : s.mx < 1
    · have : ¬ 1 ≤ s.mx := by omega
      simp [h1, this]
    · by_cases h2 : 1048576 < s.mx
      · have : ¬ s.mx ≤ 1048576 := by omega
        simp [h2, this]
      · by_cases h3 : s.mx < s.cs.length
        · have : ¬ (s.cs.length : Int) ≤ s.mx := by omega
          simp [h3, this]
        · by_cases h4 : s.ser < 0
          · have : ¬ 0 ≤ s.ser := by omega
            simp [h4, this]
          · have a1 : 1 ≤ s.mx := by omega
            have a2 : s.mx ≤ 1048576 := by omega
            have a3 : (s.cs.length : Int) ≤ s.mx := by omega
            have a4 : 0 ≤ s.ser := by omega
            simp [h1, h2, h3, h4, a1, a2, a3, a4]
  refine ⟨fun hx => ?_, fun hx => ?_⟩
  · have hh : headB s = false := by
      have := hcond.symm.trans hx
      simpa using this
    simp [go_leaf, X.evs, X.ev, validP, hh]
  have hh : headB s = true := by
    have := hcond.symm.trans hx
    simpa using this
  have hsy2 : symsB s.ys = true := by
    simp only [headB, Bool.and_eq_true] at hh
    exact hh.2.2.2.2
  refine scan_ok s.cs.length (fun i => fitsP s (i : Nat)) (v0 := .b false) rfl fun k B' hk hP hB _ => ?_
  rw [go_br]
  refine ⟨fun hlt => ?_, fun hlt => ?_⟩
  · have hkl : k < s.cs.length := by simpa [X.ev, evl, eS_0, D.int, D.rs, D.tt] using hlt
    have hin : inS s (k : Nat) = true := inS_iff.2 ⟨by omega, by omega⟩
    have hQ : cellQ s (k : Nat) = true := by simp [cellQ, hin, hsy2]
    simp only [go_need, go_br, go_leaf, go_back, allSay, X.says, X.ev, X.evs, evl, tblS, List.getD_cons_zero, List.getD_cons_succ, List.getElem?_cons_zero, List.getElem?_cons_succ, tt_b, int_i, str_s, rs_r, Option.isSome_some, Option.getD_some, decide_eq_true_eq, decide_eq_false_iff_not, dS_eS, dC_eC, dU_eU, dW_eW, dY_eY, eC_0, eC_1, eU_0, eU_1, eW_0, eW_1, eW_2, eY_0, eY_1, eS_0, eS_1, eS_2, eS_3, eS_4, eS_5, List.length_map, i_inj, b_inj, s_inj, eC_eq, eU_eq, eW_eq, eY_eq, eS_eq, rng64, List.take_succ_cons, List.take_zero, List.nil_append, List.cons_append, decide_true, decide_false, Bool.or_true, true_and, and_true, gSIbP, hQ, if_true]
    refine ⟨fun hb => ?_, fun hb => ⟨⟨by omega, by omega⟩, ?_⟩⟩
    · have : fitsP s (k : Nat) = false := by simpa using hb
      have := all_not (P := fun i => fitsP s (i : Nat)) hkl this
      simp [validP, this]
    · exact hB hkl (by simpa using hb)
  have hc : (List.range s.cs.length).all (fun i => fitsP s (i : Nat)) = true := by
    have : k = s.cs.length := by
      have : ¬ (k < s.cs.length) := by simpa [X.ev, evl, eS_0, D.int, D.rs, D.tt] using hlt
      omega
    subst this
    exact all_yes hP
  have hq : acyQ s = true := fits_acyQ hh fun j hj => all_of (P := fun i => fitsP s (i : Nat)) hc hj
  rw [go_need]
  refine ⟨by simp only [go_need, go_br, go_leaf, go_back, allSay, X.says, X.ev, X.evs, evl, tblS, List.getD_cons_zero, List.getD_cons_succ, List.getElem?_cons_zero, List.getElem?_cons_succ, tt_b, int_i, str_s, rs_r, Option.isSome_some, Option.getD_some, decide_eq_true_eq, decide_eq_false_iff_not, dS_eS, dC_eC, dU_eU, dW_eW, dY_eY, eC_0, eC_1, eU_0, eU_1, eW_0, eW_1, eW_2, eY_0, eY_1, eS_0, eS_1, eS_2, eS_3, eS_4, eS_5, List.length_map, i_inj, b_inj, s_inj, eC_eq, eU_eq, eW_eq, eY_eq, eS_eq, rng64, List.take_succ_cons, List.take_zero, List.nil_append, List.cons_append, decide_true, decide_false, Bool.or_true, true_and, and_true, gSbP, hq, if_true], ?_⟩
  rw [go_br]
  refine ⟨fun hb => ?_, fun hb => ?_⟩
  · have : acyP s = false := by
      simp only [go_need, go_br, go_leaf, go_back, allSay, X.says, X.ev, X.evs, evl, tblS, List.getD_cons_zero, List.getD_cons_succ, List.getElem?_cons_zero, List.getElem?_cons_succ, tt_b, int_i, str_s, rs_r, Option.isSome_some, Option.getD_some, decide_eq_true_eq, decide_eq_false_iff_not, dS_eS, dC_eC, dU_eU, dW_eW, dY_eY, eC_0, eC_1, eU_0, eU_1, eW_0, eW_1, eW_2, eY_0, eY_1, eS_0, eS_1, eS_2, eS_3, eS_4, eS_5, List.length_map, i_inj, b_inj, s_inj, eC_eq, eU_eq, eW_eq, eY_eq, eS_eq, rng64, List.take_succ_cons, List.take_zero, List.nil_append, List.cons_append, decide_true, decide_false, Bool.or_true, true_and, and_true, gSbP, hq, if_true] at hb
      simpa only [Bool.not_eq_true'] using hb
    simp only [go_leaf, X.evs, X.ev, validP, this, Bool.false_and, Bool.and_false]
  have ha : acyP s = true := by
    simp only [go_need, go_br, go_leaf, go_back, allSay, X.says, X.ev, X.evs, evl, tblS, List.getD_cons_zero, List.getD_cons_succ, List.getElem?_cons_zero, List.getElem?_cons_succ, tt_b, int_i, str_s, rs_r, Option.isSome_some, Option.getD_some, decide_eq_true_eq, decide_eq_false_iff_not, dS_eS, dC_eC, dU_eU, dW_eW, dY_eY, eC_0, eC_1, eU_0, eU_1, eW_0, eW_1, eW_2, eY_0, eY_1, eS_0, eS_1, eS_2, eS_3, eS_4, eS_5, List.length_map, i_inj, b_inj, s_inj, eC_eq, eU_eq, eW_eq, eY_eq, eS_eq, rng64, List.take_succ_cons, List.take_zero, List.nil_append, List.cons_append, decide_true, decide_false, Bool.or_true, true_and, and_true, gSbP, hq, if_true] at hb
    simpa only [Bool.not_eq_false'] using hb
  refine scan_ok s.tr.length (fun i => oldP s (s.tr.getD i default)) (v0 := .b false) rfl fun k B' hk hP hB _ => ?_
  rw [go_br]
  refine ⟨fun hlt => ?_, fun hlt => ?_⟩
  · have hkl : k < s.tr.length := by simpa [X.ev, evl, eS_2, D.int, D.rs, D.tt] using hlt
    simp only [go_need, go_br, go_leaf, go_back, allSay, X.says, X.ev, X.evs, evl, tblS, List.getD_cons_zero, List.getD_cons_succ, List.getElem?_cons_zero, List.getElem?_cons_succ, tt_b, int_i, str_s, rs_r, Option.isSome_some, Option.getD_some, decide_eq_true_eq, decide_eq_false_iff_not, dS_eS, dC_eC, dU_eU, dW_eW, dY_eY, eC_0, eC_1, eU_0, eU_1, eW_0, eW_1, eW_2, eY_0, eY_1, eS_0, eS_1, eS_2, eS_3, eS_4, eS_5, List.length_map, i_inj, b_inj, s_inj, eC_eq, eU_eq, eW_eq, eY_eq, eS_eq, rng64, List.take_succ_cons, List.take_zero, List.nil_append, List.cons_append, decide_true, decide_false, Bool.or_true, true_and, and_true, gSUb, get_n eU hkl]
    refine ⟨⟨by omega, by omega⟩, fun hb => ?_, fun hb => ⟨⟨by omega, by omega⟩, ?_⟩⟩
    · have : oldP s (s.tr.getD k default) = false := by simpa only [Bool.not_eq_true'] using hb
      have := all_not (P := fun i => oldP s (s.tr.getD i default)) hkl this
      simp only [validP, this, Bool.false_and, Bool.and_false]
    · exact hB hkl (by simpa only [Bool.not_eq_false'] using hb)
  have hc2 : (List.range s.tr.length).all (fun i => oldP s (s.tr.getD i default)) = true := by
    have : k = s.tr.length := by
      have : ¬ (k < s.tr.length) := by simpa [X.ev, evl, eS_2, D.int, D.rs, D.tt] using hlt
      omega
    subst this
    exact all_yes hP
  refine scan_ok s.wk.length (fun i => wkB vcP s (s.wk.getD i default)) (v0 := .b false) rfl fun k B' hk hP hB _ => ?_
  rw [go_br]
  refine ⟨fun hlt => ?_, fun hlt => ?_⟩
  · have hkl : k < s.wk.length := by simpa [X.ev, evl, eS_3, D.int, D.rs, D.tt] using hlt
    simp only [go_need, go_br, go_leaf, go_back, allSay, X.says, X.ev, X.evs, evl, tblS, List.getD_cons_zero, List.getD_cons_succ, List.getElem?_cons_zero, List.getElem?_cons_succ, tt_b, int_i, str_s, rs_r, Option.isSome_some, Option.getD_some, decide_eq_true_eq, decide_eq_false_iff_not, dS_eS, dC_eC, dU_eU, dW_eW, dY_eY, eC_0, eC_1, eU_0, eU_1, eW_0, eW_1, eW_2, eY_0, eY_1, eS_0, eS_1, eS_2, eS_3, eS_4, eS_5, List.length_map, i_inj, b_inj, s_inj, eC_eq, eU_eq, eW_eq, eY_eq, eS_eq, rng64, List.take_succ_cons, List.take_zero, List.nil_append, List.cons_append, decide_true, decide_false, Bool.or_true, true_and, and_true, gSCb, get_n eW hkl]
    have hw : ((decide ((s.wk.getD k default).ser < 1) || decide (s.ser < (s.wk.getD k default).ser) || !vcP s (s.wk.getD k default).att || !vcP s (s.wk.getD k default).val)) = !wkB vcP s (s.wk.getD k default) := by
      generalize s.wk.getD k default = w
      simp only [wkB]
      by_cases h1 : w.ser < 1
      · have : ¬ 1 ≤ w.ser := by omega
        simp [h1, this]
      · by_cases h2 : s.ser < w.ser
        · have : ¬ w.ser ≤ s.ser := by omega
          simp [h2, this]
        · have a1 : 1 ≤ w.ser := by omega
          have a2 : w.ser ≤ s.ser := by omega
          simp [h1, h2, a1, a2]
    refine ⟨⟨by omega, by omega⟩, fun hb => ?_, fun hb => ⟨⟨by omega, by omega⟩, ?_⟩⟩
    · rw [hw] at hb
      have := all_not (P := fun i => wkB vcP s (s.wk.getD i default)) hkl (by simpa only [Bool.not_eq_true'] using hb)
      simp only [validP, this, Bool.and_false]
    · rw [hw] at hb
      exact hB hkl (by simpa only [Bool.not_eq_false'] using hb)
  have hc3 : (List.range s.wk.length).all (fun i => wkB vcP s (s.wk.getD i default)) = true := by
    have : k = s.wk.length := by
      have : ¬ (k < s.wk.length) := by simpa [X.ev, evl, eS_3, D.int, D.rs, D.tt] using hlt
      omega
    subst this
    exact all_yes hP
  simp only [go_leaf, X.evs, X.ev, validP, hh, hc, ha, hc2, hc3, Bool.and_true]
end Go.Proofs.Ytcjapglipkmbhaa

namespace Go.Proofs.Ytcjapglipkmbhaa
open Go.RowKit
set_option linter.unusedVariables false
set_option linter.unusedSimpArgs false

theorem rows_eq {l m : List D} (hl : l.length = m.length) (h : ∀ j, j < l.length → l.getD j .u = m.getD j .u) : l = m := by
  refine List.ext_getElem hl fun j h1 h2 => ?_
  have := h j h1
  simpa [List.getD_eq_getElem?_getD, h1, h2] using this
theorem get_k (l : List D) (k : Nat) : (D.r l).get (k : Int) = l.getD k .u := rfl

def eqT : Tree := (.br (.not (.eq (.len (.tok 0)) (.len (.tok 1)))) (.leaf [(.lit (.b .false))]) (.loop 4 2 [(.lit (.b .false)), (.lit (.i 0))] (.br (.lt (.tok 3) (.len (.tok 0))) (.need [(.le (.lit (.i 0)) (.tok 3)), (.lt (.tok 3) (.len (.tok 1))), (.le (.lit (.i 0)) (.tok 3)), (.lt (.tok 3) (.len (.tok 0)))] (.br (.not (.eq (.get (.tok 0) (.tok 3)) (.get (.tok 1) (.tok 3)))) (.leaf [(.lit (.b .false))]) (.need [(.rng .i64 (.add (.tok 3) (.lit (.i 1))))] (.back 4 [(.tok 2), (.add (.tok 3) (.lit (.i 1)))])))) (.leaf [(.lit (.b .true))]))))
theorem eqT_ok {S : Nat → List D → Option (List D)} {l m : List D} {R : List D → Prop} {B : Nat → List D → Prop} (hl : l.length ≤ LIM) (hR : R [.b (decide (l = m))]) : eqT.go S R [.r l, .r m] B := by
  simp only [LIM] at hl
  rw [eqT, go_br]
  refine ⟨fun hx => ?_, fun hx => ?_⟩
  · have : ¬ l = m := fun e => by subst e; simp [X.ev, evl, D.rs, D.tt] at hx
    rw [decide_eq_false this] at hR
    exact hR
  have hlen : l.length = m.length := by
    simp [X.ev, evl, D.rs, D.tt] at hx
    omega
  refine scan_ok l.length (fun j => decide (l.getD j .u = m.getD j .u)) (v0 := .b false) rfl fun k B' hk hP hB _ => ?_
  rw [go_br]
  refine ⟨fun hlt => ?_, fun hlt => ?_⟩
  · have hkl : k < l.length := by simpa [X.ev, evl, D.int, D.rs, D.tt] using hlt
    simp only [go_need, go_br, go_leaf, go_back, allSay, X.says, X.ev, X.evs, evl, tblS, List.getD_cons_zero, List.getD_cons_succ, List.getElem?_cons_zero, List.getElem?_cons_succ, tt_b, int_i, str_s, rs_r, Option.isSome_some, Option.getD_some, decide_eq_true_eq, decide_eq_false_iff_not, dS_eS, dC_eC, dU_eU, dW_eW, dY_eY, eC_0, eC_1, eU_0, eU_1, eW_0, eW_1, eW_2, eY_0, eY_1, eS_0, eS_1, eS_2, eS_3, eS_4, eS_5, List.length_map, i_inj, b_inj, s_inj, eC_eq, eU_eq, eW_eq, eY_eq, eS_eq, rng64, List.take_succ_cons, List.take_zero, List.nil_append, List.cons_append, decide_true, decide_false, Bool.or_true, true_and, and_true, get_k]
    refine ⟨⟨by omega, by omega, by omega, by omega⟩, fun hb => ?_, fun hb => ⟨⟨by omega, by omega⟩, ?_⟩⟩
    · have : ¬ l = m := fun e => by subst e; simp at hb
      rw [decide_eq_false this] at hR
      exact hR
    · exact hB hkl (by simpa using hb)
  · have : k = l.length := by
      have : ¬ (k < l.length) := by simpa [X.ev, evl, D.int, D.rs, D.tt] using hlt
      omega
    subst this
    have : l = m := rows_eq hlen fun j hj => by simpa using hP j hj
    rw [decide_eq_true this] at hR
    exact hR

def gEq : List D → Option (List D)
  | [a, b] => some [.b (decide (a = b))]
  | _ => none
theorem eq_rows {l m : List D} : decide (D.r l = D.r m) = decide (l = m) := by simp
theorem ok_slices_Equal_Cell : FOk ct_slices_Equal_Cell gEq := fok_slices_Equal_Cell fun ds outs hw hg => by
  obtain ⟨d, r, rfl, hd, e, r2, rfl, he, rfl⟩ := hw
  obtain ⟨l, te, rfl, -, hl, -⟩ := hd.row
  obtain ⟨m, te2, rfl, -⟩ := he.row
  simp only [gEq, Option.some.injEq, eq_rows] at hg
  subst hg
  exact eqT_ok hl rfl
theorem ok_slices_Equal_Symbol : FOk ct_slices_Equal_Symbol gEq := fok_slices_Equal_Symbol fun ds outs hw hg => by
  obtain ⟨d, r, rfl, hd, e, r2, rfl, he, rfl⟩ := hw
  obtain ⟨l, te, rfl, -, hl, -⟩ := hd.row
  obtain ⟨m, te2, rfl, -⟩ := he.row
  simp only [gEq, Option.some.injEq, eq_rows] at hg
  subst hg
  exact eqT_ok hl rfl
theorem ok_slices_Equal_Undo : FOk ct_slices_Equal_Undo gEq := fok_slices_Equal_Undo fun ds outs hw hg => by
  obtain ⟨d, r, rfl, hd, e, r2, rfl, he, rfl⟩ := hw
  obtain ⟨l, te, rfl, -, hl, -⟩ := hd.row
  obtain ⟨m, te2, rfl, -⟩ := he.row
  simp only [gEq, Option.some.injEq, eq_rows] at hg
  subst hg
  exact eqT_ok hl rfl
theorem ok_slices_Equal_Wake : FOk ct_slices_Equal_Wake gEq := fok_slices_Equal_Wake fun ds outs hw hg => by
  obtain ⟨d, r, rfl, hd, e, r2, rfl, he, rfl⟩ := hw
  obtain ⟨l, te, rfl, -, hl, -⟩ := hd.row
  obtain ⟨m, te2, rfl, -⟩ := he.row
  simp only [gEq, Option.some.injEq, eq_rows] at hg
  subst hg
  exact eqT_ok hl rfl

def rowQ (d : D) : Bool := decide (d.rs.length ≤ 34359738368)
theorem rowQ_r (l : List D) : (rowQ (.r l) = true) = (l.length ≤ 34359738368) := by simp only [rowQ, decide_eq_true_eq]; rfl
def gCl : List D → Option (List D)
  | [a] => if rowQ a then some [a] else none
  | _ => none
def clT : Tree := (.amb (.tok 0) .false (.leaf [(.lit (.r []))]) (.need [(.le (.add (.lit (.i 0)) (.len (.tok 0))) (.lit (.i 34359738368)))] (.leaf [(.app (.row []) (.tok 0))])))
theorem clT_ok {S : Nat → List D → Option (List D)} {l : List D} {R : List D → Prop} {B : Nat → List D → Prop} (hl : l.length ≤ 34359738368) (hR : R [.r l]) : clT.go S R [.r l] B := by
  refine ⟨fun h => ?_, fun _ => ?_⟩
  · have : l = [] := h rfl
    subst this
    exact hR
  · rw [go_need]
    refine ⟨by simp only [go_need, go_br, go_leaf, go_back, allSay, X.says, X.ev, X.evs, evl, tblS, List.getD_cons_zero, List.getD_cons_succ, List.getElem?_cons_zero, List.getElem?_cons_succ, tt_b, int_i, str_s, rs_r, Option.isSome_some, Option.getD_some, decide_eq_true_eq, decide_eq_false_iff_not, dS_eS, dC_eC, dU_eU, dW_eW, dY_eY, eC_0, eC_1, eU_0, eU_1, eW_0, eW_1, eW_2, eY_0, eY_1, eS_0, eS_1, eS_2, eS_3, eS_4, eS_5, List.length_map, i_inj, b_inj, s_inj, eC_eq, eU_eq, eW_eq, eY_eq, eS_eq, rng64, List.take_succ_cons, List.take_zero, List.nil_append, List.cons_append, decide_true, decide_false, Bool.or_true, true_and, and_true]; omega, ?_⟩
    simpa [go_leaf, X.evs, X.ev, evl, D.rs] using hR
theorem ok_slices_Clone_Cell : FOk ct_slices_Clone_Cell gCl := fok_slices_Clone_Cell fun ds outs hw hg => by
  obtain ⟨d, r, rfl, hd, rfl⟩ := hw
  obtain ⟨l, te, rfl, -⟩ := hd.row
  simp only [gCl, rowQ_r, Option.ite_none_right_eq_some, Option.some.injEq] at hg
  obtain ⟨h1, rfl⟩ := hg
  exact clT_ok h1 rfl
theorem ok_slices_Clone_Symbol : FOk ct_slices_Clone_Symbol gCl := fok_slices_Clone_Symbol fun ds outs hw hg => by
  obtain ⟨d, r, rfl, hd, rfl⟩ := hw
  obtain ⟨l, te, rfl, -⟩ := hd.row
  simp only [gCl, rowQ_r, Option.ite_none_right_eq_some, Option.some.injEq] at hg
  obtain ⟨h1, rfl⟩ := hg
  exact clT_ok h1 rfl
theorem ok_slices_Clone_Undo : FOk ct_slices_Clone_Undo gCl := fok_slices_Clone_Undo fun ds outs hw hg => by
  obtain ⟨d, r, rfl, hd, rfl⟩ := hw
  obtain ⟨l, te, rfl, -⟩ := hd.row
  simp only [gCl, rowQ_r, Option.ite_none_right_eq_some, Option.some.injEq] at hg
  obtain ⟨h1, rfl⟩ := hg
  exact clT_ok h1 rfl
theorem ok_slices_Clone_Wake : FOk ct_slices_Clone_Wake gCl := fok_slices_Clone_Wake fun ds outs hw hg => by
  obtain ⟨d, r, rfl, hd, rfl⟩ := hw
  obtain ⟨l, te, rfl, -⟩ := hd.row
  simp only [gCl, rowQ_r, Option.ite_none_right_eq_some, Option.some.injEq] at hg
  obtain ⟨h1, rfl⟩ := hg
  exact clT_ok h1 rfl

/-- A store that can be copied. -/
def clQ (s : So) : Bool := decide (s.cs.length ≤ 34359738368) && (decide (s.ys.length ≤ 34359738368) && (decide (s.tr.length ≤ 34359738368) && decide (s.wk.length ≤ 34359738368)))
def gClone : List D → Option (List D)
  | [s] => if clQ (dS s) then some [eS (dS s)] else none
  | _ => none
theorem ok_ref30_Clone : FOk ct_ref30_Clone gClone := fok_ref30_Clone fun ds outs hw hg => by
  obtain ⟨d, r, rfl, hd, rfl⟩ := hw
  obtain ⟨s, rfl, hs⟩ := wfS hd
  simp only [gClone, dS_eS, Option.ite_none_right_eq_some, Option.some.injEq] at hg
  obtain ⟨hq, rfl⟩ := hg
  simp only [clQ, Bool.and_eq_true, decide_eq_true_eq] at hq
  simp only [tree_ref30_Clone, go_need, go_br, go_leaf, go_back, allSay, X.says, X.ev, X.evs, evl, tblS, List.getD_cons_zero, List.getD_cons_succ, List.getElem?_cons_zero, List.getElem?_cons_succ, tt_b, int_i, str_s, rs_r, Option.isSome_some, Option.getD_some, decide_eq_true_eq, decide_eq_false_iff_not, dS_eS, dC_eC, dU_eU, dW_eW, dY_eY, eC_0, eC_1, eU_0, eU_1, eW_0, eW_1, eW_2, eY_0, eY_1, eS_0, eS_1, eS_2, eS_3, eS_4, eS_5, List.length_map, i_inj, b_inj, s_inj, eC_eq, eU_eq, eW_eq, eY_eq, eS_eq, rng64, List.take_succ_cons, List.take_zero, List.nil_append, List.cons_append, decide_true, decide_false, Bool.or_true, true_and, and_true, eS, D.fs, D.fld]
  simp
  omega
theorem ok_cells_Clone : FOk ct_cells_Clone gClone := fok_cells_Clone ok_slices_Clone_Cell ok_slices_Clone_Symbol ok_slices_Clone_Undo ok_slices_Clone_Wake fun ds outs hw hg => by
  obtain ⟨d, r, rfl, hd, rfl⟩ := hw
  obtain ⟨s, rfl, hs⟩ := wfS hd
  simp only [gClone, dS_eS, Option.ite_none_right_eq_some, Option.some.injEq] at hg
  obtain ⟨hq, rfl⟩ := hg
  simp only [clQ, Bool.and_eq_true, decide_eq_true_eq] at hq
  obtain ⟨h1, h2, h3, h4⟩ := hq
  simp only [tree_cells_Clone, go_need, go_br, go_leaf, go_back, allSay, X.says, X.ev, X.evs, evl, tblS, List.getD_cons_zero, List.getD_cons_succ, List.getElem?_cons_zero, List.getElem?_cons_succ, tt_b, int_i, str_s, rs_r, Option.isSome_some, Option.getD_some, decide_eq_true_eq, decide_eq_false_iff_not, dS_eS, dC_eC, dU_eU, dW_eW, dY_eY, eC_0, eC_1, eU_0, eU_1, eW_0, eW_1, eW_2, eY_0, eY_1, eS_0, eS_1, eS_2, eS_3, eS_4, eS_5, List.length_map, i_inj, b_inj, s_inj, eC_eq, eU_eq, eW_eq, eY_eq, eS_eq, rng64, List.take_succ_cons, List.take_zero, List.nil_append, List.cons_append, decide_true, decide_false, Bool.or_true, true_and, and_true, gCl, rowQ_r, h1, h2, h3, h4, if_true]
  simp [eS, D.fs, D.fld]

def gSame : List D → Option (List D)
  | [a, b] => some [.b (decide (a = b))]
  | _ => none
theorem ok_cells_Same : FOk ct_cells_Same gSame := fok_cells_Same ok_slices_Equal_Cell ok_slices_Equal_Symbol ok_slices_Equal_Undo ok_slices_Equal_Wake fun ds outs hw hg => by
  obtain ⟨d, r, rfl, hd, e, r', rfl, he, rfl⟩ := hw
  obtain ⟨s, rfl, hs⟩ := wfS hd
  obtain ⟨t, rfl, ht⟩ := wfS he
  simp only [gSame, Option.some.injEq] at hg
  subst hg
  simp only [tree_cells_Same, go_need, go_br, go_leaf, go_back, allSay, X.says, X.ev, X.evs, evl, tblS, List.getD_cons_zero, List.getD_cons_succ, List.getElem?_cons_zero, List.getElem?_cons_succ, tt_b, int_i, str_s, rs_r, Option.isSome_some, Option.getD_some, decide_eq_true_eq, decide_eq_false_iff_not, dS_eS, dC_eC, dU_eU, dW_eW, dY_eY, eC_0, eC_1, eU_0, eU_1, eW_0, eW_1, eW_2, eY_0, eY_1, eS_0, eS_1, eS_2, eS_3, eS_4, eS_5, List.length_map, i_inj, b_inj, s_inj, eC_eq, eU_eq, eW_eq, eY_eq, eS_eq, rng64, List.take_succ_cons, List.take_zero, List.nil_append, List.cons_append, decide_true, decide_false, Bool.or_true, true_and, and_true, gEq]
  have e0 : (s = t) = (s.cs.map eC = t.cs.map eC ∧ s.ys.map eY = t.ys.map eY ∧ s.tr.map eU = t.tr.map eU ∧ s.wk.map eW = t.wk.map eW ∧ s.ser = t.ser ∧ s.mx = t.mx) := by
    rw [← eS_eq]
    simp [eS]
  simp only [e0, r_inj]
  by_cases h1 : s.cs.map eC = t.cs.map eC <;> by_cases h2 : s.ys.map eY = t.ys.map eY <;> by_cases h3 : s.tr.map eU = t.tr.map eU <;> by_cases h4 : s.wk.map eW = t.wk.map eW <;> by_cases h5 : s.ser = t.ser <;> by_cases h6 : s.mx = t.mx <;> simp [h1, h2, h3, h4, h5, h6]
theorem ok_ref30_Same : FOk ct_ref30_Same gSame := fok_ref30_Same fun ds outs hw hg => by
  obtain ⟨d, r, rfl, hd, e, r', rfl, he, rfl⟩ := hw
  obtain ⟨s, rfl, hs⟩ := wfS hd
  obtain ⟨t, rfl, ht⟩ := wfS he
  simp only [gSame, Option.some.injEq] at hg
  subst hg
  have hl := hs.cs.1
  have hl1 := hs.ys.1
  have hl2 := hs.tr.1
  have hl3 := hs.wk.1
  simp only [LIM] at hl hl1 hl2 hl3
  have e0 : decide (eS s = eS t) = decide (s = t) := by simp [eS_eq]
  rw [e0]
  have no : ¬ s = t → [D.b false] = [D.b (decide (s = t))] := fun h => by rw [decide_eq_false h]
  rw [tree_ref30_Same, go_br]
  refine ⟨fun hx => ?_, fun hx => ?_⟩
  · refine no fun e => ?_
    subst e
    simp [X.ev, evl, D.tt] at hx
  simp only [go_need, go_br, go_leaf, go_back, allSay, X.says, X.ev, X.evs, evl, tblS, List.getD_cons_zero, List.getD_cons_succ, List.getElem?_cons_zero, List.getElem?_cons_succ, tt_b, int_i, str_s, rs_r, Option.isSome_some, Option.getD_some, decide_eq_true_eq, decide_eq_false_iff_not, dS_eS, dC_eC, dU_eU, dW_eW, dY_eY, eC_0, eC_1, eU_0, eU_1, eW_0, eW_1, eW_2, eY_0, eY_1, eS_0, eS_1, eS_2, eS_3, eS_4, eS_5, List.length_map, i_inj, b_inj, s_inj, eC_eq, eU_eq, eW_eq, eY_eq, eS_eq, rng64, List.take_succ_cons, List.take_zero, List.nil_append, List.cons_append, decide_true, decide_false, Bool.or_true, true_and, and_true] at hx
  have hx' : s.cs.length = t.cs.length ∧ s.ys.length = t.ys.length ∧ s.tr.length = t.tr.length ∧ s.wk.length = t.wk.length ∧ s.ser = t.ser ∧ s.mx = t.mx := by
    simp at hx
    omega
  obtain ⟨q1, q2, q3, q4, q5, q6⟩ := hx'
  refine scan_ok s.cs.length (fun j => decide ((s.cs.map eC).getD j .u = (t.cs.map eC).getD j .u)) (v0 := .b false) rfl fun k B' hk hP hB _ => ?_
  rw [go_br]
  refine ⟨fun hlt => ?_, fun hlt => ?_⟩
  · have hkl : k < s.cs.length := by simpa [X.ev, evl, eS_0, D.int, D.rs, D.tt] using hlt
    simp only [go_need, go_br, go_leaf, go_back, allSay, X.says, X.ev, X.evs, evl, tblS, List.getD_cons_zero, List.getD_cons_succ, List.getElem?_cons_zero, List.getElem?_cons_succ, tt_b, int_i, str_s, rs_r, Option.isSome_some, Option.getD_some, decide_eq_true_eq, decide_eq_false_iff_not, dS_eS, dC_eC, dU_eU, dW_eW, dY_eY, eC_0, eC_1, eU_0, eU_1, eW_0, eW_1, eW_2, eY_0, eY_1, eS_0, eS_1, eS_2, eS_3, eS_4, eS_5, List.length_map, i_inj, b_inj, s_inj, eC_eq, eU_eq, eW_eq, eY_eq, eS_eq, rng64, List.take_succ_cons, List.take_zero, List.nil_append, List.cons_append, decide_true, decide_false, Bool.or_true, true_and, and_true, get_k]
    refine ⟨⟨by omega, by omega, by omega, by omega⟩, fun hb => ?_, fun hb => ⟨⟨by omega, by omega⟩, ?_⟩⟩
    · refine no fun e => ?_
      subst e
      simp at hb
    · exact hB hkl (by simpa only [Bool.not_eq_false'] using hb)
  have hc0 : ∀ j, j < (s.cs.map eC).length → (s.cs.map eC).getD j .u = (t.cs.map eC).getD j .u := by
    have : k = s.cs.length := by
      have : ¬ (k < s.cs.length) := by simpa [X.ev, evl, eS_0, D.int, D.rs, D.tt] using hlt
      omega
    subst this
    exact fun j hj => by simpa only [decide_eq_true_eq] using hP j (by simpa using hj)
  refine scan_ok s.ys.length (fun j => decide ((s.ys.map eY).getD j .u = (t.ys.map eY).getD j .u)) (v0 := .b false) rfl fun k B' hk hP hB _ => ?_
  rw [go_br]
  refine ⟨fun hlt => ?_, fun hlt => ?_⟩
  · have hkl : k < s.ys.length := by simpa [X.ev, evl, eS_1, D.int, D.rs, D.tt] using hlt
    simp only [go_need, go_br, go_leaf, go_back, allSay, X.says, X.ev, X.evs, evl, tblS, List.getD_cons_zero, List.getD_cons_succ, List.getElem?_cons_zero, List.getElem?_cons_succ, tt_b, int_i, str_s, rs_r, Option.isSome_some, Option.getD_some, decide_eq_true_eq, decide_eq_false_iff_not, dS_eS, dC_eC, dU_eU, dW_eW, dY_eY, eC_0, eC_1, eU_0, eU_1, eW_0, eW_1, eW_2, eY_0, eY_1, eS_0, eS_1, eS_2, eS_3, eS_4, eS_5, List.length_map, i_inj, b_inj, s_inj, eC_eq, eU_eq, eW_eq, eY_eq, eS_eq, rng64, List.take_succ_cons, List.take_zero, List.nil_append, List.cons_append, decide_true, decide_false, Bool.or_true, true_and, and_true, get_k]
    refine ⟨⟨by omega, by omega, by omega, by omega⟩, fun hb => ?_, fun hb => ⟨⟨by omega, by omega⟩, ?_⟩⟩
    · refine no fun e => ?_
      subst e
      simp at hb
    · exact hB hkl (by simpa only [Bool.not_eq_false'] using hb)
  have hc1 : ∀ j, j < (s.ys.map eY).length → (s.ys.map eY).getD j .u = (t.ys.map eY).getD j .u := by
    have : k = s.ys.length := by
      have : ¬ (k < s.ys.length) := by simpa [X.ev, evl, eS_1, D.int, D.rs, D.tt] using hlt
      omega
    subst this
    exact fun j hj => by simpa only [decide_eq_true_eq] using hP j (by simpa using hj)
  refine scan_ok s.tr.length (fun j => decide ((s.tr.map eU).getD j .u = (t.tr.map eU).getD j .u)) (v0 := .b false) rfl fun k B' hk hP hB _ => ?_
  rw [go_br]
  refine ⟨fun hlt => ?_, fun hlt => ?_⟩
  · have hkl : k < s.tr.length := by simpa [X.ev, evl, eS_2, D.int, D.rs, D.tt] using hlt
    simp only [go_need, go_br, go_leaf, go_back, allSay, X.says, X.ev, X.evs, evl, tblS, List.getD_cons_zero, List.getD_cons_succ, List.getElem?_cons_zero, List.getElem?_cons_succ, tt_b, int_i, str_s, rs_r, Option.isSome_some, Option.getD_some, decide_eq_true_eq, decide_eq_false_iff_not, dS_eS, dC_eC, dU_eU, dW_eW, dY_eY, eC_0, eC_1, eU_0, eU_1, eW_0, eW_1, eW_2, eY_0, eY_1, eS_0, eS_1, eS_2, eS_3, eS_4, eS_5, List.length_map, i_inj, b_inj, s_inj, eC_eq, eU_eq, eW_eq, eY_eq, eS_eq, rng64, List.take_succ_cons, List.take_zero, List.nil_append, List.cons_append, decide_true, decide_false, Bool.or_true, true_and, and_true, get_k]
    refine ⟨⟨by omega, by omega, by omega, by omega⟩, fun hb => ?_, fun hb => ⟨⟨by omega, by omega⟩, ?_⟩⟩
    · refine no fun e => ?_
      subst e
      simp at hb
    · exact hB hkl (by simpa only [Bool.not_eq_false'] using hb)
  have hc2 : ∀ j, j < (s.tr.map eU).length → (s.tr.map eU).getD j .u = (t.tr.map eU).getD j .u := by
    have : k = s.tr.length := by
      have : ¬ (k < s.tr.length) := by simpa [X.ev, evl, eS_2, D.int, D.rs, D.tt] using hlt
      omega
    subst this
    exact fun j hj => by simpa only [decide_eq_true_eq] using hP j (by simpa using hj)
  refine scan_ok s.wk.length (fun j => decide ((s.wk.map eW).getD j .u = (t.wk.map eW).getD j .u)) (v0 := .b false) rfl fun k B' hk hP hB _ => ?_
  rw [go_br]
  refine ⟨fun hlt => ?_, fun hlt => ?_⟩
  · have hkl : k < s.wk.length := by simpa [X.ev, evl, eS_3, D.int, D.rs, D.tt] using hlt
    simp only [go_need, go_br, go_leaf, go_back, allSay, X.says, X.ev, X.evs, evl, tblS, List.getD_cons_zero, List.getD_cons_succ, List.getElem?_cons_zero, List.getElem?_cons_succ, tt_b, int_i, str_s, rs_r, Option.isSome_some, Option.getD_some, decide_eq_true_eq, decide_eq_false_iff_not, dS_eS, dC_eC, dU_eU, dW_eW, dY_eY, eC_0, eC_1, eU_0, eU_1, eW_0, eW_1, eW_2, eY_0, eY_1, eS_0, eS_1, eS_2, eS_3, eS_4, eS_5, List.length_map, i_inj, b_inj, s_inj, eC_eq, eU_eq, eW_eq, eY_eq, eS_eq, rng64, List.take_succ_cons, List.take_zero, List.nil_append, List.cons_append, decide_true, decide_false, Bool.or_true, true_and, and_true, get_k]
    refine ⟨⟨by omega, by omega, by omega, by omega⟩, fun hb => ?_, fun hb => ⟨⟨by omega, by omega⟩, ?_⟩⟩
    · refine no fun e => ?_
      subst e
      simp at hb
    · exact hB hkl (by simpa only [Bool.not_eq_false'] using hb)
  have hc3 : ∀ j, j < (s.wk.map eW).length → (s.wk.map eW).getD j .u = (t.wk.map eW).getD j .u := by
    have : k = s.wk.length := by
      have : ¬ (k < s.wk.length) := by simpa [X.ev, evl, eS_3, D.int, D.rs, D.tt] using hlt
      omega
    subst this
    exact fun j hj => by simpa only [decide_eq_true_eq] using hP j (by simpa using hj)
  have e1 := map_inj (fun _ _ => eC_inj) (rows_eq (by simpa using q1) hc0)
  have e2 := map_inj (fun _ _ => eY_inj) (rows_eq (by simpa using q2) hc1)
  have e3 := map_inj (fun _ _ => eU_inj) (rows_eq (by simpa using q3) hc2)
  have e4 := map_inj (fun _ _ => eW_inj) (rows_eq (by simpa using q4) hc3)
  have : s = t := by cases s; cases t; simp_all
  subst this
  simp [go_leaf, X.evs, X.ev]
end Go.Proofs.Ytcjapglipkmbhaa

namespace Go.Proofs.Ytcjapglipkmbhaa
open Go.RowKit
set_option linter.unusedVariables false
set_option linter.unusedSimpArgs false

theorem ok_trail_in : FOk ct_trail_in (gSIb inS) := fok_trail_in fun ds outs hw hg => by
  obtain ⟨d, r, rfl, hd, e, r', rfl, he, rfl⟩ := hw
  obtain ⟨s, rfl, hs⟩ := wfS hd
  obtain ⟨i, rfl, hi⟩ := wfI he
  simp only [gSIb, dS_eS, int_i, Option.some.injEq] at hg
  subst hg
  simp only [tree_trail_in, go_need, go_br, go_leaf, go_back, allSay, X.says, X.ev, X.evs, evl, tblS, List.getD_cons_zero, List.getD_cons_succ, List.getElem?_cons_zero, List.getElem?_cons_succ, tt_b, int_i, str_s, rs_r, Option.isSome_some, Option.getD_some, decide_eq_true_eq, decide_eq_false_iff_not, dS_eS, dC_eC, dU_eU, dW_eW, dY_eY, eC_0, eC_1, eU_0, eU_1, eW_0, eW_1, eW_2, eY_0, eY_1, eS_0, eS_1, eS_2, eS_3, eS_4, eS_5, List.length_map, i_inj, b_inj, s_inj, eC_eq, eU_eq, eW_eq, eY_eq, eS_eq, rng64, List.take_succ_cons, List.take_zero, List.nil_append, List.cons_append, decide_true, decide_false, Bool.or_true, true_and, and_true, inS]
def keptC (c : Ce) : Ce := if c.t = 5 then ⟨0, c.n⟩ else c
def gKept : List D → Option (List D)
  | [c] => some [eC (keptC (dC c))]
  | _ => none
theorem ok_trail_kept : FOk ct_trail_kept gKept := fok_trail_kept fun ds outs hw hg => by
  obtain ⟨d, r, rfl, hd, rfl⟩ := hw
  obtain ⟨c, rfl, hc⟩ := wfC hd
  simp only [gKept, dC_eC, Option.some.injEq] at hg
  subst hg
  simp only [tree_trail_kept, go_need, go_br, go_leaf, go_back, allSay, X.says, X.ev, X.evs, evl, tblS, List.getD_cons_zero, List.getD_cons_succ, List.getElem?_cons_zero, List.getElem?_cons_succ, tt_b, int_i, str_s, rs_r, Option.isSome_some, Option.getD_some, decide_eq_true_eq, decide_eq_false_iff_not, dS_eS, dC_eC, dU_eU, dW_eW, dY_eY, eC_0, eC_1, eU_0, eU_1, eW_0, eW_1, eW_2, eY_0, eY_1, eS_0, eS_1, eS_2, eS_3, eS_4, eS_5, List.length_map, i_inj, b_inj, s_inj, eC_eq, eU_eq, eW_eq, eY_eq, eS_eq, rng64, List.take_succ_cons, List.take_zero, List.nil_append, List.cons_append, decide_true, decide_false, Bool.or_true, true_and, and_true, keptC, eC_s0]
  exact ⟨fun h => by rw [if_pos h], fun h => by rw [if_neg h]⟩
theorem ok_ref30_Kept : FOk ct_ref30_Kept gKept := fok_ref30_Kept fun ds outs hw hg => by
  obtain ⟨d, r, rfl, hd, rfl⟩ := hw
  obtain ⟨c, rfl, hc⟩ := wfC hd
  simp only [gKept, dC_eC, Option.some.injEq] at hg
  subst hg
  simp only [tree_ref30_Kept, go_need, go_br, go_leaf, go_back, allSay, X.says, X.ev, X.evs, evl, tblS, List.getD_cons_zero, List.getD_cons_succ, List.getElem?_cons_zero, List.getElem?_cons_succ, tt_b, int_i, str_s, rs_r, Option.isSome_some, Option.getD_some, decide_eq_true_eq, decide_eq_false_iff_not, dS_eS, dC_eC, dU_eU, dW_eW, dY_eY, eC_0, eC_1, eU_0, eU_1, eW_0, eW_1, eW_2, eY_0, eY_1, eS_0, eS_1, eS_2, eS_3, eS_4, eS_5, List.length_map, i_inj, b_inj, s_inj, eC_eq, eU_eq, eW_eq, eY_eq, eS_eq, rng64, List.take_succ_cons, List.take_zero, List.nil_append, List.cons_append, decide_true, decide_false, Bool.or_true, true_and, and_true, keptC, eC_mk]
  exact ⟨fun h => by rw [if_pos h], fun h => by rw [if_neg h]⟩
def gMark : List D → Option (List D)
  | [s] => some [.i ((dS s).tr.length : Nat)]
  | _ => none
theorem ok_trail_Mark : FOk ct_trail_Mark gMark := fok_trail_Mark fun ds outs hw hg => by
  obtain ⟨d, r, rfl, hd, rfl⟩ := hw
  obtain ⟨s, rfl, hs⟩ := wfS hd
  simp only [gMark, dS_eS, Option.some.injEq] at hg
  subst hg
  simp only [tree_trail_Mark, go_need, go_br, go_leaf, go_back, allSay, X.says, X.ev, X.evs, evl, tblS, List.getD_cons_zero, List.getD_cons_succ, List.getElem?_cons_zero, List.getElem?_cons_succ, tt_b, int_i, str_s, rs_r, Option.isSome_some, Option.getD_some, decide_eq_true_eq, decide_eq_false_iff_not, dS_eS, dC_eC, dU_eU, dW_eW, dY_eY, eC_0, eC_1, eU_0, eU_1, eW_0, eW_1, eW_2, eY_0, eY_1, eS_0, eS_1, eS_2, eS_3, eS_4, eS_5, List.length_map, i_inj, b_inj, s_inj, eC_eq, eU_eq, eW_eq, eY_eq, eS_eq, rng64, List.take_succ_cons, List.take_zero, List.nil_append, List.cons_append, decide_true, decide_false, Bool.or_true, true_and, and_true]

def behind (s : So) (a : Int) : Bool := decide (2 ≤ a) && decide ((cellAt s (a - 2)).t = 5)
def settP (s : So) (a : Int) : Bool := if (cellAt s a).t = 0 then decide ((cellAt s a).n = a) else if (cellAt s a).t = 5 then true else if (cellAt s a).t = 1 ∨ (cellAt s a).t = 2 ∨ (cellAt s a).t = 3 then behind s a else false
def settR (s : So) (a : Int) : Bool := if (cellAt s a).t = 0 ∨ (cellAt s a).t = 5 then decide ((cellAt s a).n = a) else behind s a && !decide ((cellAt s a).t = 4)
theorem ok_trail_settable : FOk ct_trail_settable (gSIbP inS settP) := fok_trail_settable fun ds outs hw hg => by
  obtain ⟨d, r, rfl, hd, e, r', rfl, he, rfl⟩ := hw
  obtain ⟨s, rfl, hs⟩ := wfS hd
  obtain ⟨i, rfl, hi⟩ := wfI he
  simp only [gSIbP, dS_eS, int_i, Option.ite_none_right_eq_some, Option.some.injEq] at hg
  obtain ⟨hin, rfl⟩ := hg
  have h1 := inS_iff.1 hin
  have hl := hs.cs.1
  simp only [LIM] at hl
  have hr : i64 (i - 2) := ⟨by omega, by omega⟩
  have hr' := rng64.2 hr
  simp only [tree_trail_settable, go_need, go_br, go_leaf, go_back, allSay, X.says, X.ev, X.evs, evl, tblS, List.getD_cons_zero, List.getD_cons_succ, List.getElem?_cons_zero, List.getElem?_cons_succ, tt_b, int_i, str_s, rs_r, Option.isSome_some, Option.getD_some, decide_eq_true_eq, decide_eq_false_iff_not, dS_eS, dC_eC, dU_eU, dW_eW, dY_eY, eC_0, eC_1, eU_0, eU_1, eW_0, eW_1, eW_2, eY_0, eY_1, eS_0, eS_1, eS_2, eS_3, eS_4, eS_5, List.length_map, i_inj, b_inj, s_inj, eC_eq, eU_eq, eW_eq, eY_eq, eS_eq, rng64, List.take_succ_cons, List.take_zero, List.nil_append, List.cons_append, decide_true, decide_false, Bool.or_true, true_and, and_true, cell_get hin, h1, hr, settP, behind, eC_mk]
  have e0 : (D.a [.i 0, .i i]) = eC ⟨0, i⟩ := rfl
  by_cases h2 : 2 ≤ i
  · have hin2 : inS s (i - 2) = true := inS_iff.2 ⟨by omega, by omega⟩
    have q1 : 0 ≤ i - 2 := by omega
    have q2 : i - 2 < s.cs.length := by omega
    simp only [cell_get hin2, h2, q1, q2, eC_0, i_inj, hr']
    by_cases c0 : (cellAt s i).t = 0
    · have : (cellAt s i = ⟨0, i⟩) = ((cellAt s i).n = i) := propext ⟨fun e => by rw [e], fun e => Ce.ext' c0 e⟩
      simp [c0, this]
    · by_cases c5 : (cellAt s i).t = 5
      · simp [c5]
      · by_cases c1 : (cellAt s i).t = 1
        · simp [c1]
        · by_cases c2 : (cellAt s i).t = 2
          · simp [c2]
          · by_cases c3 : (cellAt s i).t = 3
            · simp [c3]
            · simp [c0, c1, c2, c3, c5]
  · simp only [h2]
    by_cases c0 : (cellAt s i).t = 0
    · have : (cellAt s i = ⟨0, i⟩) = ((cellAt s i).n = i) := propext ⟨fun e => by rw [e], fun e => Ce.ext' c0 e⟩
      simp [c0, this]
    · by_cases c5 : (cellAt s i).t = 5
      · simp [c5]
      · by_cases c1 : (cellAt s i).t = 1
        · simp [c1]
        · by_cases c2 : (cellAt s i).t = 2
          · simp [c2]
          · by_cases c3 : (cellAt s i).t = 3
            · simp [c3]
            · simp [c0, c1, c2, c3, c5]
theorem ok_ref31_Settable : FOk ct_ref31_Settable (gSIbP inS settR) := fok_ref31_Settable fun ds outs hw hg => by
  obtain ⟨d, r, rfl, hd, e, r', rfl, he, rfl⟩ := hw
  obtain ⟨s, rfl, hs⟩ := wfS hd
  obtain ⟨i, rfl, hi⟩ := wfI he
  simp only [gSIbP, dS_eS, int_i, Option.ite_none_right_eq_some, Option.some.injEq] at hg
  obtain ⟨hin, rfl⟩ := hg
  have h1 := inS_iff.1 hin
  have hl := hs.cs.1
  simp only [LIM] at hl
  have hr : i64 (i - 2) := ⟨by omega, by omega⟩
  have hr' := rng64.2 hr
  simp only [tree_ref31_Settable, go_need, go_br, go_leaf, go_back, allSay, X.says, X.ev, X.evs, evl, tblS, List.getD_cons_zero, List.getD_cons_succ, List.getElem?_cons_zero, List.getElem?_cons_succ, tt_b, int_i, str_s, rs_r, Option.isSome_some, Option.getD_some, decide_eq_true_eq, decide_eq_false_iff_not, dS_eS, dC_eC, dU_eU, dW_eW, dY_eY, eC_0, eC_1, eU_0, eU_1, eW_0, eW_1, eW_2, eY_0, eY_1, eS_0, eS_1, eS_2, eS_3, eS_4, eS_5, List.length_map, i_inj, b_inj, s_inj, eC_eq, eU_eq, eW_eq, eY_eq, eS_eq, rng64, List.take_succ_cons, List.take_zero, List.nil_append, List.cons_append, decide_true, decide_false, Bool.or_true, true_and, and_true, cell_get hin, h1, hr, settR, behind]
  by_cases h2 : 2 ≤ i
  · have hin2 : inS s (i - 2) = true := inS_iff.2 ⟨by omega, by omega⟩
    have q1 : 0 ≤ i - 2 := by omega
    have q2 : i - 2 < s.cs.length := by omega
    simp only [cell_get hin2, h2, q1, q2, eC_0, i_inj, hr']
    by_cases c0 : (cellAt s i).t = 0
    · simp [c0]
    · by_cases c5 : (cellAt s i).t = 5
      · simp [c5]
      · simp [c0, c5]
  · simp only [h2]
    by_cases c0 : (cellAt s i).t = 0
    · simp [c0]
    · by_cases c5 : (cellAt s i).t = 5
      · simp [c5]
      · simp [c0, c5]

/-- A cell comes to an address. -/
def comesN (s : So) (a : Int) : Nat → Ce → Bool
  | 0, _ => false
  | k + 1, c => if c.t = 0 ∧ inS s c.n = true then (if c.n = a then true else comesN s a k (cellAt s c.n)) else false
def comesB (s : So) (c : Ce) (a : Int) : Bool := comesN s a (s.cs.length + 1) c
theorem comesN_self {s : So} {a : Int} {c : Ce} (h : cellAt s c.n = c) (ha : ¬ c.n = a) : ∀ k, comesN s a k c = false
  | 0 => rfl
  | k + 1 => by
    unfold comesN
    by_cases hc : c.t = 0 ∧ inS s c.n = true
    · rw [if_pos hc, if_neg ha, h]
      exact comesN_self h ha k
    · rw [if_neg hc]
def gSCIb (f : So → Ce → Int → Bool) : List D → Option (List D)
  | [s, c, i] => some [.b (f (dS s) (dC c) i.int)]
  | _ => none
theorem ok_ref31_Comes : FOk ct_ref31_Comes (gSCIb comesB) := fok_ref31_Comes fun ds outs hw hg => by
  obtain ⟨d, r, rfl, hd, e, r', rfl, he, f, r2, rfl, hf, rfl⟩ := hw
  obtain ⟨s, rfl, hs⟩ := wfS hd
  obtain ⟨c0, rfl, hc⟩ := wfC he
  obtain ⟨a, rfl, ha⟩ := wfI hf
  simp only [gSCIb, dS_eS, dC_eC, int_i, Option.some.injEq] at hg
  subst hg
  have hl := hs.cs.1
  simp only [LIM] at hl
  rw [tree_ref31_Comes, go_loop]
  refine ⟨fun st => ∃ (k : Nat) (c : Ce), k ≤ s.cs.length + 1 ∧ st = [.b false, .i k, eC c] ∧ comesN s a (s.cs.length + 1 - k) c = comesB s c0 a, fun st => s.cs.length + 1 - (st.getD 1 .u).int.toNat, ⟨0, c0, Nat.zero_le _, rfl, rfl⟩, ?_⟩
  rintro st - ⟨k, c, hk, rfl, hP⟩
  simp only [go_need, go_br, go_leaf, go_back, allSay, X.says, X.ev, X.evs, evl, tblS, List.getD_cons_zero, List.getD_cons_succ, List.getElem?_cons_zero, List.getElem?_cons_succ, tt_b, int_i, str_s, rs_r, Option.isSome_some, Option.getD_some, decide_eq_true_eq, decide_eq_false_iff_not, dS_eS, dC_eC, dU_eU, dW_eW, dY_eY, eC_0, eC_1, eU_0, eU_1, eW_0, eW_1, eW_2, eY_0, eY_1, eS_0, eS_1, eS_2, eS_3, eS_4, eS_5, List.length_map, i_inj, b_inj, s_inj, eC_eq, eU_eq, eW_eq, eY_eq, eS_eq, rng64, List.take_succ_cons, List.take_zero, List.nil_append, List.cons_append, decide_true, decide_false, Bool.or_true, true_and, and_true]
  have hcond : (decide ((k : Int) ≤ s.cs.length) && decide (c.t = 0) && decide (0 ≤ c.n) && decide (c.n < s.cs.length)) = (decide (k ≤ s.cs.length) && (decide (c.t = 0) && inS s c.n)) := by
    have : decide ((k : Int) ≤ s.cs.length) = decide (k ≤ s.cs.length) := by simp
    rw [this, inS, Bool.and_assoc, Bool.and_assoc]
  rw [hcond]
  refine ⟨fun hx => ?_, fun hx => ?_⟩
  · simp only [Bool.and_eq_true, decide_eq_true_eq] at hx
    obtain ⟨hkl, h0, hin⟩ := hx
    have h1 := inS_iff.1 hin
    have hr : i64 ((k : Int) + 1) := ⟨by omega, by omega⟩
    obtain ⟨n, hn⟩ : ∃ n, s.cs.length + 1 - k = n + 1 := ⟨s.cs.length - k, by omega⟩
    rw [hn] at hP
    unfold comesN at hP
    rw [if_pos ⟨h0, hin⟩] at hP
    simp only [cell_get hin]
    refine ⟨fun hy => ?_, fun hy => ⟨h1, hr, ?_⟩⟩
    · rw [if_pos hy] at hP
      rw [hP]
    · rw [if_neg hy] at hP
      rw [updB, if_pos rfl]
      refine ⟨⟨k + 1, cellAt s c.n, by omega, by simp, by rw [show s.cs.length + 1 - (k + 1) = n by omega]; exact hP⟩, ?_⟩
      simp [D.int]
      omega
  · rw [← hP]
    by_cases hkl : k ≤ s.cs.length
    · obtain ⟨n, hn⟩ : ∃ n, s.cs.length + 1 - k = n + 1 := ⟨s.cs.length - k, by omega⟩
      rw [hn]
      unfold comesN
      rw [if_neg]
      intro h
      simp [hkl, h.1, h.2] at hx
    · rw [show s.cs.length + 1 - k = 0 by omega]
      rfl
theorem ok_trail_comes : FOk ct_trail_comes (gSCIb comesB) := fok_trail_comes ok_trail_in fun ds outs hw hg => by
  obtain ⟨d, r, rfl, hd, e, r', rfl, he, f, r2, rfl, hf, rfl⟩ := hw
  obtain ⟨s, rfl, hs⟩ := wfS hd
  obtain ⟨c0, rfl, hc⟩ := wfC he
  obtain ⟨a, rfl, ha⟩ := wfI hf
  simp only [gSCIb, dS_eS, dC_eC, int_i, Option.some.injEq] at hg
  subst hg
  have hl := hs.cs.1
  simp only [LIM] at hl
  rw [tree_trail_comes, go_need]
  refine ⟨by simp only [go_need, go_br, go_leaf, go_back, allSay, X.says, X.ev, X.evs, evl, tblS, List.getD_cons_zero, List.getD_cons_succ, List.getElem?_cons_zero, List.getElem?_cons_succ, tt_b, int_i, str_s, rs_r, Option.isSome_some, Option.getD_some, decide_eq_true_eq, decide_eq_false_iff_not, dS_eS, dC_eC, dU_eU, dW_eW, dY_eY, eC_0, eC_1, eU_0, eU_1, eW_0, eW_1, eW_2, eY_0, eY_1, eS_0, eS_1, eS_2, eS_3, eS_4, eS_5, List.length_map, i_inj, b_inj, s_inj, eC_eq, eU_eq, eW_eq, eY_eq, eS_eq, rng64, List.take_succ_cons, List.take_zero, List.nil_append, List.cons_append, decide_true, decide_false, Bool.or_true, true_and, and_true]; omega, ?_⟩
  rw [go_loop]
  refine ⟨fun st => ∃ (k : Nat) (c : Ce), k ≤ s.cs.length + 1 ∧ st = [.b false, .i k, eC c] ∧ comesN s a (s.cs.length + 1 - k) c = comesB s c0 a, fun st => s.cs.length + 1 - (st.getD 1 .u).int.toNat, ⟨0, c0, Nat.zero_le _, rfl, rfl⟩, ?_⟩
  rintro st - ⟨k, c, hk, rfl, hP⟩
  simp only [go_need, go_br, go_leaf, go_back, allSay, X.says, X.ev, X.evs, evl, tblS, List.getD_cons_zero, List.getD_cons_succ, List.getElem?_cons_zero, List.getElem?_cons_succ, tt_b, int_i, str_s, rs_r, Option.isSome_some, Option.getD_some, decide_eq_true_eq, decide_eq_false_iff_not, dS_eS, dC_eC, dU_eU, dW_eW, dY_eY, eC_0, eC_1, eU_0, eU_1, eW_0, eW_1, eW_2, eY_0, eY_1, eS_0, eS_1, eS_2, eS_3, eS_4, eS_5, List.length_map, i_inj, b_inj, s_inj, eC_eq, eU_eq, eW_eq, eY_eq, eS_eq, rng64, List.take_succ_cons, List.take_zero, List.nil_append, List.cons_append, decide_true, decide_false, Bool.or_true, true_and, and_true, gSIb]
  refine ⟨fun hlt => ?_, fun hlt => ?_⟩
  · have hkl : k ≤ s.cs.length := by omega
    have hr : i64 ((k : Int) + 1) := ⟨by omega, by omega⟩
    obtain ⟨n, hn⟩ : ∃ n, s.cs.length + 1 - k = n + 1 := ⟨s.cs.length - k, by omega⟩
    rw [hn] at hP
    unfold comesN at hP
    refine ⟨fun hx => ?_, fun hx => ?_⟩
    · rw [if_neg] at hP
      · rw [← hP]
      · intro h
        simp [h.1, h.2] at hx
    · have hx' : c.t = 0 ∧ inS s c.n = true := by simpa using hx
      have h1 := inS_iff.1 hx'.2
      rw [if_pos hx'] at hP
      simp only [cell_get hx'.2, eC_eq]
      refine ⟨fun hy => ?_, fun hy => ⟨h1, fun hz => ?_, fun hz => ⟨hr, ?_⟩⟩⟩
      · rw [if_pos hy] at hP
        rw [hP]
      · rw [if_neg hy, hz, comesN_self hz hy] at hP
        rw [← hP]
      · rw [if_neg hy] at hP
        rw [updB, if_pos rfl]
        refine ⟨⟨k + 1, cellAt s c.n, by omega, by simp, by rw [show s.cs.length + 1 - (k + 1) = n by omega]; exact hP⟩, ?_⟩
        simp [D.int]
        omega
  · rw [← hP, show s.cs.length + 1 - k = 0 by omega]
    rfl

/-! ### Set -/
def setOk (vc : So → Ce → Bool) (st : So → Int → Bool) (s : So) (a : Int) (c : Ce) : Bool := inS s a && (vc s c && (st s a && !comesB s (keptC c) a))
def setS (s : So) (a : Int) (c : Ce) : So := { s with cs := s.cs.set a.toNat (keptC c), tr := s.tr ++ [⟨a, cellAt s a⟩] }
def gSet (vc : So → Ce → Bool) (st : So → Int → Bool) : List D → Option (List D)
  | [s, a, c] => if setOk vc st (dS s) a.int (dC c) then (if decide ((dS s).tr.length < 34359738368) then some [.i 0, eS (setS (dS s) a.int (dC c))] else none) else some [.i 1, eS (dS s)]
  | _ => none
theorem setS_eq {s : So} {a : Int} {c : Ce} : D.a ((D.a ((eS s).fs.set 2 (.r (s.tr.map eU ++ [.a [.i a, eC (cellAt s a)]])))).fs.set 0 (.r ((s.cs.map eC).set a.toNat (eC (keptC c))))) = eS (setS s a c) := by
  simp [setS, eS, D.fs, eU, List.map_set]
theorem fld_s2 {s : So} {x : D} : (D.a ((eS s).fs.set 2 x)).fld 0 = .r (s.cs.map eC) := rfl
theorem ok_trail_Set : FOk ct_trail_Set (gSet vcP settP) := fok_trail_Set ok_trail_in ok_cells_ValidCell ok_trail_settable ok_trail_kept ok_trail_comes fun ds outs hw hg => by
  obtain ⟨d, r, rfl, hd, e, r', rfl, he, f, r2, rfl, hf, rfl⟩ := hw
  obtain ⟨s, rfl, hs⟩ := wfS hd
  obtain ⟨a, rfl, ha⟩ := wfI he
  obtain ⟨c, rfl, hc⟩ := wfC hf
  simp only [gSet, dS_eS, dC_eC, int_i] at hg
  simp only [tree_trail_Set, go_need, go_br, go_leaf, go_back, allSay, X.says, X.ev, X.evs, evl, tblS, List.getD_cons_zero, List.getD_cons_succ, List.getElem?_cons_zero, List.getElem?_cons_succ, tt_b, int_i, str_s, rs_r, Option.isSome_some, Option.getD_some, decide_eq_true_eq, decide_eq_false_iff_not, dS_eS, dC_eC, dU_eU, dW_eW, dY_eY, eC_0, eC_1, eU_0, eU_1, eW_0, eW_1, eW_2, eY_0, eY_1, eS_0, eS_1, eS_2, eS_3, eS_4, eS_5, List.length_map, i_inj, b_inj, s_inj, eC_eq, eU_eq, eW_eq, eY_eq, eS_eq, rng64, List.take_succ_cons, List.take_zero, List.nil_append, List.cons_append, decide_true, decide_false, Bool.or_true, true_and, and_true, gSIb, gSCb, gSIbP, gKept, gSCIb, Option.isSome_some, Option.getD_some]
  cases hin : inS s a with
  | false =>
    have : setOk vcP settP s a c = false := by simp [setOk, hin]
    simp only [this, Bool.false_eq_true, if_false, Option.some.injEq] at hg
    subst hg
    simp
  | true =>
    have h1 := inS_iff.1 hin
    cases hv : vcP s c with
    | false =>
      have : setOk vcP settP s a c = false := by simp [setOk, hv]
      simp only [this, Bool.false_eq_true, if_false, Option.some.injEq] at hg
      subst hg
      simp
    | true =>
      cases ht : settP s a with
      | false =>
        have : setOk vcP settP s a c = false := by simp [setOk, ht]
        simp only [this, Bool.false_eq_true, if_false, Option.some.injEq] at hg
        subst hg
        simp [tt_b, ht]
      | true =>
        cases hco : comesB s (keptC c) a with
        | true =>
          have : setOk vcP settP s a c = false := by simp [setOk, hco]
          simp only [this, Bool.false_eq_true, if_false, Option.some.injEq] at hg
          subst hg
          simp [tt_b, ht]
        | false =>
          have : setOk vcP settP s a c = true := by simp [setOk, hin, hv, ht, hco]
          simp only [this, if_true, Option.ite_none_right_eq_some, Option.some.injEq, decide_eq_true_eq] at hg
          obtain ⟨hlt, rfl⟩ := hg
          simp only [cell_get hin, fld_s2, rs_r, List.length_map, setS_eq]
          simp [tt_b, ht, h1]
          omega
theorem ok_ref31_Set : FOk ct_ref31_Set (gSet vcR settR) := fok_ref31_Set ok_ref30_ValidCell ok_ref31_Settable ok_ref30_Kept ok_ref31_Comes fun ds outs hw hg => by
  obtain ⟨d, r, rfl, hd, e, r', rfl, he, f, r2, rfl, hf, rfl⟩ := hw
  obtain ⟨s, rfl, hs⟩ := wfS hd
  obtain ⟨a, rfl, ha⟩ := wfI he
  obtain ⟨c, rfl, hc⟩ := wfC hf
  simp only [gSet, dS_eS, dC_eC, int_i] at hg
  have hcond : (decide (a < 0) || decide ((s.cs.length : Int) ≤ a)) = !inS s a := by
    cases hin : inS s a with
    | true =>
      have h1 := inS_iff.1 hin
      have h2 : ¬ a < 0 := by omega
      have h3 : ¬ (s.cs.length : Int) ≤ a := by omega
      simp [h2, h3]
    | false =>
      have h1 : ¬ (0 ≤ a ∧ a < s.cs.length) := fun q => by rw [inS_iff.2 q] at hin; cases hin
      simp
      omega
  simp only [tree_ref31_Set, go_need, go_br, go_leaf, go_back, allSay, X.says, X.ev, X.evs, evl, tblS, List.getD_cons_zero, List.getD_cons_succ, List.getElem?_cons_zero, List.getElem?_cons_succ, tt_b, int_i, str_s, rs_r, Option.isSome_some, Option.getD_some, decide_eq_true_eq, decide_eq_false_iff_not, dS_eS, dC_eC, dU_eU, dW_eW, dY_eY, eC_0, eC_1, eU_0, eU_1, eW_0, eW_1, eW_2, eY_0, eY_1, eS_0, eS_1, eS_2, eS_3, eS_4, eS_5, List.length_map, i_inj, b_inj, s_inj, eC_eq, eU_eq, eW_eq, eY_eq, eS_eq, rng64, List.take_succ_cons, List.take_zero, List.nil_append, List.cons_append, decide_true, decide_false, Bool.or_true, true_and, and_true, gSIb, gSCb, gSIbP, gKept, gSCIb, Option.isSome_some, Option.getD_some, hcond]
  cases hin : inS s a with
  | false =>
    have : setOk vcR settR s a c = false := by simp [setOk, hin]
    simp only [this, Bool.false_eq_true, if_false, Option.some.injEq] at hg
    subst hg
    simp
  | true =>
    have h1 := inS_iff.1 hin
    cases hv : vcR s c with
    | false =>
      have : setOk vcR settR s a c = false := by simp [setOk, hv]
      simp only [this, Bool.false_eq_true, if_false, Option.some.injEq] at hg
      subst hg
      simp
    | true =>
      cases ht : settR s a with
      | false =>
        have : setOk vcR settR s a c = false := by simp [setOk, ht]
        simp only [this, Bool.false_eq_true, if_false, Option.some.injEq] at hg
        subst hg
        simp [tt_b, ht]
      | true =>
        cases hco : comesB s (keptC c) a with
        | true =>
          have : setOk vcR settR s a c = false := by simp [setOk, hco]
          simp only [this, Bool.false_eq_true, if_false, Option.some.injEq] at hg
          subst hg
          simp [tt_b, ht]
        | false =>
          have : setOk vcR settR s a c = true := by simp [setOk, hin, hv, ht, hco]
          simp only [this, if_true, Option.ite_none_right_eq_some, Option.some.injEq, decide_eq_true_eq] at hg
          obtain ⟨hlt, rfl⟩ := hg
          simp only [cell_get hin, fld_s2, rs_r, List.length_map, setS_eq]
          simp [tt_b, ht, h1]
          omega
end Go.Proofs.Ytcjapglipkmbhaa

namespace Go.Proofs.Ytcjapglipkmbhaa
open Go.RowKit
set_option linter.unusedVariables false
set_option linter.unusedSimpArgs false

def markedB (s : So) (m t : Int) : Bool := decide (0 ≤ m) && (decide (m ≤ s.tr.length) && (decide (0 ≤ t) && decide (t ≤ s.cs.length)))
def gSIIb (f : So → Int → Int → Bool) : List D → Option (List D)
  | [s, m, t] => some [.b (f (dS s) m.int t.int)]
  | _ => none
theorem ok_trail_marked : FOk ct_trail_marked (gSIIb markedB) := fok_trail_marked fun ds outs hw hg => by
  obtain ⟨d, r, rfl, hd, e, r', rfl, he, f, r2, rfl, hf, rfl⟩ := hw
  obtain ⟨s, rfl, hs⟩ := wfS hd
  obtain ⟨m, rfl, hm⟩ := wfI he
  obtain ⟨t, rfl, ht⟩ := wfI hf
  simp only [gSIIb, dS_eS, int_i, Option.some.injEq] at hg
  subst hg
  simp only [tree_trail_marked, go_need, go_br, go_leaf, go_back, allSay, X.says, X.ev, X.evs, evl, tblS, List.getD_cons_zero, List.getD_cons_succ, List.getElem?_cons_zero, List.getElem?_cons_succ, tt_b, int_i, str_s, rs_r, Option.isSome_some, Option.getD_some, decide_eq_true_eq, decide_eq_false_iff_not, dS_eS, dC_eC, dU_eU, dW_eW, dY_eY, eC_0, eC_1, eU_0, eU_1, eW_0, eW_1, eW_2, eY_0, eY_1, eS_0, eS_1, eS_2, eS_3, eS_4, eS_5, List.length_map, i_inj, b_inj, s_inj, eC_eq, eU_eq, eW_eq, eY_eq, eS_eq, rng64, List.take_succ_cons, List.take_zero, List.nil_append, List.cons_append, decide_true, decide_false, Bool.or_true, true_and, and_true, markedB, Bool.and_assoc]
theorem ok_ref31_within : FOk ct_ref31_within (gSIIb markedB) := fok_ref31_within fun ds outs hw hg => by
  obtain ⟨d, r, rfl, hd, e, r', rfl, he, f, r2, rfl, hf, rfl⟩ := hw
  obtain ⟨s, rfl, hs⟩ := wfS hd
  obtain ⟨m, rfl, hm⟩ := wfI he
  obtain ⟨t, rfl, ht⟩ := wfI hf
  simp only [gSIIb, dS_eS, int_i, Option.some.injEq] at hg
  subst hg
  simp only [tree_ref31_within, go_need, go_br, go_leaf, go_back, allSay, X.says, X.ev, X.evs, evl, tblS, List.getD_cons_zero, List.getD_cons_succ, List.getElem?_cons_zero, List.getElem?_cons_succ, tt_b, int_i, str_s, rs_r, Option.isSome_some, Option.getD_some, decide_eq_true_eq, decide_eq_false_iff_not, dS_eS, dC_eC, dU_eU, dW_eW, dY_eY, eC_0, eC_1, eU_0, eU_1, eW_0, eW_1, eW_2, eY_0, eY_1, eS_0, eS_1, eS_2, eS_3, eS_4, eS_5, List.length_map, i_inj, b_inj, s_inj, eC_eq, eU_eq, eW_eq, eY_eq, eS_eq, rng64, List.take_succ_cons, List.take_zero, List.nil_append, List.cons_append, decide_true, decide_false, Bool.or_true, true_and, and_true, markedB, Bool.and_assoc]

def putU (u : Un) (cs : List Ce) : List Ce := if 0 ≤ u.at' ∧ u.at' < cs.length then cs.set u.at'.toNat u.old else cs
/-- The last one first. -/
def undoC (cs : List Ce) (l : List Un) : List Ce := l.foldr putU cs
theorem putU_len (u : Un) (cs : List Ce) : (putU u cs).length = cs.length := by
  unfold putU
  split <;> simp
theorem undoC_len (cs : List Ce) : ∀ l, (undoC cs l).length = cs.length
  | [] => rfl
  | u :: l => (putU_len _ _).trans (undoC_len cs l)
theorem drop_get {α : Type} [Inhabited α] {l : List α} {k : Nat} (h : k < l.length) : l.drop k = l.getD k default :: l.drop (k + 1) := by
  rw [List.drop_eq_getElem_cons h]
  simp [List.getD_eq_getElem?_getD, h]
def undoS (s : So) (m t : Int) : So := { s with cs := (undoC s.cs (s.tr.drop m.toNat)).take t.toNat, tr := s.tr.take m.toNat }
def gUndo : List D → Option (List D)
  | [s, m, t] => if markedB (dS s) m.int t.int then some [.i 0, eS (undoS (dS s) m.int t.int)] else some [.i 1, eS (dS s)]
  | _ => none
theorem put_eq {s : So} {cs : List Ce} {u : Un} (h : 0 ≤ u.at' ∧ u.at' < cs.length) : D.a ((eS { s with cs := cs }).fs.set 0 (.r ((cs.map eC).set u.at'.toNat (eC u.old)))) = eS { s with cs := putU u cs } := by
  simp [putU, h, eS, D.fs, List.map_set]
theorem markedB_iff {s : So} {m t : Int} : markedB s m t = true ↔ 0 ≤ m ∧ m ≤ s.tr.length ∧ 0 ≤ t ∧ t ≤ s.cs.length := by simp [markedB]
theorem ok_trail_Undo : FOk ct_trail_Undo gUndo := fok_trail_Undo ok_trail_marked ok_trail_in fun ds outs hw hg => by
  obtain ⟨d, r, rfl, hd, e, r', rfl, he, f, r2, rfl, hf, rfl⟩ := hw
  obtain ⟨s, rfl, hs⟩ := wfS hd
  obtain ⟨m, rfl, hm⟩ := wfI he
  obtain ⟨t, rfl, ht⟩ := wfI hf
  simp only [gUndo, dS_eS, int_i] at hg
  rw [tree_trail_Undo, go_need]
  refine ⟨by simp only [go_need, go_br, go_leaf, go_back, allSay, X.says, X.ev, X.evs, evl, tblS, List.getD_cons_zero, List.getD_cons_succ, List.getElem?_cons_zero, List.getElem?_cons_succ, tt_b, int_i, str_s, rs_r, Option.isSome_some, Option.getD_some, decide_eq_true_eq, decide_eq_false_iff_not, dS_eS, dC_eC, dU_eU, dW_eW, dY_eY, eC_0, eC_1, eU_0, eU_1, eW_0, eW_1, eW_2, eY_0, eY_1, eS_0, eS_1, eS_2, eS_3, eS_4, eS_5, List.length_map, i_inj, b_inj, s_inj, eC_eq, eU_eq, eW_eq, eY_eq, eS_eq, rng64, List.take_succ_cons, List.take_zero, List.nil_append, List.cons_append, decide_true, decide_false, Bool.or_true, true_and, and_true, gSIIb], ?_⟩
  rw [go_br]
  cases hk : markedB s m t with
  | false =>
    simp only [hk, Bool.false_eq_true, if_false, Option.some.injEq] at hg
    subst hg
    refine ⟨fun _ => by simp only [go_need, go_br, go_leaf, go_back, allSay, X.says, X.ev, X.evs, evl, tblS, List.getD_cons_zero, List.getD_cons_succ, List.getElem?_cons_zero, List.getElem?_cons_succ, tt_b, int_i, str_s, rs_r, Option.isSome_some, Option.getD_some, decide_eq_true_eq, decide_eq_false_iff_not, dS_eS, dC_eC, dU_eU, dW_eW, dY_eY, eC_0, eC_1, eU_0, eU_1, eW_0, eW_1, eW_2, eY_0, eY_1, eS_0, eS_1, eS_2, eS_3, eS_4, eS_5, List.length_map, i_inj, b_inj, s_inj, eC_eq, eU_eq, eW_eq, eY_eq, eS_eq, rng64, List.take_succ_cons, List.take_zero, List.nil_append, List.cons_append, decide_true, decide_false, Bool.or_true, true_and, and_true, gSIIb], fun h => ?_⟩
    simp [X.ev, X.evs, evl, tblS, gSIIb, dS_eS, int_i, hk, D.tt] at h
  | true =>
    simp only [hk, if_true, Option.some.injEq] at hg
    subst hg
    refine ⟨fun h => ?_, fun _ => ?_⟩
    · simp [X.ev, X.evs, evl, tblS, gSIIb, dS_eS, int_i, hk, D.tt] at h
    obtain ⟨q1, q2, q3, q4⟩ := markedB_iff.1 hk
    rw [go_need]
    refine ⟨by simp only [go_need, go_br, go_leaf, go_back, allSay, X.says, X.ev, X.evs, evl, tblS, List.getD_cons_zero, List.getD_cons_succ, List.getElem?_cons_zero, List.getElem?_cons_succ, tt_b, int_i, str_s, rs_r, Option.isSome_some, Option.getD_some, decide_eq_true_eq, decide_eq_false_iff_not, dS_eS, dC_eC, dU_eU, dW_eW, dY_eY, eC_0, eC_1, eU_0, eU_1, eW_0, eW_1, eW_2, eY_0, eY_1, eS_0, eS_1, eS_2, eS_3, eS_4, eS_5, List.length_map, i_inj, b_inj, s_inj, eC_eq, eU_eq, eW_eq, eY_eq, eS_eq, rng64, List.take_succ_cons, List.take_zero, List.nil_append, List.cons_append, decide_true, decide_false, Bool.or_true, true_and, and_true]; exact ⟨q1, q2⟩, ?_⟩
    have ecut : ((s.tr.map eU).take ((s.tr.length : Nat) : Int).toNat).drop m.toNat = (s.tr.drop m.toNat).map eU := by
      rw [List.take_of_length_le (by simp), List.map_drop]
    have hll : (s.tr.drop m.toNat).length ≤ s.tr.length := by simp
    have hl := hs.tr.1
    simp only [LIM] at hl
    rw [go_loop]
    generalize hL : s.tr.drop m.toNat = L at ecut hll
    refine ⟨fun st => ∃ k : Nat, k ≤ L.length ∧ st = [eS { s with cs := undoC s.cs (L.drop k) }, .i ((k : Int) - 1)], fun st => ((st.getD 1 .u).int + 1).toNat, ⟨L.length, Nat.le_refl _, ?_⟩, ?_⟩
    · simp only [go_need, go_br, go_leaf, go_back, allSay, X.says, X.ev, X.evs, evl, tblS, List.getD_cons_zero, List.getD_cons_succ, List.getElem?_cons_zero, List.getElem?_cons_succ, tt_b, int_i, str_s, rs_r, Option.isSome_some, Option.getD_some, decide_eq_true_eq, decide_eq_false_iff_not, dS_eS, dC_eC, dU_eU, dW_eW, dY_eY, eC_0, eC_1, eU_0, eU_1, eW_0, eW_1, eW_2, eY_0, eY_1, eS_0, eS_1, eS_2, eS_3, eS_4, eS_5, List.length_map, i_inj, b_inj, s_inj, eC_eq, eU_eq, eW_eq, eY_eq, eS_eq, rng64, List.take_succ_cons, List.take_zero, List.nil_append, List.cons_append, decide_true, decide_false, Bool.or_true, true_and, and_true, ecut]
      simp [undoC]
    rintro st - ⟨k, hkl, rfl⟩
    simp only [go_need, go_br, go_leaf, go_back, allSay, X.says, X.ev, X.evs, evl, tblS, List.getD_cons_zero, List.getD_cons_succ, List.getElem?_cons_zero, List.getElem?_cons_succ, tt_b, int_i, str_s, rs_r, Option.isSome_some, Option.getD_some, decide_eq_true_eq, decide_eq_false_iff_not, dS_eS, dC_eC, dU_eU, dW_eW, dY_eY, eC_0, eC_1, eU_0, eU_1, eW_0, eW_1, eW_2, eY_0, eY_1, eS_0, eS_1, eS_2, eS_3, eS_4, eS_5, List.length_map, i_inj, b_inj, s_inj, eC_eq, eU_eq, eW_eq, eY_eq, eS_eq, rng64, List.take_succ_cons, List.take_zero, List.nil_append, List.cons_append, decide_true, decide_false, Bool.or_true, true_and, and_true, gSIb, ecut]
    refine ⟨fun hlt => ?_, fun hlt => ?_⟩
    · have hk1 : ((k : Int) - 1).toNat = k - 1 := by omega
      have hkn : k - 1 < L.length := by omega
      have hget : (D.r (L.map eU)).get ((k : Int) - 1) = eU (L.getD (k - 1) default) := by
        rw [get_r eU (by omega) (by omega), hk1]
      have hdr : undoC s.cs (L.drop (k - 1)) = putU (L.getD (k - 1) default) (undoC s.cs (L.drop k)) := by
        rw [drop_get hkn, show k - 1 + 1 = k by omega]
        rfl
      simp only [hget, eU_0, eU_1, int_i]
      generalize L.getD (k - 1) default = u at hdr
      refine ⟨fun hin => ?_, fun hin => ?_⟩
      · have h1 := inS_iff.1 hin
        rw [updB, if_pos rfl, put_eq h1, ← hdr]
        refine ⟨⟨h1.1, h1.2⟩, ⟨k - 1, by omega, by simp; omega⟩, ?_⟩
        simp [D.int]
        omega
      · have h1 : ¬ (0 ≤ u.at' ∧ u.at' < (undoC s.cs (L.drop k)).length) := fun q => by
          have : inS { s with cs := undoC s.cs (L.drop k) } u.at' = true := inS_iff.2 q
          rw [this] at hin
          cases hin
        have : putU u (undoC s.cs (L.drop k)) = undoC s.cs (L.drop k) := if_neg h1
        rw [updB, if_pos rfl]
        refine ⟨⟨k - 1, by omega, ?_⟩, ?_⟩
        · rw [hdr, this]
          simp
          omega
        · simp [D.int]
          omega
    · have hk0 : k = 0 := by omega
      subst hk0
      simp only [fld_s2, rs_r, List.length_map, undoC_len, List.drop_zero]
      refine ⟨⟨q1, q2⟩, ⟨q3, q4⟩, ?_⟩
      simp [undoS, eS, D.fs, D.fld, D.rs, hL, List.map_take]
theorem ok_ref31_Undo : FOk ct_ref31_Undo gUndo := fok_ref31_Undo ok_ref31_within fun ds outs hw hg => by
  obtain ⟨d, r, rfl, hd, e, r', rfl, he, f, r2, rfl, hf, rfl⟩ := hw
  obtain ⟨s, rfl, hs⟩ := wfS hd
  obtain ⟨m, rfl, hm⟩ := wfI he
  obtain ⟨t, rfl, ht⟩ := wfI hf
  simp only [gUndo, dS_eS, int_i] at hg
  rw [tree_ref31_Undo, go_need]
  refine ⟨by simp only [go_need, go_br, go_leaf, go_back, allSay, X.says, X.ev, X.evs, evl, tblS, List.getD_cons_zero, List.getD_cons_succ, List.getElem?_cons_zero, List.getElem?_cons_succ, tt_b, int_i, str_s, rs_r, Option.isSome_some, Option.getD_some, decide_eq_true_eq, decide_eq_false_iff_not, dS_eS, dC_eC, dU_eU, dW_eW, dY_eY, eC_0, eC_1, eU_0, eU_1, eW_0, eW_1, eW_2, eY_0, eY_1, eS_0, eS_1, eS_2, eS_3, eS_4, eS_5, List.length_map, i_inj, b_inj, s_inj, eC_eq, eU_eq, eW_eq, eY_eq, eS_eq, rng64, List.take_succ_cons, List.take_zero, List.nil_append, List.cons_append, decide_true, decide_false, Bool.or_true, true_and, and_true, gSIIb], ?_⟩
  rw [go_br]
  cases hk : markedB s m t with
  | false =>
    simp only [hk, Bool.false_eq_true, if_false, Option.some.injEq] at hg
    subst hg
    refine ⟨fun _ => by simp only [go_need, go_br, go_leaf, go_back, allSay, X.says, X.ev, X.evs, evl, tblS, List.getD_cons_zero, List.getD_cons_succ, List.getElem?_cons_zero, List.getElem?_cons_succ, tt_b, int_i, str_s, rs_r, Option.isSome_some, Option.getD_some, decide_eq_true_eq, decide_eq_false_iff_not, dS_eS, dC_eC, dU_eU, dW_eW, dY_eY, eC_0, eC_1, eU_0, eU_1, eW_0, eW_1, eW_2, eY_0, eY_1, eS_0, eS_1, eS_2, eS_3, eS_4, eS_5, List.length_map, i_inj, b_inj, s_inj, eC_eq, eU_eq, eW_eq, eY_eq, eS_eq, rng64, List.take_succ_cons, List.take_zero, List.nil_append, List.cons_append, decide_true, decide_false, Bool.or_true, true_and, and_true, gSIIb], fun h => ?_⟩
    simp [X.ev, X.evs, evl, tblS, gSIIb, dS_eS, int_i, hk, D.tt] at h
  | true =>
    simp only [hk, if_true, Option.some.injEq] at hg
    subst hg
    refine ⟨fun h => ?_, fun _ => ?_⟩
    · simp [X.ev, X.evs, evl, tblS, gSIIb, dS_eS, int_i, hk, D.tt] at h
    obtain ⟨q1, q2, q3, q4⟩ := markedB_iff.1 hk
    have hl := hs.tr.1
    simp only [LIM] at hl
    rw [go_need]
    refine ⟨by simp only [go_need, go_br, go_leaf, go_back, allSay, X.says, X.ev, X.evs, evl, tblS, List.getD_cons_zero, List.getD_cons_succ, List.getElem?_cons_zero, List.getElem?_cons_succ, tt_b, int_i, str_s, rs_r, Option.isSome_some, Option.getD_some, decide_eq_true_eq, decide_eq_false_iff_not, dS_eS, dC_eC, dU_eU, dW_eW, dY_eY, eC_0, eC_1, eU_0, eU_1, eW_0, eW_1, eW_2, eY_0, eY_1, eS_0, eS_1, eS_2, eS_3, eS_4, eS_5, List.length_map, i_inj, b_inj, s_inj, eC_eq, eU_eq, eW_eq, eY_eq, eS_eq, rng64, List.take_succ_cons, List.take_zero, List.nil_append, List.cons_append, decide_true, decide_false, Bool.or_true, true_and, and_true]; omega, ?_⟩
    rw [go_loop]
    refine ⟨fun st => ∃ k : Nat, m ≤ k ∧ k ≤ s.tr.length ∧ st = [.i ((k : Int) - 1), eS { s with cs := undoC s.cs (s.tr.drop k) }], fun st => ((st.getD 0 .u).int + 1).toNat, ⟨s.tr.length, by omega, Nat.le_refl _, ?_⟩, ?_⟩
    · simp only [go_need, go_br, go_leaf, go_back, allSay, X.says, X.ev, X.evs, evl, tblS, List.getD_cons_zero, List.getD_cons_succ, List.getElem?_cons_zero, List.getElem?_cons_succ, tt_b, int_i, str_s, rs_r, Option.isSome_some, Option.getD_some, decide_eq_true_eq, decide_eq_false_iff_not, dS_eS, dC_eC, dU_eU, dW_eW, dY_eY, eC_0, eC_1, eU_0, eU_1, eW_0, eW_1, eW_2, eY_0, eY_1, eS_0, eS_1, eS_2, eS_3, eS_4, eS_5, List.length_map, i_inj, b_inj, s_inj, eC_eq, eU_eq, eW_eq, eY_eq, eS_eq, rng64, List.take_succ_cons, List.take_zero, List.nil_append, List.cons_append, decide_true, decide_false, Bool.or_true, true_and, and_true]
      simp [undoC]
    rintro st - ⟨k, hmk, hkl, rfl⟩
    simp only [go_need, go_br, go_leaf, go_back, allSay, X.says, X.ev, X.evs, evl, tblS, List.getD_cons_zero, List.getD_cons_succ, List.getElem?_cons_zero, List.getElem?_cons_succ, tt_b, int_i, str_s, rs_r, Option.isSome_some, Option.getD_some, decide_eq_true_eq, decide_eq_false_iff_not, dS_eS, dC_eC, dU_eU, dW_eW, dY_eY, eC_0, eC_1, eU_0, eU_1, eW_0, eW_1, eW_2, eY_0, eY_1, eS_0, eS_1, eS_2, eS_3, eS_4, eS_5, List.length_map, i_inj, b_inj, s_inj, eC_eq, eU_eq, eW_eq, eY_eq, eS_eq, rng64, List.take_succ_cons, List.take_zero, List.nil_append, List.cons_append, decide_true, decide_false, Bool.or_true, true_and, and_true]
    refine ⟨fun hlt => ?_, fun hlt => ?_⟩
    · have hk1 : ((k : Int) - 1).toNat = k - 1 := by omega
      have hkn : k - 1 < s.tr.length := by omega
      have hget : (D.r (s.tr.map eU)).get ((k : Int) - 1) = eU (s.tr.getD (k - 1) default) := by
        rw [get_r eU (by omega) (by omega), hk1]
      have hdr : undoC s.cs (s.tr.drop (k - 1)) = putU (s.tr.getD (k - 1) default) (undoC s.cs (s.tr.drop k)) := by
        rw [drop_get hkn, show k - 1 + 1 = k by omega]
        rfl
      simp only [hget, eU_0, eU_1, int_i]
      generalize s.tr.getD (k - 1) default = u at hdr
      refine ⟨⟨by omega, by omega⟩, fun hin => ?_, fun hin => ?_⟩
      · have h1 : 0 ≤ u.at' ∧ u.at' < (undoC s.cs (s.tr.drop k)).length := by simpa using hin
        rw [updB, if_pos rfl, put_eq h1, ← hdr]
        refine ⟨⟨by omega, by omega, h1.1, h1.2⟩, ⟨by omega, by omega⟩, ⟨k - 1, by omega, by omega, by simp; omega⟩, ?_⟩
        simp [D.int]
        omega
      · have h1 : ¬ (0 ≤ u.at' ∧ u.at' < (undoC s.cs (s.tr.drop k)).length) := by
          simp at hin
          omega
        have : putU u (undoC s.cs (s.tr.drop k)) = undoC s.cs (s.tr.drop k) := if_neg h1
        rw [updB, if_pos rfl]
        refine ⟨⟨by omega, by omega⟩, ⟨k - 1, by omega, by omega, ?_⟩, ?_⟩
        · rw [hdr, this]
          simp
          omega
        · simp [D.int]
          omega
    · have hk0 : k = m.toNat := by omega
      subst hk0
      simp only [fld_s2, rs_r, List.length_map, undoC_len]
      refine ⟨⟨q1, q2⟩, ⟨q3, q4⟩, ?_⟩
      simp [undoS, eS, D.fs, D.fld, D.rs, List.map_take]
theorem ok_trail_Undo_n : FOk ct_trail_Undo_n (fun _ => some [.i 1]) := fok_trail_Undo_n (g0 := fun _ => some [.b false]) (fok_trail_marked_n fun ds outs hw hg => by
  simp only [Option.some.injEq] at hg
  subst hg
  simp only [tree_trail_marked_n, go_need, go_br, go_leaf, go_back, allSay, X.says, X.ev, X.evs, evl, tblS, List.getD_cons_zero, List.getD_cons_succ, List.getElem?_cons_zero, List.getElem?_cons_succ, tt_b, int_i, str_s, rs_r, Option.isSome_some, Option.getD_some, decide_eq_true_eq, decide_eq_false_iff_not, dS_eS, dC_eC, dU_eU, dW_eW, dY_eY, eC_0, eC_1, eU_0, eU_1, eW_0, eW_1, eW_2, eY_0, eY_1, eS_0, eS_1, eS_2, eS_3, eS_4, eS_5, List.length_map, i_inj, b_inj, s_inj, eC_eq, eU_eq, eW_eq, eY_eq, eS_eq, rng64, List.take_succ_cons, List.take_zero, List.nil_append, List.cons_append, decide_true, decide_false, Bool.or_true, true_and, and_true]) (FOk.none enter_trail_in_n) fun ds outs hw hg => by
  simp only [Option.some.injEq] at hg
  subst hg
  simp only [tree_trail_Undo_n, go_need, go_br, go_leaf, go_back, allSay, X.says, X.ev, X.evs, evl, tblS, List.getD_cons_zero, List.getD_cons_succ, List.getElem?_cons_zero, List.getElem?_cons_succ, tt_b, int_i, str_s, rs_r, Option.isSome_some, Option.getD_some, decide_eq_true_eq, decide_eq_false_iff_not, dS_eS, dC_eC, dU_eU, dW_eW, dY_eY, eC_0, eC_1, eU_0, eU_1, eW_0, eW_1, eW_2, eY_0, eY_1, eS_0, eS_1, eS_2, eS_3, eS_4, eS_5, List.length_map, i_inj, b_inj, s_inj, eC_eq, eU_eq, eW_eq, eY_eq, eS_eq, rng64, List.take_succ_cons, List.take_zero, List.nil_append, List.cons_append, decide_true, decide_false, Bool.or_true, true_and, and_true]
  simp

/-! ### The reference's Tidy -/
/-- The elements that are kept. -/
def keepL (m t : Int) : Nat → List Un → List Un
  | _, [] => []
  | k, u :: l => if (k : Int) < m ∨ u.at' < t then u :: keepL m t (k + 1) l else keepL m t (k + 1) l
theorem keepL_app (m t : Int) : ∀ (k : Nat) (l r : List Un), keepL m t k (l ++ r) = keepL m t k l ++ keepL m t (k + l.length) r
  | k, [], r => by simp [keepL]
  | k, u :: l, r => by
    simp only [List.cons_append, keepL, keepL_app m t (k + 1) l r, List.length_cons, show k + 1 + l.length = k + (l.length + 1) by omega]
    split <;> rfl
theorem keepL_len (m t : Int) : ∀ (k : Nat) (l : List Un), (keepL m t k l).length ≤ l.length
  | k, [] => Nat.le_refl _
  | k, u :: l => by
    have := keepL_len m t (k + 1) l
    unfold keepL
    split <;> simp <;> omega
def tidyS (s : So) (m t : Int) : So := { s with tr := keepL m t 0 s.tr }
def gTidy : List D → Option (List D)
  | [s, m, t] => if markedB (dS s) m.int t.int then (if decide ((dS s).tr.length ≤ 34359738368) then some [.i 0, eS (tidyS (dS s) m.int t.int)] else none) else some [.i 1, eS (dS s)]
  | _ => none
theorem ok_ref31_Tidy : FOk ct_ref31_Tidy gTidy := fok_ref31_Tidy ok_ref31_within fun ds outs hw hg => by
  obtain ⟨d, r, rfl, hd, e, r', rfl, he, f, r2, rfl, hf, rfl⟩ := hw
  obtain ⟨s, rfl, hs⟩ := wfS hd
  obtain ⟨m, rfl, hm⟩ := wfI he
  obtain ⟨t, rfl, ht⟩ := wfI hf
  simp only [gTidy, dS_eS, int_i] at hg
  rw [tree_ref31_Tidy, go_need]
  refine ⟨by simp only [go_need, go_br, go_leaf, go_back, allSay, X.says, X.ev, X.evs, evl, tblS, List.getD_cons_zero, List.getD_cons_succ, List.getElem?_cons_zero, List.getElem?_cons_succ, tt_b, int_i, str_s, rs_r, Option.isSome_some, Option.getD_some, decide_eq_true_eq, decide_eq_false_iff_not, dS_eS, dC_eC, dU_eU, dW_eW, dY_eY, eC_0, eC_1, eU_0, eU_1, eW_0, eW_1, eW_2, eY_0, eY_1, eS_0, eS_1, eS_2, eS_3, eS_4, eS_5, List.length_map, i_inj, b_inj, s_inj, eC_eq, eU_eq, eW_eq, eY_eq, eS_eq, rng64, List.take_succ_cons, List.take_zero, List.nil_append, List.cons_append, decide_true, decide_false, Bool.or_true, true_and, and_true, gSIIb], ?_⟩
  rw [go_br]
  cases hk : markedB s m t with
  | false =>
    simp only [hk, Bool.false_eq_true, if_false, Option.some.injEq] at hg
    subst hg
    refine ⟨fun _ => by simp only [go_need, go_br, go_leaf, go_back, allSay, X.says, X.ev, X.evs, evl, tblS, List.getD_cons_zero, List.getD_cons_succ, List.getElem?_cons_zero, List.getElem?_cons_succ, tt_b, int_i, str_s, rs_r, Option.isSome_some, Option.getD_some, decide_eq_true_eq, decide_eq_false_iff_not, dS_eS, dC_eC, dU_eU, dW_eW, dY_eY, eC_0, eC_1, eU_0, eU_1, eW_0, eW_1, eW_2, eY_0, eY_1, eS_0, eS_1, eS_2, eS_3, eS_4, eS_5, List.length_map, i_inj, b_inj, s_inj, eC_eq, eU_eq, eW_eq, eY_eq, eS_eq, rng64, List.take_succ_cons, List.take_zero, List.nil_append, List.cons_append, decide_true, decide_false, Bool.or_true, true_and, and_true, gSIIb], fun h => ?_⟩
    simp [X.ev, X.evs, evl, tblS, gSIIb, dS_eS, int_i, hk, D.tt] at h
  | true =>
    simp only [hk, if_true, Option.ite_none_right_eq_some, Option.some.injEq, decide_eq_true_eq] at hg
    obtain ⟨hl, rfl⟩ := hg
    refine ⟨fun h => ?_, fun _ => ?_⟩
    · simp [X.ev, X.evs, evl, tblS, gSIIb, dS_eS, int_i, hk, D.tt] at h
    rw [go_loop]
    refine ⟨fun st => ∃ k : Nat, k ≤ s.tr.length ∧ st = [.r ((keepL m t 0 (s.tr.take k)).map eU), .i k], fun st => s.tr.length - (st.getD 1 .u).int.toNat, ⟨0, Nat.zero_le _, by simp [X.evs, X.ev, keepL]⟩, ?_⟩
    rintro st - ⟨k, hkl, rfl⟩
    simp only [go_need, go_br, go_leaf, go_back, allSay, X.says, X.ev, X.evs, evl, tblS, List.getD_cons_zero, List.getD_cons_succ, List.getElem?_cons_zero, List.getElem?_cons_succ, tt_b, int_i, str_s, rs_r, Option.isSome_some, Option.getD_some, decide_eq_true_eq, decide_eq_false_iff_not, dS_eS, dC_eC, dU_eU, dW_eW, dY_eY, eC_0, eC_1, eU_0, eU_1, eW_0, eW_1, eW_2, eY_0, eY_1, eS_0, eS_1, eS_2, eS_3, eS_4, eS_5, List.length_map, i_inj, b_inj, s_inj, eC_eq, eU_eq, eW_eq, eY_eq, eS_eq, rng64, List.take_succ_cons, List.take_zero, List.nil_append, List.cons_append, decide_true, decide_false, Bool.or_true, true_and, and_true]
    refine ⟨fun hlt => ?_, fun hlt => ?_⟩
    · have hkn : k < s.tr.length := by omega
      have h0 : (0 : Int) ≤ k := by omega
      have hlen := keepL_len m t 0 (s.tr.take k)
      rw [List.length_take] at hlen
      have hsn : keepL m t 0 (s.tr.take (k + 1)) = keepL m t 0 (s.tr.take k) ++ keepL m t k [s.tr.getD k default] := by
        rw [take_snoc hkn, keepL_app, List.length_take, Nat.min_eq_left (by omega), Nat.zero_add]
      simp only [get_n eU hkn, eU_0, eU_1, int_i, h0, hlt, decide_true, Bool.or_true, and_true, true_and]
      generalize s.tr.getD k default = u at hsn
      refine ⟨fun hx => ⟨by omega, ⟨by omega, by omega⟩, ?_⟩, fun hx => ⟨⟨by omega, by omega⟩, ?_⟩⟩
      · have hx' : (k : Int) < m ∨ u.at' < t := by simpa using hx
        rw [updB, if_pos rfl]
        refine ⟨⟨k + 1, hkn, ?_⟩, ?_⟩
        · rw [hsn]
          simp [keepL, hx']
        · simp [D.int]
          omega
      · have hx' : ¬ ((k : Int) < m ∨ u.at' < t) := by
          simp at hx
          omega
        rw [updB, if_pos rfl]
        refine ⟨⟨k + 1, hkn, ?_⟩, ?_⟩
        · rw [hsn]
          simp [keepL, hx']
        · simp [D.int]
          omega
    · have : k = s.tr.length := by omega
      subst this
      rw [List.take_length]
      rfl
end Go.Proofs.Ytcjapglipkmbhaa

namespace Go.Proofs.Ytcjapglipkmbhaa
open Go.RowKit
set_option linter.unusedVariables false
set_option linter.unusedSimpArgs false

def smallB (s : So) : Bool := decide (s.cs.length ≤ 300) && (decide (s.ys.length ≤ 100) && (decide (s.tr.length ≤ 300) && decide (s.wk.length ≤ 50)))
theorem ok_law31_small : FOk ct_law31_small (gSb smallB) := fok_law31_small fun ds outs hw hg => by
  obtain ⟨d, r, rfl, hd, rfl⟩ := hw
  obtain ⟨s, rfl, hs⟩ := wfS hd
  simp only [gSb, dS_eS, Option.some.injEq] at hg
  subst hg
  have e1 : ∀ n : Nat, decide ((n : Int) ≤ 300) = decide (n ≤ 300) := fun n => by simp; omega
  have e2 : ∀ n : Nat, decide ((n : Int) ≤ 100) = decide (n ≤ 100) := fun n => by simp; omega
  have e3 : ∀ n : Nat, decide ((n : Int) ≤ 50) = decide (n ≤ 50) := fun n => by simp; omega
  simp only [tree_law31_small, go_need, go_br, go_leaf, go_back, allSay, X.says, X.ev, X.evs, evl, tblS, List.getD_cons_zero, List.getD_cons_succ, List.getElem?_cons_zero, List.getElem?_cons_succ, tt_b, int_i, str_s, rs_r, Option.isSome_some, Option.getD_some, decide_eq_true_eq, decide_eq_false_iff_not, dS_eS, dC_eC, dU_eU, dW_eW, dY_eY, eC_0, eC_1, eU_0, eU_1, eW_0, eW_1, eW_2, eY_0, eY_1, eS_0, eS_1, eS_2, eS_3, eS_4, eS_5, List.length_map, i_inj, b_inj, s_inj, eC_eq, eU_eq, eW_eq, eY_eq, eS_eq, rng64, List.take_succ_cons, List.take_zero, List.nil_append, List.cons_append, decide_true, decide_false, Bool.or_true, true_and, and_true, smallB, Bool.and_assoc, e1, e2, e3]

def gRef : List D → Option (List D)
  | [n] => some [.a [.i 0, n]]
  | _ => none
theorem ok_law31_ref : FOk ct_law31_ref gRef := fok_law31_ref fun ds outs hw hg => by
  obtain ⟨d, r, rfl, hd, rfl⟩ := hw
  simp only [gRef, Option.some.injEq] at hg
  subst hg
  simp only [tree_law31_ref, go_need, go_br, go_leaf, go_back, allSay, X.says, X.ev, X.evs, evl, tblS, List.getD_cons_zero, List.getD_cons_succ, List.getElem?_cons_zero, List.getElem?_cons_succ, tt_b, int_i, str_s, rs_r, Option.isSome_some, Option.getD_some, decide_eq_true_eq, decide_eq_false_iff_not, dS_eS, dC_eC, dU_eU, dW_eW, dY_eY, eC_0, eC_1, eU_0, eU_1, eW_0, eW_1, eW_2, eY_0, eY_1, eS_0, eS_1, eS_2, eS_3, eS_4, eS_5, List.length_map, i_inj, b_inj, s_inj, eC_eq, eU_eq, eW_eq, eY_eq, eS_eq, rng64, List.take_succ_cons, List.take_zero, List.nil_append, List.cons_append, decide_true, decide_false, Bool.or_true, true_and, and_true]
def gNum : List D → Option (List D)
  | [n] => some [.a [.i 1, n]]
  | _ => none
theorem ok_law31_num : FOk ct_law31_num gNum := fok_law31_num fun ds outs hw hg => by
  obtain ⟨d, r, rfl, hd, rfl⟩ := hw
  simp only [gNum, Option.some.injEq] at hg
  subst hg
  simp only [tree_law31_num, go_need, go_br, go_leaf, go_back, allSay, X.says, X.ev, X.evs, evl, tblS, List.getD_cons_zero, List.getD_cons_succ, List.getElem?_cons_zero, List.getElem?_cons_succ, tt_b, int_i, str_s, rs_r, Option.isSome_some, Option.getD_some, decide_eq_true_eq, decide_eq_false_iff_not, dS_eS, dC_eC, dU_eU, dW_eW, dY_eY, eC_0, eC_1, eU_0, eU_1, eW_0, eW_1, eW_2, eY_0, eY_1, eS_0, eS_1, eS_2, eS_3, eS_4, eS_5, List.length_map, i_inj, b_inj, s_inj, eC_eq, eU_eq, eW_eq, eY_eq, eS_eq, rng64, List.take_succ_cons, List.take_zero, List.nil_append, List.cons_append, decide_true, decide_false, Bool.or_true, true_and, and_true]
def gYes : List D → Option (List D) := fun _ => some [.b true]
theorem ok_law31_three : FOk ct_law31_three (denF [(ct_law31_ref, gRef), (ct_law31_num, gNum)] 1 tree_law31_three) := fok_law31_three ok_law31_ref ok_law31_num fun ds outs hw hg => go_denF hg
set_option maxRecDepth 100000 in
theorem ok_law31_awake : FOk ct_law31_awake gYes := fok_law31_awake ok_law31_three ok_law31_ref ok_trail_Set ok_law31_num ok_trail_Mark ok_trail_Undo fun ds outs hw hg => by
  obtain rfl : ds = [] := hw
  simp only [gYes, Option.some.injEq] at hg
  subst hg
  exact go_denF (fuel := 1) (by kernel_rfl)
theorem ok_trail_Set_n : FOk ct_trail_Set_n (fun _ => some [.i 1]) := fok_trail_Set_n (FOk.none enter_trail_in_n) ok_cells_ValidCell (FOk.none enter_trail_settable_n) ok_trail_kept (FOk.none enter_trail_comes_n) fun ds outs hw hg => by
  simp only [Option.some.injEq] at hg
  subst hg
  simp only [tree_trail_Set_n, go_need, go_br, go_leaf, go_back, allSay, X.says, X.ev, X.evs, evl, tblS, List.getD_cons_zero, List.getD_cons_succ, List.getElem?_cons_zero, List.getElem?_cons_succ, tt_b, int_i, str_s, rs_r, Option.isSome_some, Option.getD_some, decide_eq_true_eq, decide_eq_false_iff_not, dS_eS, dC_eC, dU_eU, dW_eW, dY_eY, eC_0, eC_1, eU_0, eU_1, eW_0, eW_1, eW_2, eY_0, eY_1, eS_0, eS_1, eS_2, eS_3, eS_4, eS_5, List.length_map, i_inj, b_inj, s_inj, eC_eq, eU_eq, eW_eq, eY_eq, eS_eq, rng64, List.take_succ_cons, List.take_zero, List.nil_append, List.cons_append, decide_true, decide_false, Bool.or_true, true_and, and_true]

/-! ### In a valid store both say the same -/
structure VS (s : So) : Prop where
  tag : ∀ i : Int, inS s i = true → 0 ≤ (cellAt s i).t ∧ (cellAt s i).t ≤ 5
  att : ∀ i : Int, inS s i = true → (cellAt s i).t = 5 → (cellAt s i).n = i
theorem vcR_tag {s : So} {c : Ce} (h : vcR s c = true) : c.t = 0 ∨ c.t = 1 ∨ c.t = 2 ∨ c.t = 3 ∨ c.t = 5 := by
  unfold vcR at h
  by_cases h0 : c.t = 0
  · exact .inl h0
  · by_cases h1 : c.t = 1
    · exact .inr (.inl h1)
    · by_cases h2 : c.t = 2
      · exact .inr (.inr (.inl h2))
      · by_cases h3 : c.t = 3
        · exact .inr (.inr (.inr (.inl h3)))
        · by_cases h5 : c.t = 5
          · exact .inr (.inr (.inr (.inr h5)))
          · simp [h0, h1, h2, h3, h5] at h
theorem validR_vs {s : So} (h : validR s = true) : VS s := by
  simp only [validR, Bool.and_eq_true] at h
  have key : ∀ i : Int, inS s i = true → cellR s i = true := fun i hi => by
    have h1 := inS_iff.1 hi
    have := all_of h.2.1 (k := i.toNat) (by omega)
    rwa [show ((i.toNat : Nat) : Int) = i by omega] at this
  refine ⟨fun i hi => ?_, fun i hi h5 => ?_⟩
  · have := key i hi
    unfold cellR at this
    by_cases h4 : (cellAt s i).t = 4
    · omega
    · rw [if_neg h4] at this
      simp only [Bool.and_eq_true] at this
      have := vcR_tag this.1
      omega
  · have := key i hi
    unfold cellR at this
    rw [if_neg (by omega)] at this
    simp [h5] at this
    exact this.2.2.1
theorem VS.tag_in {s : So} (h : VS s) (n : Int) : decide (0 ≤ tagS s n) = inS s n := by
  cases hi : inS s n with
  | true =>
    rw [tagS_in hi]
    exact decide_eq_true (h.tag n hi).1
  | false =>
    rw [tagS_out hi]
    decide
theorem VS.vc {s : So} (h : VS s) (c : Ce) : vcP s c = vcR s c := by
  unfold vcP vcR
  rw [h.tag_in]
theorem VS.sett {s : So} (h : VS s) {a : Int} (ha : inS s a = true) : settP s a = settR s a := by
  have h1 := h.tag a ha
  have h2 := h.att a ha
  unfold settP settR
  generalize cellAt s a = c at h1 h2
  by_cases c0 : c.t = 0
  · simp [c0]
  · by_cases c5 : c.t = 5
    · simp [c5, h2 c5]
    · by_cases c4 : c.t = 4
      · simp [c4]
      · have : c.t = 1 ∨ c.t = 2 ∨ c.t = 3 := by omega
        simp [c0, c5, c4, this]
theorem VS.setOk {s : So} (h : VS s) (a : Int) (c : Ce) : setOk vcP settP s a c = setOk vcR settR s a c := by
  unfold Proofs.Ytcjapglipkmbhaa.setOk
  cases ha : inS s a with
  | false => rfl
  | true => rw [h.vc, h.sett ha]

theorem small_cl {s : So} (h : smallB s = true) : clQ s = true ∧ s.tr.length ≤ 300 := by
  simp only [smallB, Bool.and_eq_true, decide_eq_true_eq] at h
  simp only [clQ, Bool.and_eq_true, decide_eq_true_eq]
  omega

theorem law_TrailSets : FOk ct_law31_TrailSets gYes := fok_law31_TrailSets ok_law31_small ok_law31_awake ok_ref30_Clone ok_ref30_Valid ok_trail_Mark ok_trail_Set ok_ref31_Set ok_ref30_Same ok_trail_Set_n fun ds outs hw hg => by
  obtain ⟨d, r, rfl, hd, e, r', rfl, he, f, r2, rfl, hf, rfl⟩ := hw
  obtain ⟨s, rfl, hs⟩ := wfS hd
  obtain ⟨a, rfl, ha⟩ := wfI he
  obtain ⟨c, rfl, hc⟩ := wfC hf
  simp only [gYes, Option.some.injEq] at hg
  subst hg
  simp only [tree_law31_TrailSets, go_need, go_br, go_leaf, go_back, allSay, X.says, X.ev, X.evs, evl, tblS, List.getD_cons_zero, List.getD_cons_succ, List.getElem?_cons_zero, List.getElem?_cons_succ, tt_b, int_i, str_s, rs_r, Option.isSome_some, Option.getD_some, decide_eq_true_eq, decide_eq_false_iff_not, dS_eS, dC_eC, dU_eU, dW_eW, dY_eY, eC_0, eC_1, eU_0, eU_1, eW_0, eW_1, eW_2, eY_0, eY_1, eS_0, eS_1, eS_2, eS_3, eS_4, eS_5, List.length_map, i_inj, b_inj, s_inj, eC_eq, eU_eq, eW_eq, eY_eq, eS_eq, rng64, List.take_succ_cons, List.take_zero, List.nil_append, List.cons_append, decide_true, decide_false, Bool.or_true, true_and, and_true, gSb, gYes, gClone, gMark, Option.isSome_some, Option.getD_some]
  refine ⟨fun hx => trivial, fun hx => ?_⟩
  have hsm : smallB s = true := by simpa using hx
  obtain ⟨hcl, htr⟩ := small_cl hsm
  have hlt : decide (s.tr.length < 34359738368) = true := decide_eq_true (by omega)
  simp only [hcl, if_true, Option.isSome_some, Option.getD_some, List.getD_cons_zero, gSet, dS_eS, dC_eC, int_i, hlt]
  have some1 : ∀ (b : Bool) (x y : List D), (if b = true then some x else some y).isSome = true := fun b x y => by cases b <;> rfl
  simp only [some1, tt_b]
  cases hv : validR s with
  | false => simp
  | true =>
    have := (validR_vs hv).setOk a c
    simp only [this]
    cases hk : setOk vcR settR s a c with
    | false => simp [gSame, D.tt]
    | true => simp [gSame, D.tt]
end Go.Proofs.Ytcjapglipkmbhaa

namespace Go.Proofs.Ytcjapglipkmbhaa
open Go.RowKit
set_option linter.unusedVariables false
set_option linter.unusedSimpArgs false

theorem putU_take (u : Un) (C : List Ce) (t : Nat) : putU u (C.take t) = (putU u C).take t := by
  unfold putU
  rw [List.length_take]
  by_cases h : 0 ≤ u.at' ∧ u.at' < C.length
  · rw [if_pos h]
    by_cases h2 : u.at'.toNat < t
    · rw [if_pos (by omega), List.take_set]
    · rw [if_neg (by omega), List.take_set, List.set_eq_of_length_le (by rw [List.length_take]; omega)]
  · rw [if_neg h, if_neg (by omega)]
theorem undoC_take (C : List Ce) (t : Nat) : ∀ l, undoC (C.take t) l = (undoC C l).take t
  | [] => rfl
  | u :: l => by
    show putU u (undoC (C.take t) l) = (putU u (undoC C l)).take t
    rw [undoC_take C t l, putU_take]
theorem undoC_app (C : List Ce) (l r : List Un) : undoC C (l ++ r) = undoC (undoC C r) l := by simp [undoC, List.foldr_append]
theorem undoS_two {s : So} {m t o b : Int} (hk : markedB s m t = true) (hom : o ≤ m) (hbt : b ≤ t) (ho : 0 ≤ o) (hb : 0 ≤ b) : undoS (undoS s m t) o b = undoS s o b := by
  obtain ⟨q1, q2, q3, q4⟩ := markedB_iff.1 hk
  have e1 : (s.tr.take m.toNat).take o.toNat = s.tr.take o.toNat := by rw [List.take_take, Nat.min_eq_left (by omega)]
  have e2 : s.tr.drop o.toNat = (s.tr.take m.toNat).drop o.toNat ++ s.tr.drop m.toNat := by
    conv => lhs; rw [← List.take_append_drop m.toNat s.tr]
    rw [List.drop_append_of_le_length (by rw [List.length_take]; omega)]
  have e3 : (undoC ((undoC s.cs (s.tr.drop m.toNat)).take t.toNat) ((s.tr.take m.toNat).drop o.toNat)).take b.toNat = (undoC s.cs (s.tr.drop o.toNat)).take b.toNat := by
    rw [undoC_take, List.take_take, Nat.min_eq_left (by omega), e2, undoC_app]
  simp only [undoS]
  rw [e1, e3]
theorem marked_two {s : So} {m t o b : Int} (hk : markedB s m t = true) (hom : o ≤ m) (hbt : b ≤ t) : markedB (undoS s m t) o b = markedB s o b := by
  obtain ⟨q1, q2, q3, q4⟩ := markedB_iff.1 hk
  have h1 : (undoS s m t).tr.length = m.toNat := by simp [undoS]; omega
  have h2 : (undoS s m t).cs.length = t.toNat := by simp [undoS, undoC_len]; omega
  cases h : markedB s o b with
  | true =>
    obtain ⟨p1, p2, p3, p4⟩ := markedB_iff.1 h
    exact markedB_iff.2 ⟨p1, by omega, p3, by omega⟩
  | false =>
    cases h' : markedB (undoS s m t) o b with
    | false => rfl
    | true =>
      obtain ⟨p1, p2, p3, p4⟩ := markedB_iff.1 h'
      rw [markedB_iff.2 ⟨p1, by omega, p3, by omega⟩] at h
      cases h

theorem law_TrailNested : FOk ct_law31_TrailNested gYes := fok_law31_TrailNested ok_law31_small ok_cells_Valid ok_law31_awake ok_cells_Clone ok_trail_Undo ok_cells_Same fun ds outs hw hg => by
  obtain ⟨d, r, rfl, hd, e, r', rfl, he, f, r2, rfl, hf, g, r3, rfl, hg', h, r4, rfl, hh, rfl⟩ := hw
  obtain ⟨s, rfl, hs⟩ := wfS hd
  obtain ⟨m, rfl, -⟩ := wfI he
  obtain ⟨t, rfl, -⟩ := wfI hf
  obtain ⟨o, rfl, -⟩ := wfI hg'
  obtain ⟨b, rfl, -⟩ := wfI hh
  simp only [gYes, Option.some.injEq] at hg
  subst hg
  simp only [tree_law31_TrailNested, go_need, go_br, go_leaf, go_back, allSay, X.says, X.ev, X.evs, evl, tblS, List.getD_cons_zero, List.getD_cons_succ, List.getElem?_cons_zero, List.getElem?_cons_succ, tt_b, int_i, str_s, rs_r, Option.isSome_some, Option.getD_some, decide_eq_true_eq, decide_eq_false_iff_not, dS_eS, dC_eC, dU_eU, dW_eW, dY_eY, eC_0, eC_1, eU_0, eU_1, eW_0, eW_1, eW_2, eY_0, eY_1, eS_0, eS_1, eS_2, eS_3, eS_4, eS_5, List.length_map, i_inj, b_inj, s_inj, eC_eq, eU_eq, eW_eq, eY_eq, eS_eq, rng64, List.take_succ_cons, List.take_zero, List.nil_append, List.cons_append, decide_true, decide_false, Bool.or_true, true_and, and_true, gSb, gYes, gClone, Option.isSome_some, Option.getD_some]
  refine ⟨fun hx => trivial, fun hx => ?_⟩
  have hx' : ((smallB s = true ∧ validP s = true) ∧ ¬ m < o) ∧ ¬ t < b := by simpa using hx
  obtain ⟨⟨⟨hsm, hv⟩, hmo⟩, htb⟩ := hx'
  obtain ⟨hcl, htr⟩ := small_cl hsm
  have some1 : ∀ (b : Bool) (x y : List D), (if b = true then some x else some y).isSome = true := fun b x y => by cases b <;> rfl
  simp only [hcl, if_true, Option.isSome_some, Option.getD_some, List.getD_cons_zero, gUndo, dS_eS, int_i, some1]
  cases hk : markedB s m t with
  | false => simp [D.tt]
  | true =>
    have h2 := marked_two hk (o := o) (b := b) (by omega) (by omega)
    simp only [if_true, Option.getD_some, List.getD_cons_zero, List.getD_cons_succ, dS_eS, h2, some1]
    refine ⟨by simp, trivial, fun _ => trivial, fun _ => ?_⟩
    cases hk2 : markedB s o b with
    | false => simp [D.tt, gSame]
    | true =>
      obtain ⟨p1, p2, p3, p4⟩ := markedB_iff.1 hk2
      simp only [undoS_two hk (show o ≤ m by omega) (show b ≤ t by omega) p1 p3]
      simp [D.tt, gSame]
end Go.Proofs.Ytcjapglipkmbhaa

namespace Go.Proofs.Ytcjapglipkmbhaa
open Go.RowKit
set_option linter.unusedVariables false
set_option linter.unusedSimpArgs false

def below (t : Int) (l : List Un) : List Un := l.filter fun u => decide (u.at' < t)
def unZ : Un := ⟨0, ⟨0, 0⟩⟩
theorem keepD_eU (t : Int) (l : List Un) : keepD t (l.map eU) = (below t l).map eU := by
  unfold keepD below
  rw [List.filter_map]
  rfl
theorem fn5_eU (t : Int) (l : List Un) : fnD 5 [.r (l.map eU), .i t] = .r ((below t l ++ List.replicate (l.length - (below t l).length) unZ).map eU) := by
  show D.r (keepD t (l.map eU) ++ List.replicate ((l.map eU).length - (keepD t (l.map eU)).length) zU) = _
  rw [keepD_eU, List.map_append, List.map_replicate, List.length_map, List.length_map]
  rfl
theorem fn7_eU (t : Int) (l : List Un) : fnD 7 [.r (l.map eU), .i t] = .r ((below t l).map eU) := by
  show D.r (keepD t (l.map eU)) = _
  rw [keepD_eU]
theorem set_tr (s : So) (l : List Un) : D.a ((eS s).fs.set 2 (.r (l.map eU))) = eS { s with tr := l } := by simp [eS, D.fs]
theorem putS_eS : ∀ (es : List Un) (lo : Nat) (s : So), lo + es.length ≤ s.tr.length → putS 2 lo (es.map eU) (eS s) = eS { s with tr := s.tr.take lo ++ (es ++ s.tr.drop (lo + es.length)) }
  | [], lo, s, h => by
    show eS s = _
    simp
  | e :: es, lo, s, h => by
    have h' : lo + (es.length + 1) ≤ s.tr.length := by simpa using h
    have e1 : D.a ((eS s).fs.set 2 (.r ((((eS s).fld 2).rs).set lo (eU e)))) = eS { s with tr := s.tr.set lo e } := by
      rw [← set_tr]
      simp [eS, D.fld, D.fs, D.rs, List.map_set]
    show putS 2 (lo + 1) (es.map eU) (D.a ((eS s).fs.set 2 (.r ((((eS s).fld 2).rs).set lo (eU e))))) = _
    rw [e1, putS_eS es (lo + 1) _ (by simp; omega)]
    congr 2
    have hlo : lo < (s.tr.set lo e).length := by simp; omega
    simp only
    rw [List.take_succ_eq_append_getElem hlo, List.getElem_set_self, List.take_set_of_le (Nat.le_refl lo), List.drop_set_of_lt (by omega), show lo + 1 + es.length = lo + (es.length + 1) by omega]
    simp

theorem keepL_big (m t : Int) : ∀ (k : Nat) (l : List Un), m ≤ k → keepL m t k l = below t l
  | k, [], _ => rfl
  | k, u :: l, h => by
    have hk : ¬ ((k : Int) < m) := by omega
    unfold keepL
    rw [keepL_big m t (k + 1) l (by omega)]
    by_cases hu : u.at' < t <;> simp [below, hk, hu]
theorem keepL_small (m t : Int) : ∀ (k : Nat) (l : List Un), (k : Int) + l.length ≤ m → keepL m t k l = l
  | k, [], _ => rfl
  | k, u :: l, h => by
    have h' : (k : Int) + (l.length + 1) ≤ m := by simpa using h
    unfold keepL
    rw [keepL_small m t (k + 1) l (by omega), if_pos (.inl (by omega))]
theorem keepL_eq {m t : Int} {l : List Un} (h0 : 0 ≤ m) (h1 : m ≤ l.length) : keepL m t 0 l = l.take m.toNat ++ below t (l.drop m.toNat) := by
  have hl : (l.take m.toNat).length = m.toNat := by rw [List.length_take]; omega
  conv => lhs; rw [← List.take_append_drop m.toNat l]
  rw [keepL_app, keepL_small m t 0 (l.take m.toNat) (by omega), hl, keepL_big m t _ _ (by omega)]
theorem below_len (t : Int) (l : List Un) : (below t l).length ≤ l.length := List.length_filter_le _ _

theorem ok_trail_Tidy : FOk ct_trail_Tidy gTidy := fok_trail_Tidy ok_trail_marked fun ds outs hw hg => by
  obtain ⟨d, r, rfl, hd, e, r', rfl, he, f, r2, rfl, hf, rfl⟩ := hw
  obtain ⟨s, rfl, hs⟩ := wfS hd
  obtain ⟨m, rfl, hm⟩ := wfI he
  obtain ⟨t, rfl, ht⟩ := wfI hf
  simp only [gTidy, dS_eS, int_i] at hg
  rw [tree_trail_Tidy, go_need]
  refine ⟨by simp only [go_need, go_br, go_leaf, go_back, allSay, X.says, X.ev, X.evs, evl, tblS, List.getD_cons_zero, List.getD_cons_succ, List.getElem?_cons_zero, List.getElem?_cons_succ, tt_b, int_i, str_s, rs_r, Option.isSome_some, Option.getD_some, decide_eq_true_eq, decide_eq_false_iff_not, dS_eS, dC_eC, dU_eU, dW_eW, dY_eY, eC_0, eC_1, eU_0, eU_1, eW_0, eW_1, eW_2, eY_0, eY_1, eS_0, eS_1, eS_2, eS_3, eS_4, eS_5, List.length_map, i_inj, b_inj, s_inj, eC_eq, eU_eq, eW_eq, eY_eq, eS_eq, rng64, List.take_succ_cons, List.take_zero, List.nil_append, List.cons_append, decide_true, decide_false, Bool.or_true, true_and, and_true, gSIIb], ?_⟩
  rw [go_br]
  cases hk : markedB s m t with
  | false =>
    simp only [hk, Bool.false_eq_true, if_false, Option.some.injEq] at hg
    subst hg
    refine ⟨fun _ => by simp only [go_need, go_br, go_leaf, go_back, allSay, X.says, X.ev, X.evs, evl, tblS, List.getD_cons_zero, List.getD_cons_succ, List.getElem?_cons_zero, List.getElem?_cons_succ, tt_b, int_i, str_s, rs_r, Option.isSome_some, Option.getD_some, decide_eq_true_eq, decide_eq_false_iff_not, dS_eS, dC_eC, dU_eU, dW_eW, dY_eY, eC_0, eC_1, eU_0, eU_1, eW_0, eW_1, eW_2, eY_0, eY_1, eS_0, eS_1, eS_2, eS_3, eS_4, eS_5, List.length_map, i_inj, b_inj, s_inj, eC_eq, eU_eq, eW_eq, eY_eq, eS_eq, rng64, List.take_succ_cons, List.take_zero, List.nil_append, List.cons_append, decide_true, decide_false, Bool.or_true, true_and, and_true, gSIIb], fun h => ?_⟩
    simp [X.ev, X.evs, evl, tblS, gSIIb, dS_eS, int_i, hk, D.tt] at h
  | true =>
    simp only [hk, if_true, Option.ite_none_right_eq_some, Option.some.injEq, decide_eq_true_eq] at hg
    obtain ⟨hl, rfl⟩ := hg
    refine ⟨fun h => ?_, fun _ => ?_⟩
    · simp [X.ev, X.evs, evl, tblS, gSIIb, dS_eS, int_i, hk, D.tt] at h
    obtain ⟨q1, q2, q3, q4⟩ := markedB_iff.1 hk
    have ecut : ((s.tr.map eU).take ((s.tr.length : Nat) : Int).toNat).drop m.toNat = (s.tr.drop m.toNat).map eU := by
      rw [List.take_of_length_le (by simp), List.map_drop]
    have hb := below_len t (s.tr.drop m.toNat)
    have hdl : (s.tr.drop m.toNat).length = s.tr.length - m.toNat := List.length_drop
    have e6 : fnD 6 [eS s, .i 2, .i m, .r ((below t (s.tr.drop m.toNat) ++ List.replicate ((s.tr.drop m.toNat).length - (below t (s.tr.drop m.toNat)).length) unZ).map eU)] = eS { s with tr := s.tr.take m.toNat ++ (below t (s.tr.drop m.toNat) ++ List.replicate ((s.tr.drop m.toNat).length - (below t (s.tr.drop m.toNat)).length) unZ) } := by
      show putS 2 m.toNat _ _ = _
      rw [rs_r, putS_eS _ _ _ (by simp; omega)]
      congr 2
      have hxl : (below t (s.tr.drop m.toNat) ++ List.replicate ((s.tr.drop m.toNat).length - (below t (s.tr.drop m.toNat)).length) unZ).length = s.tr.length - m.toNat := by simp; omega
      generalize below t (s.tr.drop m.toNat) ++ List.replicate ((s.tr.drop m.toNat).length - (below t (s.tr.drop m.toNat)).length) unZ = X at hxl
      rw [List.drop_eq_nil_of_le (show s.tr.length ≤ m.toNat + X.length by omega), List.append_nil]
    have hlm : ((m + ((below t (s.tr.drop m.toNat)).length : Nat)).toNat) = m.toNat + (below t (s.tr.drop m.toNat)).length := by omega
    have etake : (s.tr.take m.toNat ++ (below t (s.tr.drop m.toNat) ++ List.replicate ((s.tr.drop m.toNat).length - (below t (s.tr.drop m.toNat)).length) unZ)).take (m.toNat + (below t (s.tr.drop m.toNat)).length) = keepL m t 0 s.tr := by
      rw [keepL_eq q1 q2, ← List.append_assoc, List.take_append_of_le_length (by simp; omega), List.take_of_length_le (by simp; omega)]
    simp only [go_need, go_br, go_leaf, go_back, allSay, X.says, X.ev, X.evs, evl, tblS, List.getD_cons_zero, List.getD_cons_succ, List.getElem?_cons_zero, List.getElem?_cons_succ, tt_b, int_i, str_s, rs_r, Option.isSome_some, Option.getD_some, decide_eq_true_eq, decide_eq_false_iff_not, dS_eS, dC_eC, dU_eU, dW_eW, dY_eY, eC_0, eC_1, eU_0, eU_1, eW_0, eW_1, eW_2, eY_0, eY_1, eS_0, eS_1, eS_2, eS_3, eS_4, eS_5, List.length_map, i_inj, b_inj, s_inj, eC_eq, eU_eq, eW_eq, eY_eq, eS_eq, rng64, List.take_succ_cons, List.take_zero, List.nil_append, List.cons_append, decide_true, decide_false, Bool.or_true, true_and, and_true, ecut, fn5_eU, fn7_eU, e6, hlm, fld_s2]
    refine ⟨⟨q1, q2⟩, ⟨by omega, by simp; omega⟩, ?_⟩
    rw [← List.map_take, etake, Int.toNat_zero, List.drop_zero, set_tr]
    rfl

theorem ok_trail_Tidy_n : FOk ct_trail_Tidy_n (fun _ => some [.i 1]) := fok_trail_Tidy_n (g0 := fun _ => some [.b false]) (fok_trail_marked_n fun ds outs hw hg => by
  simp only [Option.some.injEq] at hg
  subst hg
  simp only [tree_trail_marked_n, go_need, go_br, go_leaf, go_back, allSay, X.says, X.ev, X.evs, evl, tblS, List.getD_cons_zero, List.getD_cons_succ, List.getElem?_cons_zero, List.getElem?_cons_succ, tt_b, int_i, str_s, rs_r, Option.isSome_some, Option.getD_some, decide_eq_true_eq, decide_eq_false_iff_not, dS_eS, dC_eC, dU_eU, dW_eW, dY_eY, eC_0, eC_1, eU_0, eU_1, eW_0, eW_1, eW_2, eY_0, eY_1, eS_0, eS_1, eS_2, eS_3, eS_4, eS_5, List.length_map, i_inj, b_inj, s_inj, eC_eq, eU_eq, eW_eq, eY_eq, eS_eq, rng64, List.take_succ_cons, List.take_zero, List.nil_append, List.cons_append, decide_true, decide_false, Bool.or_true, true_and, and_true]) fun ds outs hw hg => by
  simp only [Option.some.injEq] at hg
  subst hg
  simp only [tree_trail_Tidy_n, go_need, go_br, go_leaf, go_back, allSay, X.says, X.ev, X.evs, evl, tblS, List.getD_cons_zero, List.getD_cons_succ, List.getElem?_cons_zero, List.getElem?_cons_succ, tt_b, int_i, str_s, rs_r, Option.isSome_some, Option.getD_some, decide_eq_true_eq, decide_eq_false_iff_not, dS_eS, dC_eC, dU_eU, dW_eW, dY_eY, eC_0, eC_1, eU_0, eU_1, eW_0, eW_1, eW_2, eY_0, eY_1, eS_0, eS_1, eS_2, eS_3, eS_4, eS_5, List.length_map, i_inj, b_inj, s_inj, eC_eq, eU_eq, eW_eq, eY_eq, eS_eq, rng64, List.take_succ_cons, List.take_zero, List.nil_append, List.cons_append, decide_true, decide_false, Bool.or_true, true_and, and_true]
  simp

theorem law_TrailUndoes : FOk ct_law31_TrailUndoes gYes := fok_law31_TrailUndoes ok_law31_small ok_law31_awake ok_ref30_Clone ok_trail_Undo ok_ref31_Undo ok_trail_Tidy ok_ref31_Tidy ok_ref30_Valid ok_ref30_Same ok_trail_Undo_n ok_trail_Tidy_n fun ds outs hw hg => by
  obtain ⟨d, r, rfl, hd, e, r', rfl, he, f, r2, rfl, hf, rfl⟩ := hw
  obtain ⟨s, rfl, hs⟩ := wfS hd
  obtain ⟨m, rfl, hm⟩ := wfI he
  obtain ⟨t, rfl, ht⟩ := wfI hf
  simp only [gYes, Option.some.injEq] at hg
  subst hg
  simp only [tree_law31_TrailUndoes, go_need, go_br, go_leaf, go_back, allSay, X.says, X.ev, X.evs, evl, tblS, List.getD_cons_zero, List.getD_cons_succ, List.getElem?_cons_zero, List.getElem?_cons_succ, tt_b, int_i, str_s, rs_r, Option.isSome_some, Option.getD_some, decide_eq_true_eq, decide_eq_false_iff_not, dS_eS, dC_eC, dU_eU, dW_eW, dY_eY, eC_0, eC_1, eU_0, eU_1, eW_0, eW_1, eW_2, eY_0, eY_1, eS_0, eS_1, eS_2, eS_3, eS_4, eS_5, List.length_map, i_inj, b_inj, s_inj, eC_eq, eU_eq, eW_eq, eY_eq, eS_eq, rng64, List.take_succ_cons, List.take_zero, List.nil_append, List.cons_append, decide_true, decide_false, Bool.or_true, true_and, and_true, gSb, gYes, gClone, Option.isSome_some, Option.getD_some]
  refine ⟨fun hx => trivial, fun hx => ?_⟩
  have hsm : smallB s = true := by simpa using hx
  obtain ⟨hcl, htr⟩ := small_cl hsm
  have hlt : decide (s.tr.length ≤ 34359738368) = true := decide_eq_true (by omega)
  have some1 : ∀ (b : Bool) (x y : List D), (if b = true then some x else some y).isSome = true := fun b x y => by cases b <;> rfl
  simp only [hcl, if_true, Option.isSome_some, Option.getD_some, List.getD_cons_zero, gUndo, gTidy, dS_eS, int_i, hlt, some1]
  cases hk : markedB s m t with
  | false => simp [gSame, D.tt]
  | true => simp [gSame, D.tt]

/-! ### Tidying changes nothing of the undoing -/
theorem undoC_below (C : List Ce) (t : Nat) (hC : C.length ≤ t) : ∀ l : List Un, undoC C (below t l) = undoC C l
  | [] => rfl
  | u :: l => by
    by_cases hu : u.at' < t
    · have : below t (u :: l) = u :: below t l := by simp [below, hu]
      rw [this]
      show putU u (undoC C (below t l)) = putU u (undoC C l)
      rw [undoC_below C t hC l]
    · have : below t (u :: l) = below t l := by simp [below, hu]
      rw [this, undoC_below C t hC l]
      show _ = putU u (undoC C l)
      unfold putU
      rw [if_neg (by rw [undoC_len]; omega)]
theorem undo_tidy {s : So} {m t : Int} (hk : markedB s m t = true) : undoS (tidyS s m t) m t = undoS s m t := by
  obtain ⟨q1, q2, q3, q4⟩ := markedB_iff.1 hk
  have hl : (s.tr.take m.toNat).length = m.toNat := by rw [List.length_take]; omega
  have htt : ((t.toNat : Nat) : Int) = t := by omega
  simp only [undoS, tidyS]
  rw [keepL_eq q1 q2, List.drop_append_of_le_length (by omega), List.drop_eq_nil_of_le (by omega : (s.tr.take m.toNat).length ≤ m.toNat), List.nil_append, List.take_append_of_le_length (by omega), List.take_take, Nat.min_self]
  congr 1
  rw [← undoC_take, ← undoC_take]
  have := undoC_below (s.cs.take t.toNat) t.toNat (by rw [List.length_take]; omega) (s.tr.drop m.toNat)
  rw [htt] at this
  exact this
theorem all_mem {α : Type} [Inhabited α] {P : α → Bool} {l : List α} : ((List.range l.length).all fun i => P (l.getD i default)) = true ↔ ∀ x ∈ l, P x = true := by
  constructor
  · intro h x hx
    obtain ⟨i, hi, rfl⟩ := List.getElem_of_mem hx
    have := all_of h hi
    simpa [List.getD_eq_getElem?_getD, hi] using this
  · intro h
    refine all_yes fun j hj => ?_
    have := h _ (List.getElem_mem hj)
    simpa [List.getD_eq_getElem?_getD, hj] using this
theorem keepL_mem {m t : Int} {u : Un} : ∀ {k : Nat} {l : List Un}, u ∈ keepL m t k l → u ∈ l
  | k, [], h => h
  | k, v :: l, h => by
    unfold keepL at h
    split at h
    · rcases List.mem_cons.1 h with rfl | h
      · exact List.mem_cons_self
      · exact List.mem_cons_of_mem _ (keepL_mem h)
    · exact List.mem_cons_of_mem _ (keepL_mem h)
theorem endsN_tidy {s : So} {m t : Int} : ∀ (k : Nat) (n : Int), endsN (tidyS s m t) k n = endsN s k n
  | 0, n => rfl
  | k + 1, n => by
    by_cases hn : Ns s n
    · have hn' : Ns (tidyS s m t) n := hn
      rw [endsN_ns hn, endsN_ns hn']
      exact endsN_tidy k _
    · have hn' : ¬ Ns (tidyS s m t) n := hn
      rw [endsN_st hn, endsN_st hn']
theorem valid_tidy {s : So} {m t : Int} (hv : validP s = true) : validP (tidyS s m t) = true := by
  simp only [validP, Bool.and_eq_true] at hv ⊢
  obtain ⟨h1, h2, h3, h4, h5⟩ := hv
  have h3' : acyP (tidyS s m t) = true := by
    have e : acyP (tidyS s m t) = acyP s := by
      unfold acyP endsB
      congr 1
      funext i
      exact endsN_tidy _ _
    rw [e]
    exact h3
  refine ⟨h1, h2, h3', ?_, h5⟩
  have h4' := (all_mem (P := oldP s)).1 h4
  exact (all_mem (P := oldP s) (l := keepL m t 0 s.tr)).2 fun u hu => h4' u (keepL_mem hu)

theorem law_TrailTidies : FOk ct_law31_TrailTidies gYes := fok_law31_TrailTidies ok_law31_small ok_cells_Valid ok_law31_awake ok_cells_Clone ok_trail_Tidy ok_cells_Same ok_trail_Undo fun ds outs hw hg => by
  obtain ⟨d, r, rfl, hd, e, r', rfl, he, f, r2, rfl, hf, rfl⟩ := hw
  obtain ⟨s, rfl, hs⟩ := wfS hd
  obtain ⟨m, rfl, hm⟩ := wfI he
  obtain ⟨t, rfl, ht⟩ := wfI hf
  simp only [gYes, Option.some.injEq] at hg
  subst hg
  rw [tree_law31_TrailTidies]
  rw [go_need]
  refine ⟨by simp only [go_need, go_br, go_leaf, go_back, allSay, X.says, X.ev, X.evs, evl, tblS, List.getD_cons_zero, List.getD_cons_succ, List.getElem?_cons_zero, List.getElem?_cons_succ, tt_b, int_i, str_s, rs_r, Option.isSome_some, Option.getD_some, decide_eq_true_eq, decide_eq_false_iff_not, dS_eS, dC_eC, dU_eU, dW_eW, dY_eY, eC_0, eC_1, eU_0, eU_1, eW_0, eW_1, eW_2, eY_0, eY_1, eS_0, eS_1, eS_2, eS_3, eS_4, eS_5, List.length_map, i_inj, b_inj, s_inj, eC_eq, eU_eq, eW_eq, eY_eq, eS_eq, rng64, List.take_succ_cons, List.take_zero, List.nil_append, List.cons_append, decide_true, decide_false, Bool.or_true, true_and, and_true, gSb], ?_⟩
  rw [go_br]
  refine ⟨fun hx => by simp only [go_need, go_br, go_leaf, go_back, allSay, X.says, X.ev, X.evs, evl, tblS, List.getD_cons_zero, List.getD_cons_succ, List.getElem?_cons_zero, List.getElem?_cons_succ, tt_b, int_i, str_s, rs_r, Option.isSome_some, Option.getD_some, decide_eq_true_eq, decide_eq_false_iff_not, dS_eS, dC_eC, dU_eU, dW_eW, dY_eY, eC_0, eC_1, eU_0, eU_1, eW_0, eW_1, eW_2, eY_0, eY_1, eS_0, eS_1, eS_2, eS_3, eS_4, eS_5, List.length_map, i_inj, b_inj, s_inj, eC_eq, eU_eq, eW_eq, eY_eq, eS_eq, rng64, List.take_succ_cons, List.take_zero, List.nil_append, List.cons_append, decide_true, decide_false, Bool.or_true, true_and, and_true, gYes], fun hx => ?_⟩
  have hx' : smallB s = true ∧ validP s = true := by
    simpa [X.ev, X.evs, evl, tblS, gSb, dS_eS, D.tt] using hx
  obtain ⟨hsm, hv⟩ := hx'
  obtain ⟨hcl, htr⟩ := small_cl hsm
  have hlt : decide (s.tr.length ≤ 34359738368) = true := decide_eq_true (by omega)
  have some1 : ∀ (b : Bool) (x y : List D), (if b = true then some x else some y).isSome = true := fun b x y => by cases b <;> rfl
  cases hk : markedB s m t with
  | false =>
    simp only [go_need, go_br, go_leaf, go_back, allSay, X.says, X.ev, X.evs, evl, tblS, List.getD_cons_zero, List.getD_cons_succ, List.getElem?_cons_zero, List.getElem?_cons_succ, tt_b, int_i, str_s, rs_r, Option.isSome_some, Option.getD_some, decide_eq_true_eq, decide_eq_false_iff_not, dS_eS, dC_eC, dU_eU, dW_eW, dY_eY, eC_0, eC_1, eU_0, eU_1, eW_0, eW_1, eW_2, eY_0, eY_1, eS_0, eS_1, eS_2, eS_3, eS_4, eS_5, List.length_map, i_inj, b_inj, s_inj, eC_eq, eU_eq, eW_eq, eY_eq, eS_eq, rng64, List.take_succ_cons, List.take_zero, List.nil_append, List.cons_append, decide_true, decide_false, Bool.or_true, true_and, and_true, gClone, gTidy, gUndo, gSame, gYes, gSb, hcl, hk, if_true, Bool.false_eq_true, if_false, Option.isSome_some, Option.getD_some]
    simp
  | true =>
    obtain ⟨q1, q2, q3, q4⟩ := markedB_iff.1 hk
    have hv2 := valid_tidy (m := m) (t := t) hv
    have htl : (tidyS s m t).tr.length ≤ s.tr.length := keepL_len m t 0 s.tr
    have hkeq : (tidyS s m t).tr = s.tr.take m.toNat ++ below t (s.tr.drop m.toNat) := keepL_eq q1 q2
    have hml : m.toNat ≤ (tidyS s m t).tr.length := by rw [hkeq]; simp; omega
    have hk2 : markedB (tidyS s m t) m t = true := markedB_iff.2 ⟨q1, by omega, q3, q4⟩
    have hc : gClone [eS s] = some [eS s] := by simp only [gClone, dS_eS, hcl, if_true]
    have hT : gTidy [eS s, .i m, .i t] = some [.i 0, eS (tidyS s m t)] := by simp only [gTidy, dS_eS, int_i, hk, hlt, if_true]
    have hU1 : gUndo [eS (tidyS s m t), .i m, .i t] = some [.i 0, eS (undoS s m t)] := by simp only [gUndo, dS_eS, int_i, hk2, if_true, undo_tidy hk]
    have hU2 : gUndo [eS s, .i m, .i t] = some [.i 0, eS (undoS s m t)] := by simp only [gUndo, dS_eS, int_i, hk, if_true]
    simp only [go_need, go_br, go_leaf, go_back, allSay, X.says, X.ev, X.evs, evl, tblS, List.getD_cons_zero, List.getD_cons_succ, List.getElem?_cons_zero, List.getElem?_cons_succ, tt_b, int_i, str_s, rs_r, Option.isSome_some, Option.getD_some, decide_eq_true_eq, decide_eq_false_iff_not, dS_eS, dC_eC, dU_eU, dW_eW, dY_eY, eC_0, eC_1, eU_0, eU_1, eW_0, eW_1, eW_2, eY_0, eY_1, eS_0, eS_1, eS_2, eS_3, eS_4, eS_5, List.length_map, i_inj, b_inj, s_inj, eC_eq, eU_eq, eW_eq, eY_eq, eS_eq, rng64, List.take_succ_cons, List.take_zero, List.nil_append, List.cons_append, decide_true, decide_false, Bool.or_true, true_and, and_true, hc, hT, hU1, hU2, gSb, gSame, gYes, hv2]
    refine ⟨fun h => (by cases h), fun _ => ⟨fun h => ?_, fun _ => ?_⟩⟩
    · have : s.tr.length < (tidyS s m t).tr.length ∨ ((tidyS s m t).tr.length : Int) < m := by simpa using h
      omega
    rw [go_loop]
    refine ⟨fun st => ∃ k : Nat, (k : Int) ≤ m ∧ st = [.b false, .i k], fun st => m.toNat - (st.getD 1 .u).int.toNat, ⟨0, q1, rfl⟩, ?_⟩
    rintro st - ⟨k, hkm, rfl⟩
    simp only [go_need, go_br, go_leaf, go_back, allSay, X.says, X.ev, X.evs, evl, tblS, List.getD_cons_zero, List.getD_cons_succ, List.getElem?_cons_zero, List.getElem?_cons_succ, tt_b, int_i, str_s, rs_r, Option.isSome_some, Option.getD_some, decide_eq_true_eq, decide_eq_false_iff_not, dS_eS, dC_eC, dU_eU, dW_eW, dY_eY, eC_0, eC_1, eU_0, eU_1, eW_0, eW_1, eW_2, eY_0, eY_1, eS_0, eS_1, eS_2, eS_3, eS_4, eS_5, List.length_map, i_inj, b_inj, s_inj, eC_eq, eU_eq, eW_eq, eY_eq, eS_eq, rng64, List.take_succ_cons, List.take_zero, List.nil_append, List.cons_append, decide_true, decide_false, Bool.or_true, true_and, and_true, hc, hT, hU1, hU2, gSb, gSame, gYes, hv2]
    refine ⟨fun hlt => ?_, fun hlt => ?_⟩
    · have h1 : k < s.tr.length := by omega
      have h2 : k < (tidyS s m t).tr.length := by omega
      have he : (tidyS s m t).tr.getD k default = s.tr.getD k default := by
        have hkt : k < (s.tr.take m.toNat).length := by rw [List.length_take]; omega
        rw [hkeq, List.getD_eq_getElem?_getD, List.getElem?_append_left hkt, List.getElem?_take_of_lt (by omega), ← List.getD_eq_getElem?_getD]
      simp only [get_n eU h1, get_n eU h2, he]
      refine ⟨⟨by omega, by omega, by omega, by omega⟩, fun hb => ?_, fun _ => ⟨⟨by omega, by omega⟩, ?_⟩⟩
      · simp at hb
      · rw [updB, if_pos rfl]
        refine ⟨⟨k + 1, by omega, by simp⟩, ?_⟩
        simp [D.int]
        omega
    · simp
end Go.Proofs.Ytcjapglipkmbhaa

namespace Go.Proofs.Ytcjapglipkmbhaa
open Go.ChangeShapes Go.WideShapes Go.ChangeAt Go.RowKit
set_option linter.unusedVariables false

theorem own_knobD : ownKnob Try.prog.godebug = none := by kernel_rfl
theorem laid_outD : laidOutB Try.prog = true := by kernel_rfl

def posB (P : Program) : Bool := tyTab.all fun e => Nat.blt 0 (P.bytesOf e.1)
set_option maxRecDepth 100000 in
theorem pos_ok : posB Try.prog = true := by kernel_rfl
theorem bytes_pos {T : TypeId} {t : Ty} (h : tyOf T = some t) : 0 < Try.prog.bytesOf T := by
  have := List.all_eq_true.1 pos_ok _ (lkA_mem h)
  simpa [Nat.blt_eq] using this

section
variable {H : Type} {enc : TypeId × Value → H} {W : World} {base : Nat} {spare : Nat → Bool} {held : Bool}

def LightD (t : TypeId) (d : DataW H) : Prop := ∀ n ∈ d.weights Try.prog t, n ≤ reachBytes

theorem weightsAll_memD {e : TypeId} : ∀ {l : List (DataW H)} {d : DataW H}, d ∈ l → ∀ n ∈ d.weights Try.prog e, n ∈ DataW.weightsAll Try.prog e l
  | [], _, h, _, _ => by cases h
  | x :: l, d, h, n, hn => by
    simp only [DataW.weightsAll, List.mem_append]
    rcases List.mem_cons.1 h with rfl | h
    · exact .inl hn
    · exact .inr (weightsAll_memD h n hn)

theorem LightD.each {ts : List TypeId} {l : List (DataW H)} {k : Nat} {t : TypeId} {d : DataW H} (h : ∀ n ∈ DataW.weightsEach Try.prog ts l, n ≤ reachBytes) (ht : ts[k]? = some t) (hd : l[k]? = some d) : LightD t d := fun n hn =>
  h n (DataW.weights_mem_each ht hd n hn)

theorem reach_eqD : reachBytes = LIM := rfl

theorem cells_w {T : TypeId} {t : Ty} (h : tyOf T = some t) : Try.prog.cellsOf T = t.w := by
  obtain ⟨i, hi, h1, -⟩ := row_info h
  simp [Program.cellsOf, hi, h1]

theorem rng_wf {k : IntKind} {t : TypeId} (ht : tyOf t = some (.int k)) {n : Int} (h : (Lit.int k n).wf = true) : rngB k n = true := by
  have h0 := (row_int ht).2.1
  cases k <;> first | (simp [rngB] at h0; done) | (simp [Lit.wf, IntKind.min, IntKind.max, IntKind.signed, IntKind.bits] at h; simp [rngB]; omega)

theorem spot_noneD {a : Addr} {v : Value} (h : W.cell? a = some v) : a.spot = none := by
  unfold World.cell? at h
  split at h
  · split at h
    · cases h
    · rename_i hs; simpa using hs
  · cases h

theorem rdF_of {F : Nat → Prop} {cs : List Value} : ∀ {fl : List Field} {fs : List Ty} {o : Nat}, fieldsB fl fs o = true → (∀ (j : Nat) (f : Field) (t : Ty), fl[j]? = some f → fs[j]? = some t → ∃ y, Rd W F y t ((cs.drop f.offset).take t.w)) → cs.length = o + widths fs → ∃ ds, RdF W F ds fs (cs.drop o)
  | [], [], o, _, _, hl => by
    simp [widths] at hl
    exact ⟨[], rfl, by rw [List.drop_eq_nil_iff]; omega⟩
  | f :: l, t :: ts, o, hb, hf, hl => by
    simp only [fieldsB, Bool.and_eq_true] at hb
    obtain ⟨⟨⟨h1, -⟩, -⟩, h3⟩ := hb
    have ho := Nat.eq_of_beq_eq_true h1
    rw [widths_cons] at hl
    obtain ⟨ds, hds⟩ := rdF_of h3 (fun j f' t' hj ht => hf (j + 1) f' t' (by simpa using hj) (by simpa using ht)) (by omega)
    obtain ⟨y, hy⟩ := hf 0 f t rfl rfl
    refine ⟨y :: ds, t, ts, (cs.drop o).take t.w, cs.drop (o + t.w), rfl, ?_, by rw [← ho]; exact hy, hds⟩
    rw [← List.drop_drop, List.take_append_drop]
  | [], _ :: _, o, hb, _, _ => by cases hb
  | _ :: _, [], o, hb, _, _ => by cases hb

theorem open_recD : ∀ (fuel : Nat) {T : TypeId} {t : Ty} (cs : List Value) (x : DataW H × List MemPlace), tyOf T = some t → isMp t = false → DataW.trod enc Try.prog W base spare held fuel T cs = some x → LightD T x.1 → ∃ y, Rd W (fun _ => True) y t cs := by
  intro fuel
  induction fuel with
  | zero => intro T t cs x _ _ h; simp [DataW.trod] at h
  | succ fuel ih =>
    intro T t cs x hT hM h hL
    cases t with
    | map K V => cases hM
    | int k =>
      obtain ⟨n, rfl, -, hw⟩ := DataW.trod_int (row_int hT).1 h
      exact ⟨.i n, k, rfl, rfl, rng_wf hT hw⟩
    | bool =>
      obtain ⟨b, rfl, -⟩ := DataW.trod_bool (row_bool hT).1 h
      exact ⟨.b b, rfl, rfl⟩
    | str =>
      obtain ⟨s, rfl, rfl, -⟩ := DataW.trod_string (row_str hT).1 h
      have := hL s.data.toList.length (by simp [DataW.weights])
      exact ⟨.s s, rfl, rfl, by rw [reach_eqD] at this; simpa using this⟩
    | st S =>
      obtain ⟨fields, fs, zc, i, hu, hfs, hfb, hi, hsz, -, -, -, -⟩ := row_st hT
      obtain ⟨xs, n, hn, hx, hlen, hxl, hf⟩ := DataW.trod_struct hu h
      obtain rfl : fuel = n := by omega
      have hw : ∀ n ∈ DataW.weightsEach Try.prog (fields.toList.map (·.type)) (xs.map (·.1)), n ≤ reachBytes := fun n hn => hL n (by rw [hx]; simp only [DataW.weights, hu]; exact hn)
      have hcl : cs.length = 0 + widths fs := by rw [hlen, cells_w hT, (fld_okD hfs).1]; omega
      obtain ⟨ds, hds⟩ := rdF_of (W := W) (F := fun _ => True) hfb (fun j f t hj ht => by
        obtain ⟨f', hf', ho, hty, -⟩ := fieldsB_get hfb ht
        obtain rfl := Option.some.inj (hj.symm.trans hf')
        have h5 := hf j f (by rw [← Array.getElem?_toList]; exact hj)
        have hjl : j < fields.toList.length := (List.getElem?_eq_some_iff.1 hj).1
        have hjx : j < xs.length := by rw [hxl]; simpa using hjl
        rw [cells_w hty, List.getElem?_eq_getElem hjx] at h5
        refine ih _ _ hty (fld_noM hfs (List.mem_of_getElem? ht)) h5 (LightD.each (k := j) hw ?_ ?_)
        · rw [List.getElem?_map, hj]; rfl
        · rw [List.getElem?_map, List.getElem?_eq_getElem hjx]; rfl) hcl
      exact ⟨.a ds, S, fs, rfl, hfs, by simpa using hds⟩
    | row E =>
      obtain ⟨hu, ⟨te, hte⟩, -⟩ := row_row hT
      rcases DataW.trod_slice hu h with ⟨rfl, hx⟩ | ⟨a, len, cap, elems, rest, n, hn, rfl, hx, hb, hl, hm, hlen, hel, -⟩
      · exact ⟨.r [], E, te, none, 0, rfl, hte, rfl, by simp, by simp, by simp [maxLen], by simp [RdE]⟩
      · obtain rfl : fuel = n := by omega
        have hwd := tyOf_pos hte
        rw [cells_w hte] at hel
        have hw := hL
        rw [hx] at hw
        simp only [LightD, DataW.weights, hu, List.mem_cons, List.mem_append] at hw
        have hlen2 : len ≤ LIM := by
          have := hw _ (.inl rfl)
          rw [reach_eqD] at this
          have hbp := bytes_pos hte
          simp at this
          have h2 : elems.length * 1 ≤ elems.length * Try.prog.bytesOf E := Nat.mul_le_mul_left _ hbp
          have h3 : (elems.length + rest.length) * 1 ≤ (elems.length + rest.length) * Try.prog.bytesOf E := Nat.mul_le_mul_left _ hbp
          omega
        have spot : 0 < len → a.spot = none := fun h0 => by
          have h2 := hel 0 h0
          rw [List.getElem?_eq_getElem (by omega)] at h2
          cases hc0 : W.cells? base (a.add (0 * te.w)) te.w with
          | none => rw [hc0] at h2; cases h2
          | some cs0 =>
            obtain ⟨_, hcl0, hat0⟩ := World.cells?_some hc0
            have hp : 0 < cs0.length := by omega
            have := hat0 0 (by omega)
            rw [List.getElem?_eq_getElem hp] at this
            exact spot_noneD (a := a) (v := cs0[0]) (by simpa [Addr.add] using this)
        have each : ∀ i, i < len → ∃ y, RdEl W (fun _ => True) y te (some a) i := fun i hi => by
          have h1 := hel i hi
          rw [List.getElem?_eq_getElem (by omega)] at h1
          cases hc : W.cells? base (a.add (i * te.w)) te.w with
          | none => rw [hc] at h1; cases h1
          | some cs' =>
            rw [hc] at h1
            obtain ⟨_, hcl, hat⟩ := World.cells?_some hc
            obtain ⟨y, hy⟩ := ih cs' _ hte (row_noM hT hte) h1 (fun n hn => hw n (.inr (.inl (weightsAll_memD (List.mem_map.2 ⟨_, List.getElem_mem (by omega), rfl⟩) n hn))))
            have hsp := spot (by omega)
            obtain ⟨b, o, sp⟩ := a
            obtain rfl : sp = none := hsp
            have add : ∀ k, (Addr.add ⟨b, o, none⟩ (i * te.w)).add k = ⟨b, o + i * te.w + k, none⟩ := fun k => by
              unfold Addr.add
              split <;> split <;> simp <;> omega
            refine ⟨y, b, o, cs', rfl, trivial, fun j v hj => ?_, hy⟩
            have hj' := (List.getElem?_eq_some_iff.1 hj).1
            have := hat j (by omega)
            rw [add, hj] at this
            exact this
        have pick : ∀ n, n ≤ len → ∃ l : List D, l.length = n ∧ ∀ i (h : i < l.length), RdEl W (fun _ => True) l[i] te (some a) i := by
          intro n
          induction n with
          | zero => exact fun _ => ⟨[], rfl, fun i hi => by simp at hi⟩
          | succ n ihn =>
            intro hn
            obtain ⟨l, hl1, hl2⟩ := ihn (by omega)
            obtain ⟨t, ht⟩ := each n (by omega)
            refine ⟨l ++ [t], by simp [hl1], fun i hi => ?_⟩
            by_cases hin : i < l.length
            · rw [List.getElem_append_left hin]; exact hl2 i hin
            · obtain rfl : i = l.length := by simp at hi; omega
              rw [List.getElem_append_right (by omega)]
              simp [hl1]
              exact ht
        obtain ⟨l, hl1, hl2⟩ := pick len (Nat.le_refl _)
        exact ⟨.r l, E, te, some a, cap, rfl, hte, by rw [hl1], by omega, by omega, hm, rdE_iff.2 fun j hj => by rw [Nat.zero_add]; exact hl2 j hj⟩

/-- The value of the type, and its cells. -/
theorem open_D {T : TypeId} {t : Ty} (hT : tyOf T = some t) (hM : isMp t = false) {v : Value} {d : DataW H} {p : List MemPlace} {b0 : Nat} {r : Reach} (hv : Value.okWide Try.prog W r b0 T v) (h : DataW.Trod enc Try.prog W base spare held T v d p) (hL : LightD T d) :
    ∃ x cs, Pack t cs v ∧ Rd W (fun b => b < W.heap.size) x t cs := by
  obtain ⟨fuel, hf⟩ := h
  obtain ⟨y, hy⟩ := open_recD fuel _ _ hT hM hf hL
  refine ⟨y, v.cells.toList, ?_, Rd.keeps (fun b o _ ho => ⟨ho, lt_of_heap ho⟩) _ hy⟩
  cases t with
  | int k => obtain ⟨n, rfl⟩ := okWide_int (row_int hT).1 hv; rfl
  | bool => obtain ⟨n, rfl⟩ := okWide_bool (row_bool hT).1 hv; rfl
  | str => obtain ⟨n, rfl⟩ := okWide_string (row_str hT).1 hv; rfl
  | map K V => cases hM
  | row E => obtain ⟨A, l, c, rfl⟩ := okWide_slice (row_row hT).1 hv; rfl
  | st S =>
    obtain ⟨fields, fs, zc, i, hu, -⟩ := row_st hT
    obtain ⟨cs, rfl, -⟩ := okWide_struct hu hv
    simp [Pack, Value.cells]
end

/-- A law that is true on all data: what its call does. -/
def ArgsV (W : World) : List Ar → List Value → List D → Prop
  | [], vs, ds => vs = [] ∧ ds = []
  | .val t :: l, vs, ds => ∃ v r d ds', vs = v :: r ∧ ds = d :: ds' ∧ (∃ cs, Pack t cs v ∧ Rd W (FFD (fun _ => True) (fun _ => none) []) d t cs) ∧ ArgsV W l r ds'
  | _ :: _, _, _ => False
theorem ArgsV.ok {W : World} {V : List Value} : ∀ {i : Nat} {ar : List Ar} {vs : List Value} {ds : List D}, ArgsV W ar vs ds → ArgsOk V (fun _ => True) (fun _ => none) W (idx i ar) vs ds ∧ vs.length = ar.length
  | _, [], vs, ds, h => ⟨h, by rw [h.1]; rfl⟩
  | i, .val t :: l, vs, ds, ⟨v, r, d, ds', e1, e2, h1, h⟩ => by
    obtain ⟨h2, h3⟩ := ArgsV.ok (V := V) (i := i + 1) h
    exact ⟨⟨v, r, d, ds', e1, e2, h1, h2⟩, by rw [e1]; simp [h3]⟩
  | _, .ref _ :: _, _, _, h => h.elim
  | _, .rref _ :: _, _, _, h => h.elim
  | _, .nilp :: _, _, _, h => h.elim
  | _, .fn _ _ :: _, _, _, h => h.elim
  | _, .cell _ _ :: _, _, _, h => h.elim
theorem law_calls {ct : Ct} {g : List D → Option (List D)} (h : FOk ct g) (hrs : ct.rs = [(.bool, false)]) (hvr : ct.vr = []) {W : World} {vs : List Value} {ds : List D} (ha : ArgsV W ct.ar vs ds) (hg : g ds = some [.b true]) :
    Calls Try.prog ct.f vs.toArray W fun e W' => e = .returned (.bool true) ∧ But Nil W W' := by
  obtain ⟨h1, h2⟩ := ArgsV.ok (V := vs ++ []) (i := 0) ha
  refine (h.call (fun _ => True) (fun _ => none) W vs [] ds _ hg (by constructor <;> simp) h2 (by simpa [Ct.all, hvr, idx] using h1)).mono ?_
  rintro e W' ⟨rs, p', rfl, hb, hr, -⟩
  rw [hrs] at hr
  obtain ⟨v, r, d, ds', rfl, hd, ⟨cs, hp, hc⟩, rfl⟩ := hr
  simp at hd
  obtain ⟨rfl, rfl⟩ := hd
  obtain ⟨e1, e2⟩ : D.b true = .b true ∧ cs = [.bool true] := ⟨rfl, by
    have hc' : Rd W' (FFD (fun _ => True) p' []) (.b true) .bool cs := hc
    exact hc'.2⟩
  subst e2
  have hpv : [Value.bool true] = [v] := hp
  injection hpv with hpv
  subst hpv
  exact ⟨rfl, hb.but.mono fun i hi _ => by obtain ⟨x, hx⟩ := hi; cases hx⟩
end Go.Proofs.Ytcjapglipkmbhaa
