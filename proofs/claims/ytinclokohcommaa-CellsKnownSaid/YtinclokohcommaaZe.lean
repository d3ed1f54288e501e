/-
  Lemmas of the walk and plain laws, put together. No condition.
-/
import Derived.ChangeArms
import Derived.Deep.RegionLaw
import Derived.Lib.AppendZerosOnto
import Derived.OpenShut
import Derived.ProofKit
import Derived.Shelf.Spec.SlicesInsert
import Derived.SizedLaws
import Derived.StillTailTactics
import Derived.TacticsInMore
import Derived.Test.YtinclokohcommaaRows
import Derived.Test.YtinclokohcommaaZd
namespace Go.Proofs.Ytinclokohcommaa
open Go.RowKit
set_option linter.unusedVariables false
set_option linter.unusedSimpArgs false

theorem scan_ok {S : Nat → List D → Option (List D)} {R : List D → Prop} {id n : Nat} {x0 : X} {body : Tree} {l : List D} {B : Nat → List D → Prop} {v0 : D} (N : Nat) (P : Nat → Bool) (h0 : x0.ev (evl S l) = v0)
    (h : ∀ (k : Nat) (B' : Nat → List D → Prop), k ≤ N → (∀ j, j < k → P j = true) → (k < N → P k = true → B' id [v0, .i ((k : Int) + 1)]) → (∀ j, j ≠ id → B' j = B j) → body.go S R (l.take n ++ [v0, .i k]) B') : (Tree.loop id n [x0, .lit (.i 0)] body).go S R l B := by
  rw [go_loop]
  refine ⟨fun st => ∃ k : Nat, k ≤ N ∧ st = [v0, .i k] ∧ ∀ j, j < k → P j = true, fun st => N - (st.getD 1 .u).int.toNat, ⟨0, Nat.zero_le _, by simp [X.evs, X.ev, h0], fun j hj => absurd hj (Nat.not_lt_zero _)⟩, ?_⟩
  rintro st - ⟨k, hk, rfl, hP⟩
  refine h k _ hk hP (fun hlt hp => ?_) fun j hj => by rw [updB, if_neg hj]
  rw [updB, if_pos rfl]
  refine ⟨⟨k + 1, hlt, by simp, upto_succ hP hp⟩, ?_⟩
  simp [D.int]
  omega

def wkB (vc : So → Ce → Bool) (s : So) (w : Wk) : Bool := decide (1 ≤ w.ser) && (decide (w.ser ≤ s.ser) && (vc s w.att && vc s w.val))
def headB (s : So) : Bool := decide (1 ≤ s.mx) && (decide (s.mx ≤ 1048576) && (decide ((s.cs.length : Int) ≤ s.mx) && (decide (0 ≤ s.ser) && symsB s.ys)))
def validR (s : So) : Bool := headB s && ((List.range s.cs.length).all (fun i => cellR s (i : Nat)) && ((List.range s.tr.length).all (fun i => oldR s (s.tr.getD i default)) && (List.range s.wk.length).all fun i => wkB vcR s (s.wk.getD i default)))
def validP (s : So) : Bool := headB s && ((List.range s.cs.length).all (fun i => fitsP s (i : Nat)) && (acyP s && ((List.range s.tr.length).all (fun i => oldP s (s.tr.getD i default)) && (List.range s.wk.length).all fun i => wkB vcP s (s.wk.getD i default))))

theorem tag_nn {s : So} {n : Int} (h : 0 ≤ tagS s n) : inS s n = true := by
  cases hi : inS s n with
  | true => rfl
  | false => rw [tagS_out hi] at h; omega
theorem fits_acyQ {s : So} (hh : headB s = true) (h : ∀ j, j < s.cs.length → fitsP s (j : Nat) = true) : acyQ s = true := by
  simp only [headB, Bool.and_eq_true, decide_eq_true_eq] at hh
  simp only [acyQ, Bool.and_eq_true, decide_eq_true_eq]
  refine ⟨by omega, all_yes fun j hj => ?_⟩
  have := h j hj
  by_cases h0 : (cellAt s (j : Nat)).t = 0
  · simp only [fitsP, h0, vcP] at this
    have h1 : 0 ≤ tagS s (cellAt s (j : Nat)).n := by
      simp at this
      exact this.1
    simp [tag_nn h1]
  · simp [h0]

theorem ok_cells_Valid : FOk q1t (gSb validP) := fok_cells_Valid ok_cells_validSymbols ok_cells_fits ok_cells_acyclic ok_cells_validUndo q1p fun ds outs hw hg => by
  obtain ⟨d, r, rfl, hd, rfl⟩ := hw
  obtain ⟨s, rfl, hs⟩ := wfS hd
  simp only [gSb, dS_eS, Option.some.injEq] at hg
  subst hg
  have hl := hs.cs.1
  have hl2 := hs.tr.1
  have hl3 := hs.wk.1
  have hsy : gYsb symsB [D.r (s.ys.map eY)] = some [.b (symsB s.ys)] := by simp [gYsb, rs_r, map_id' dY_eY]
  rw [q35, q05]
  refine ⟨by simp only [q05, go_br, q06, q08, allSay, X.says, X.ev, X.evs, evl, tblS, List.getD_cons_zero, List.getD_cons_succ, List.getElem?_cons_zero, List.getElem?_cons_succ, tt_b, int_i, str_s, rs_r, Option.isSome_some, Option.getD_some, decide_eq_true_eq, decide_eq_false_iff_not, dS_eS, dC_eC, dU_eU, dW_eW, dY_eY, eC_0, eC_1, eU_0, eU_1, eW_0, eW_1, eW_2, eY_0, eY_1, eS_0, eS_1, eS_2, eS_3, eS_4, eS_5, List.length_map, i_inj, b_inj, s_inj, eC_eq, eU_eq, eW_eq, eY_eq, eS_eq, rng64, List.take_succ_cons, List.take_zero, List.nil_append, List.cons_append, decide_true, decide_false, Bool.or_true, true_and, and_true, hsy], ?_⟩
  rw [go_br]
  have hcond : (X.ev (evl (tblS [(q0l, gYsb symsB), (q1b, gSIbP cellQ fitsP), (q12, gSbP acyQ acyP), (q0w, gSUb oldP), (q02, gSCb vcP)]) [eS s]) (.or (.or (.or (.or (.lt (.fld (.tok 0) 5) (.lit (.i 1))) (.lt (.lit (.i 1048576)) (.fld (.tok 0) 5))) (.lt (.fld (.tok 0) 5) (.len (.fld (.tok 0) 0)))) (.lt (.fld (.tok 0) 4) (.lit (.i 0)))) (.not (.call 0 0 [(.fld (.tok 0) 1)])))).tt = !headB s := by
    simp only [q05, go_br, q06, q08, allSay, X.says, X.ev, X.evs, evl, tblS, List.getD_cons_zero, List.getD_cons_succ, List.getElem?_cons_zero, List.getElem?_cons_succ, tt_b, int_i, str_s, rs_r, Option.isSome_some, Option.getD_some, decide_eq_true_eq, decide_eq_false_iff_not, dS_eS, dC_eC, dU_eU, dW_eW, dY_eY, eC_0, eC_1, eU_0, eU_1, eW_0, eW_1, eW_2, eY_0, eY_1, eS_0, eS_1, eS_2, eS_3, eS_4, eS_5, List.length_map, i_inj, b_inj, s_inj, eC_eq, eU_eq, eW_eq, eY_eq, eS_eq, rng64, List.take_succ_cons, List.take_zero, List.nil_append, List.cons_append, decide_true, decide_false, Bool.or_true, true_and, and_true, hsy, headB]
    by_cases h1 : s.mx < 1
    · have : ¬ 1 ≤ s.mx := by omega
      simp [h1, this]
    · by_cases h2 : 1048576 < s.mx
      · have : ¬ s.mx ≤ 1048576 := by omega
        simp [h2, this]
      · by_cases h3 : s.mx < s.cs.length
        · have : ¬ (s.cs.length : Int) ≤ s.mx := by omega
          simp [h3, this]
        · by_cases h4 : s.ser < 0
          · have : ¬ 0 ≤ s.ser := by omega
            simp [h4, this]
          · have a1 : 1 ≤ s.mx := by omega
            have a2 : s.mx ≤ 1048576 := by omega
            have a3 : (s.cs.length : Int) ≤ s.mx := by omega
            have a4 : 0 ≤ s.ser := by omega
            simp [h1, h2, h3, h4, a1, a2, a3, a4]
  refine ⟨fun hx => ?_, fun hx => ?_⟩
  · have hh : headB s = false := by
      have := hcond.symm.trans hx
      simpa using this
    simp [q06, X.evs, X.ev, validP, hh]
  have hh : headB s = true := by
    have := hcond.symm.trans hx
    simpa using this
  have hsy2 : symsB s.ys = true := by
    simp only [headB, Bool.and_eq_true] at hh
    exact hh.2.2.2.2
  refine scan_ok s.cs.length (fun i => fitsP s (i : Nat)) (v0 := .b false) rfl fun k B' hk hP hB _ => ?_
  rw [go_br]
  refine ⟨fun hlt => ?_, fun hlt => ?_⟩
  · have hkl : k < s.cs.length := by simpa [X.ev, evl, eS_0, D.int, D.rs, D.tt] using hlt
    have hin : inS s (k : Nat) = true := inS_iff.2 ⟨by omega, by omega⟩
    have hQ : cellQ s (k : Nat) = true := by simp [cellQ, hin, hsy2]
    simp only [q05, go_br, q06, q08, allSay, X.says, X.ev, X.evs, evl, tblS, List.getD_cons_zero, List.getD_cons_succ, List.getElem?_cons_zero, List.getElem?_cons_succ, tt_b, int_i, str_s, rs_r, Option.isSome_some, Option.getD_some, decide_eq_true_eq, decide_eq_false_iff_not, dS_eS, dC_eC, dU_eU, dW_eW, dY_eY, eC_0, eC_1, eU_0, eU_1, eW_0, eW_1, eW_2, eY_0, eY_1, eS_0, eS_1, eS_2, eS_3, eS_4, eS_5, List.length_map, i_inj, b_inj, s_inj, eC_eq, eU_eq, eW_eq, eY_eq, eS_eq, rng64, List.take_succ_cons, List.take_zero, List.nil_append, List.cons_append, decide_true, decide_false, Bool.or_true, true_and, and_true, gSIbP, hQ, if_true]
    refine ⟨fun hb => ?_, fun hb => ⟨⟨by omega, by omega⟩, ?_⟩⟩
    · have : fitsP s (k : Nat) = false := by simpa using hb
      have := all_not (P := fun i => fitsP s (i : Nat)) hkl this
      simp [validP, this]
    · exact hB hkl (by simpa using hb)
  have hc : (List.range s.cs.length).all (fun i => fitsP s (i : Nat)) = true := by
    have : k = s.cs.length := by
      have : ¬ (k < s.cs.length) := by simpa [X.ev, evl, eS_0, D.int, D.rs, D.tt] using hlt
      omega
    subst this
    exact all_yes hP
  have hq : acyQ s = true := fits_acyQ hh fun j hj => all_of (P := fun i => fitsP s (i : Nat)) hc hj
  rw [q05]
  refine ⟨by simp only [q05, go_br, q06, q08, allSay, X.says, X.ev, X.evs, evl, tblS, List.getD_cons_zero, List.getD_cons_succ, List.getElem?_cons_zero, List.getElem?_cons_succ, tt_b, int_i, str_s, rs_r, Option.isSome_some, Option.getD_some, decide_eq_true_eq, decide_eq_false_iff_not, dS_eS, dC_eC, dU_eU, dW_eW, dY_eY, eC_0, eC_1, eU_0, eU_1, eW_0, eW_1, eW_2, eY_0, eY_1, eS_0, eS_1, eS_2, eS_3, eS_4, eS_5, List.length_map, i_inj, b_inj, s_inj, eC_eq, eU_eq, eW_eq, eY_eq, eS_eq, rng64, List.take_succ_cons, List.take_zero, List.nil_append, List.cons_append, decide_true, decide_false, Bool.or_true, true_and, and_true, gSbP, hq, if_true], ?_⟩
  rw [go_br]
  refine ⟨fun hb => ?_, fun hb => ?_⟩
  · have : acyP s = false := by
      simp only [q05, go_br, q06, q08, allSay, X.says, X.ev, X.evs, evl, tblS, List.getD_cons_zero, List.getD_cons_succ, List.getElem?_cons_zero, List.getElem?_cons_succ, tt_b, int_i, str_s, rs_r, Option.isSome_some, Option.getD_some, decide_eq_true_eq, decide_eq_false_iff_not, dS_eS, dC_eC, dU_eU, dW_eW, dY_eY, eC_0, eC_1, eU_0, eU_1, eW_0, eW_1, eW_2, eY_0, eY_1, eS_0, eS_1, eS_2, eS_3, eS_4, eS_5, List.length_map, i_inj, b_inj, s_inj, eC_eq, eU_eq, eW_eq, eY_eq, eS_eq, rng64, List.take_succ_cons, List.take_zero, List.nil_append, List.cons_append, decide_true, decide_false, Bool.or_true, true_and, and_true, gSbP, hq, if_true] at hb
      simpa only [Bool.not_eq_true'] using hb
    simp only [q06, X.evs, X.ev, validP, this, Bool.false_and, Bool.and_false]
  have ha : acyP s = true := by
    simp only [q05, go_br, q06, q08, allSay, X.says, X.ev, X.evs, evl, tblS, List.getD_cons_zero, List.getD_cons_succ, List.getElem?_cons_zero, List.getElem?_cons_succ, tt_b, int_i, str_s, rs_r, Option.isSome_some, Option.getD_some, decide_eq_true_eq, decide_eq_false_iff_not, dS_eS, dC_eC, dU_eU, dW_eW, dY_eY, eC_0, eC_1, eU_0, eU_1, eW_0, eW_1, eW_2, eY_0, eY_1, eS_0, eS_1, eS_2, eS_3, eS_4, eS_5, List.length_map, i_inj, b_inj, s_inj, eC_eq, eU_eq, eW_eq, eY_eq, eS_eq, rng64, List.take_succ_cons, List.take_zero, List.nil_append, List.cons_append, decide_true, decide_false, Bool.or_true, true_and, and_true, gSbP, hq, if_true] at hb
    simpa only [Bool.not_eq_false'] using hb
  refine scan_ok s.tr.length (fun i => oldP s (s.tr.getD i default)) (v0 := .b false) rfl fun k B' hk hP hB _ => ?_
  rw [go_br]
  refine ⟨fun hlt => ?_, fun hlt => ?_⟩
  · have hkl : k < s.tr.length := by simpa [X.ev, evl, eS_2, D.int, D.rs, D.tt] using hlt
    simp only [q05, go_br, q06, q08, allSay, X.says, X.ev, X.evs, evl, tblS, List.getD_cons_zero, List.getD_cons_succ, List.getElem?_cons_zero, List.getElem?_cons_succ, tt_b, int_i, str_s, rs_r, Option.isSome_some, Option.getD_some, decide_eq_true_eq, decide_eq_false_iff_not, dS_eS, dC_eC, dU_eU, dW_eW, dY_eY, eC_0, eC_1, eU_0, eU_1, eW_0, eW_1, eW_2, eY_0, eY_1, eS_0, eS_1, eS_2, eS_3, eS_4, eS_5, List.length_map, i_inj, b_inj, s_inj, eC_eq, eU_eq, eW_eq, eY_eq, eS_eq, rng64, List.take_succ_cons, List.take_zero, List.nil_append, List.cons_append, decide_true, decide_false, Bool.or_true, true_and, and_true, gSUb, get_n eU hkl]
    refine ⟨⟨by omega, by omega⟩, fun hb => ?_, fun hb => ⟨⟨by omega, by omega⟩, ?_⟩⟩
    · have : oldP s (s.tr.getD k default) = false := by simpa only [Bool.not_eq_true'] using hb
      have := all_not (P := fun i => oldP s (s.tr.getD i default)) hkl this
      simp only [validP, this, Bool.false_and, Bool.and_false]
    · exact hB hkl (by simpa only [Bool.not_eq_false'] using hb)
  have hc2 : (List.range s.tr.length).all (fun i => oldP s (s.tr.getD i default)) = true := by
    have : k = s.tr.length := by
      have : ¬ (k < s.tr.length) := by simpa [X.ev, evl, eS_2, D.int, D.rs, D.tt] using hlt
      omega
    subst this
    exact all_yes hP
  refine scan_ok s.wk.length (fun i => wkB vcP s (s.wk.getD i default)) (v0 := .b false) rfl fun k B' hk hP hB _ => ?_
  rw [go_br]
  refine ⟨fun hlt => ?_, fun hlt => ?_⟩
  · have hkl : k < s.wk.length := by simpa [X.ev, evl, eS_3, D.int, D.rs, D.tt] using hlt
    simp only [q05, go_br, q06, q08, allSay, X.says, X.ev, X.evs, evl, tblS, List.getD_cons_zero, List.getD_cons_succ, List.getElem?_cons_zero, List.getElem?_cons_succ, tt_b, int_i, str_s, rs_r, Option.isSome_some, Option.getD_some, decide_eq_true_eq, decide_eq_false_iff_not, dS_eS, dC_eC, dU_eU, dW_eW, dY_eY, eC_0, eC_1, eU_0, eU_1, eW_0, eW_1, eW_2, eY_0, eY_1, eS_0, eS_1, eS_2, eS_3, eS_4, eS_5, List.length_map, i_inj, b_inj, s_inj, eC_eq, eU_eq, eW_eq, eY_eq, eS_eq, rng64, List.take_succ_cons, List.take_zero, List.nil_append, List.cons_append, decide_true, decide_false, Bool.or_true, true_and, and_true, gSCb, get_n eW hkl]
    have hw : ((decide ((s.wk.getD k default).ser < 1) || decide (s.ser < (s.wk.getD k default).ser) || !vcP s (s.wk.getD k default).att || !vcP s (s.wk.getD k default).val)) = !wkB vcP s (s.wk.getD k default) := by
      generalize s.wk.getD k default = w
      simp only [wkB]
      by_cases h1 : w.ser < 1
      · have : ¬ 1 ≤ w.ser := by omega
        simp [h1, this]
      · by_cases h2 : s.ser < w.ser
        · have : ¬ w.ser ≤ s.ser := by omega
          simp [h2, this]
        · have a1 : 1 ≤ w.ser := by omega
          have a2 : w.ser ≤ s.ser := by omega
          simp [h1, h2, a1, a2]
    refine ⟨⟨by omega, by omega⟩, fun hb => ?_, fun hb => ⟨⟨by omega, by omega⟩, ?_⟩⟩
    · rw [hw] at hb
      have := all_not (P := fun i => wkB vcP s (s.wk.getD i default)) hkl (by simpa only [Bool.not_eq_true'] using hb)
      simp only [validP, this, Bool.and_false]
    · rw [hw] at hb
      exact hB hkl (by simpa only [Bool.not_eq_false'] using hb)
  have hc3 : (List.range s.wk.length).all (fun i => wkB vcP s (s.wk.getD i default)) = true := by
    have : k = s.wk.length := by
      have : ¬ (k < s.wk.length) := by simpa [X.ev, evl, eS_3, D.int, D.rs, D.tt] using hlt
      omega
    subst this
    exact all_yes hP
  simp only [q06, X.evs, X.ev, validP, hh, hc, ha, hc2, hc3, Bool.and_true]
end Go.Proofs.Ytinclokohcommaa


namespace Go.Proofs.Ytinclokohcommaa
open Go.RowKit
set_option linter.unusedVariables false
set_option linter.unusedSimpArgs false

def rowQ (n : Nat) (d : D) : Bool := decide (d.rs.length ≤ n)
theorem rowQ_r (n : Nat) (l : List D) : (rowQ n (.r l) = true) = (l.length ≤ n) := by simp only [rowQ, decide_eq_true_eq]; rfl
def gCl (n : Nat) : List D → Option (List D)
  | [a] => if rowQ n a then some [a] else none
  | _ => none
def clT (n : Nat) : Tree := (.amb (.tok 0) .false (.leaf [(.lit (.r []))]) (.need [(.le (.add (.lit (.i 0)) (.len (.tok 0))) (.lit (.i (n : Nat))))] (.leaf [(.app (.row []) (.tok 0))])))
theorem clT_ok {S : Nat → List D → Option (List D)} {l : List D} {R : List D → Prop} {B : Nat → List D → Prop} {n : Nat} (hl : l.length ≤ n) (hR : R [.r l]) : (clT n).go S R [.r l] B := by
  refine ⟨fun h => ?_, fun _ => ?_⟩
  · have : l = [] := h rfl
    subst this
    exact hR
  · rw [q05]
    refine ⟨by simp only [q05, go_br, q06, q08, allSay, X.says, X.ev, X.evs, evl, tblS, List.getD_cons_zero, List.getD_cons_succ, List.getElem?_cons_zero, List.getElem?_cons_succ, tt_b, int_i, str_s, rs_r, Option.isSome_some, Option.getD_some, decide_eq_true_eq, decide_eq_false_iff_not, dS_eS, dC_eC, dU_eU, dW_eW, dY_eY, eC_0, eC_1, eU_0, eU_1, eW_0, eW_1, eW_2, eY_0, eY_1, eS_0, eS_1, eS_2, eS_3, eS_4, eS_5, List.length_map, i_inj, b_inj, s_inj, eC_eq, eU_eq, eW_eq, eY_eq, eS_eq, rng64, List.take_succ_cons, List.take_zero, List.nil_append, List.cons_append, decide_true, decide_false, Bool.or_true, true_and, and_true]; omega, ?_⟩
    simpa [q06, X.evs, X.ev, evl, D.rs] using hR
end Go.Proofs.Ytinclokohcommaa


namespace Go.Proofs.Ytinclokohcommaa
open Go.RowKit
set_option linter.unusedVariables false
set_option maxRecDepth 100000

def g_cells_New : List D → Option (List D) := denF [] 12 q42
theorem ok_cells_New_c : FOk q1m g_cells_New := fok_cells_New  fun ds outs hw hg => q0d hg
def g_law30_x : List D → Option (List D) := denF [] 12 tree_law30_x
theorem ok_law30_x_c : FOk q1u g_law30_x := fok_law30_x  fun ds outs hw hg => q0d hg
def g_law30_f : List D → Option (List D) := denF [] 12 tree_law30_f
theorem ok_law30_f_c : FOk q1v g_law30_f := fok_law30_f  fun ds outs hw hg => q0d hg
def g_cells_find : List D → Option (List D) := denF [] 12 q3k
theorem ok_cells_find_c : FOk q0y g_cells_find := fok_cells_find  fun ds outs hw hg => q0d hg
def g_cells_Symbol : List D → Option (List D) := denF [(q0y, g_cells_find)] 12 q2z
theorem ok_cells_Symbol_c : FOk q11 g_cells_Symbol := fok_cells_Symbol ok_cells_find_c fun ds outs hw hg => q0d hg
def g_cmp_isNaN_int64 : List D → Option (List D) := denF [] 12 q28
theorem ok_cmp_isNaN_int64_c : FOk q0x g_cmp_isNaN_int64 := fok_cmp_isNaN_int64  fun ds outs hw hg => q0d hg
def g_cmp_Compare_int64 : List D → Option (List D) := denF [(q0x, g_cmp_isNaN_int64)] 12 q25
theorem ok_cmp_Compare_int64_c : FOk q0r g_cmp_Compare_int64 := fok_cmp_Compare_int64 ok_cmp_isNaN_int64_c fun ds outs hw hg => q0d hg
def g_cells_byVar : List D → Option (List D) := denF [(q0r, g_cmp_Compare_int64)] 12 q33
theorem ok_cells_byVar_c : FOk q17 g_cells_byVar := fok_cells_byVar ok_cmp_Compare_int64_c fun ds outs hw hg => q0d hg
def g_slices_BinarySearchFunc_VarCell : List D → Option (List D) := denF [(q17, g_cells_byVar)] 12 q18
theorem q1w : FOk q03 g_slices_BinarySearchFunc_VarCell := q2w ok_cells_byVar_c fun ds outs hw hg => q0d hg
def g_cells_kept : List D → Option (List D) := denF [] 12 q3l
theorem ok_cells_kept_c : FOk q1g g_cells_kept := fok_cells_kept  fun ds outs hw hg => q0d hg
def g_cells_Fresh : List D → Option (List D) := denF [] 12 q36
theorem ok_cells_Fresh_c : FOk q16 g_cells_Fresh := fok_cells_Fresh  fun ds outs hw hg => q0d hg
def g_slices_Insert_VarCell : List D → Option (List D) := denF [] 12 q1y
theorem q47 : FOk q0j g_slices_Insert_VarCell := q49  fun ds outs hw hg => q0d hg
def G_cells_Put_1 (r : List D → Option (List D)) : List D → Option (List D) := denF [(q0u, r), (q11, g_cells_Symbol), (q03, g_slices_BinarySearchFunc_VarCell), (q1g, g_cells_kept), (q16, g_cells_Fresh), (q0j, g_slices_Insert_VarCell)] 12 q3c
def g_cells_Put_1 : List D → Option (List D) := upN G_cells_Put_1 6
theorem ok_cells_Put_1_c : FOk q0u g_cells_Put_1 := fok_up enter_cells_Put_1 (fun r hr => fok_cells_Put_1 hr ok_cells_Symbol_c q1w ok_cells_kept_c ok_cells_Fresh_c q47 fun ds outs hw hg => q0d hg) 6
def G_term_Size_1 (r : List D → Option (List D)) : List D → Option (List D) := denF [(q0p, r)] 12 q2f
def g_term_Size_1 : List D → Option (List D) := upN G_term_Size_1 6
theorem ok_term_Size_1_c : FOk q0p g_term_Size_1 := fok_up q30 (fun r hr => fok_term_Size_1 hr fun ds outs hw hg => q0d hg) 6
def g_term_Size : List D → Option (List D) := denF [(q0p, g_term_Size_1)] 12 q2t
theorem ok_term_Size_c : FOk q19 g_term_Size := fok_term_Size ok_term_Size_1_c fun ds outs hw hg => q0d hg
def G_term_fits (r : List D → Option (List D)) : List D → Option (List D) := denF [(q0m, r)] 12 q2s
def g_term_fits : List D → Option (List D) := upN G_term_fits 6
theorem ok_term_fits_c : FOk q0m g_term_fits := fok_up q3h (fun r hr => fok_term_fits hr fun ds outs hw hg => q0d hg) 6
def g_term_Valid : List D → Option (List D) := denF [(q19, g_term_Size), (q0m, g_term_fits)] 12 q2k
theorem ok_term_Valid_c : FOk q0k g_term_Valid := fok_term_Valid ok_term_Size_c ok_term_fits_c fun ds outs hw hg => q0d hg
def g_cells_arity : List D → Option (List D) := denF [] 12 q2a
theorem ok_cells_arity_c : FOk q0i g_cells_arity := fok_cells_arity  fun ds outs hw hg => q0d hg
def g_cells_tag : List D → Option (List D) := denF [] 12 q2v
theorem q41 : FOk q0a g_cells_tag := fok_cells_tag  fun ds outs hw hg => q0d hg
def g_cells_ValidCell : List D → Option (List D) := denF [(q0i, g_cells_arity), (q0a, g_cells_tag)] 12 q21
theorem q2c : FOk q02 g_cells_ValidCell := q3v ok_cells_arity_c q41 fun ds outs hw hg => q0d hg
def g_cells_validVars : List D → Option (List D) := denF [(q02, g_cells_ValidCell)] 12 q20
theorem ok_cells_validVars_c : FOk q0h g_cells_validVars := q3r q2c fun ds outs hw hg => q0d hg
def G_cells_room_1 (r : List D → Option (List D)) : List D → Option (List D) := denF [(q0n, r), (q0y, g_cells_find)] 12 q2y
def g_cells_room_1 : List D → Option (List D) := upN G_cells_room_1 6
theorem ok_cells_room_1_c : FOk q0n g_cells_room_1 := fok_up q43 (fun r hr => fok_cells_room_1 hr ok_cells_find_c fun ds outs hw hg => q0d hg) 6
def g_cells_room : List D → Option (List D) := denF [(q0n, g_cells_room_1), (q03, g_slices_BinarySearchFunc_VarCell)] 12 q3g
theorem ok_cells_room_c : FOk q1e g_cells_room := fok_cells_room ok_cells_room_1_c q1w fun ds outs hw hg => q0d hg
def g_slices_Clone_VarCell : List D → Option (List D) := denF [] 12 q1z
theorem q4b : FOk q0b g_slices_Clone_VarCell := q2p  fun ds outs hw hg => q0d hg
def g_cells_Put : List D → Option (List D) := denF [(q0u, g_cells_Put_1), (q0k, g_term_Valid), (q0h, g_cells_validVars), (q1e, g_cells_room), (q0b, g_slices_Clone_VarCell)] 12 q3z
theorem ok_cells_Put_c : FOk q1i g_cells_Put := fok_cells_Put ok_cells_Put_1_c ok_term_Valid_c ok_cells_validVars_c ok_cells_room_c q4b fun ds outs hw hg => q0d hg
def g_law30_str : List D → Option (List D) := denF [] 12 q3y
theorem ok_law30_str_c : FOk q1j g_law30_str := fok_law30_str  fun ds outs hw hg => q0d hg
def g_law30_ref : List D → Option (List D) := denF [] 12 q3x
theorem ok_law30_ref_c : FOk q1k g_law30_ref := fok_law30_ref  fun ds outs hw hg => q0d hg
def g_law30_vars : List D → Option (List D) := denF [] 12 q3n
theorem ok_law30_vars_c : FOk q1n g_law30_vars := fok_law30_vars  fun ds outs hw hg => q0d hg
def g_cells_Deref : List D → Option (List D) := denF [(q02, g_cells_ValidCell), (q0a, g_cells_tag)] 12 q2d
theorem q37 : FOk q0q g_cells_Deref := fok_cells_Deref q2c q41 fun ds outs hw hg => q0d hg
def g_term_Int : List D → Option (List D) := denF [] 12 q32
theorem ok_term_Int_c : FOk q1l g_term_Int := fok_term_Int  fun ds outs hw hg => q0d hg
def g_term_Clone_1 : List D → Option (List D) := denF [] 12 q26
theorem ok_term_Clone_1_c : FOk q10 g_term_Clone_1 := fok_term_Clone_1  fun ds outs hw hg => q0d hg
def G_term_apply (r : List D → Option (List D)) : List D → Option (List D) := denF [(q10, g_term_Clone_1), (q0v, r)] 12 q2l
def g_term_apply : List D → Option (List D) := upN G_term_apply 6
theorem ok_term_apply_c : FOk q0v g_term_apply := fok_up q39 (fun r hr => fok_term_apply ok_term_Clone_1_c hr fun ds outs hw hg => q0d hg) 6
def g_term_Clone : List D → Option (List D) := denF [(q0k, g_term_Valid), (q0v, g_term_apply)] 12 q2j
theorem ok_term_Clone_c : FOk q14 g_term_Clone := fok_term_Clone ok_term_Valid_c ok_term_apply_c fun ds outs hw hg => q0d hg
def g_term_Atom : List D → Option (List D) := denF [(q14, g_term_Clone)] 12 q2r
theorem ok_term_Atom_c : FOk q1a g_term_Atom := fok_term_Atom ok_term_Clone_c fun ds outs hw hg => q0d hg
def G_cells_Get_1 (r : List D → Option (List D)) : List D → Option (List D) := denF [(q0o, r), (q0q, g_cells_Deref), (q1l, g_term_Int), (q0i, g_cells_arity), (q1a, g_term_Atom), (q0a, g_cells_tag)] 12 q2b
def g_cells_Get_1 : List D → Option (List D) := upN G_cells_Get_1 6
theorem ok_cells_Get_1_c : FOk q0o g_cells_Get_1 := fok_up q2x (fun r hr => fok_cells_Get_1 hr q37 ok_term_Int_c ok_cells_arity_c ok_term_Atom_c q41 fun ds outs hw hg => q0d hg) 6
def g_cells_Get : List D → Option (List D) := denF [(q0o, g_cells_Get_1), (q02, g_cells_ValidCell)] 12 q2u
theorem ok_cells_Get_c : FOk q13 g_cells_Get := fok_cells_Get ok_cells_Get_1_c q2c fun ds outs hw hg => q0d hg
def G_ref03_Count (r : List D → Option (List D)) : List D → Option (List D) := denF [(q0s, r)] 12 q34
def g_ref03_Count : List D → Option (List D) := upN G_ref03_Count 6
theorem ok_ref03_Count_c : FOk q0s g_ref03_Count := fok_up enter_ref03_Count (fun r hr => fok_ref03_Count hr fun ds outs hw hg => q0d hg) 6
def g_ref03_Size : List D → Option (List D) := denF [(q0s, g_ref03_Count)] 12 q3j
theorem ok_ref03_Size_c : FOk q1c g_ref03_Size := fok_ref03_Size ok_ref03_Count_c fun ds outs hw hg => q0d hg
def g_ref03_node : List D → Option (List D) := denF [] 12 q3f
theorem ok_ref03_node_c : FOk q1f g_ref03_node := fok_ref03_node  fun ds outs hw hg => q0d hg
def G_ref03_nodes (r : List D → Option (List D)) : List D → Option (List D) := denF [(q1f, g_ref03_node), (q0t, r)] 12 q3a
def g_ref03_nodes : List D → Option (List D) := upN G_ref03_nodes 6
theorem ok_ref03_nodes_c : FOk q0t g_ref03_nodes := fok_up enter_ref03_nodes (fun r hr => fok_ref03_nodes ok_ref03_node_c hr fun ds outs hw hg => q0d hg) 6
def g_ref03_Valid : List D → Option (List D) := denF [(q1c, g_ref03_Size), (q0t, g_ref03_nodes)] 12 q38
theorem ok_ref03_Valid_c : FOk q15 g_ref03_Valid := fok_ref03_Valid ok_ref03_Size_c ok_ref03_nodes_c fun ds outs hw hg => q0d hg
def G_ref03_identical (r : List D → Option (List D)) : List D → Option (List D) := denF [(q0g, r)] 12 q2e
def g_ref03_identical : List D → Option (List D) := upN G_ref03_identical 6
theorem ok_ref03_identical_c : FOk q0g g_ref03_identical := fok_up q3d (fun r hr => fok_ref03_identical hr fun ds outs hw hg => q0d hg) 6
def g_ref03_Same : List D → Option (List D) := denF [(q15, g_ref03_Valid), (q0g, g_ref03_identical)] 12 q3o
theorem ok_ref03_Same_c : FOk q1d g_ref03_Same := fok_ref03_Same ok_ref03_Valid_c ok_ref03_identical_c fun ds outs hw hg => q0d hg
end Go.Proofs.Ytinclokohcommaa


namespace Go.Proofs.Ytinclokohcommaa
open Go.RowKit
set_option linter.unusedVariables false
set_option maxRecDepth 100000

def gYes : List D → Option (List D) := fun _ => some [.b true]
theorem ok_law30_awake : FOk q1r gYes := fok_law30_awake ok_cells_New_c ok_law30_x_c ok_law30_f_c ok_cells_Put_c ok_law30_str_c ok_law30_ref_c ok_law30_vars_c ok_cells_Get_c ok_ref03_Same_c q37 fun ds outs hw hg => by
  obtain rfl : ds = [] := hw
  simp only [gYes, Option.some.injEq] at hg
  subst hg
  exact q0d (fuel := 12) (by kernel_rfl)
end Go.Proofs.Ytinclokohcommaa


namespace Go.Proofs.Ytinclokohcommaa
open Go.RowKit
set_option linter.unusedVariables false
set_option linter.unusedSimpArgs false

end Go.Proofs.Ytinclokohcommaa


namespace Go.Proofs.Ytinclokohcommaa
open Go.RowKit
set_option linter.unusedVariables false
set_option linter.unusedSimpArgs false

end Go.Proofs.Ytinclokohcommaa


namespace Go.Proofs.Ytinclokohcommaa
open Go.RowKit
set_option linter.unusedVariables false
set_option maxRecDepth 100000

end Go.Proofs.Ytinclokohcommaa


namespace Go.Proofs.Ytinclokohcommaa
open Go.RowKit
set_option linter.unusedVariables false
set_option linter.unusedSimpArgs false

structure VS (s : So) : Prop where
  tag : ∀ i : Int, inS s i = true → 0 ≤ (cellAt s i).t ∧ (cellAt s i).t ≤ 5
theorem vcR_tag {s : So} {c : Ce} (h : vcR s c = true) : c.t = 0 ∨ c.t = 1 ∨ c.t = 2 ∨ c.t = 3 ∨ c.t = 5 := by
  unfold vcR at h
  by_cases h0 : c.t = 0
  · exact .inl h0
  · by_cases h1 : c.t = 1
    · exact .inr (.inl h1)
    · by_cases h2 : c.t = 2
      · exact .inr (.inr (.inl h2))
      · by_cases h3 : c.t = 3
        · exact .inr (.inr (.inr (.inl h3)))
        · by_cases h5 : c.t = 5
          · exact .inr (.inr (.inr (.inr h5)))
          · simp [h0, h1, h2, h3, h5] at h
theorem validR_vs {s : So} (h : validR s = true) : VS s := by
  simp only [validR, Bool.and_eq_true] at h
  refine ⟨fun i hi => ?_⟩
  have h1 := inS_iff.1 hi
  have hk := all_of h.2.1 (k := i.toNat) (by omega)
  rw [show ((i.toNat : Nat) : Int) = i by omega] at hk
  unfold cellR at hk
  by_cases h4 : (cellAt s i).t = 4
  · omega
  · rw [if_neg h4] at hk
    simp only [Bool.and_eq_true] at hk
    have := vcR_tag hk.1
    omega
theorem VS.tag_in {s : So} (h : VS s) (n : Int) : decide (0 ≤ tagS s n) = inS s n := by
  cases hi : inS s n with
  | true =>
    rw [tagS_in hi]
    exact decide_eq_true (h.tag n hi).1
  | false =>
    rw [tagS_out hi]
    decide
theorem VS.vc {s : So} (h : VS s) (c : Ce) : vcP s c = vcR s c := by
  unfold vcP vcR
  rw [h.tag_in]
theorem VS.old {s : So} (h : VS s) (u : Un) : oldP s u = oldR s u := by
  simp only [oldP, oldR, oldB, h.tag_in, h.vc]
theorem VS.cell {s : So} (h : VS s) {i : Int} (hi : inS s i = true) : cellR s i = (fitsP s i && endsB s i) := by
  have h1 := inS_iff.1 hi
  have ht := tagS_in hi
  unfold cellR fitsP
  by_cases h4 : (cellAt s i).t = 4
  · rw [if_pos h4, if_pos h4]
    have he : endsB s i = true := (En.st (fun hn => by have := hn.1; omega)).ends
    rw [he, Bool.and_true]
    by_cases ha : 1 ≤ arS s (cellAt s i).n
    · rw [decide_eq_true ha, Bool.true_and, Bool.true_and]
      generalize harr : arS s (cellAt s i).n = ar at ha
      rw [Bool.eq_iff_iff]
      simp only [Bool.and_eq_true, List.all_eq_true, List.mem_range, Bool.not_eq_true', decide_eq_false_iff_not, decide_eq_true_eq]
      constructor
      · rintro ⟨q1, q2⟩ j hj
        refine ⟨?_, q2 j hj⟩
        have hin : inS s (i + ((j : Int) + 1)) = true := by
          have := inS_iff.1 q1
          exact inS_iff.2 ⟨by omega, by omega⟩
        rw [tagS_in hin]
        exact (h.tag _ hin).1
      · intro q
        refine ⟨?_, fun j hj => (q j hj).2⟩
        have h2 := (q (ar.toNat - 1) (by omega)).1
        have h3 := h.tag_in (i + (((ar.toNat - 1 : Nat) : Int) + 1))
        rw [decide_eq_true h2] at h3
        have e : i + (((ar.toNat - 1 : Nat) : Int) + 1) = i + ar := by omega
        rw [e] at h3
        exact h3.symm
    · rw [decide_eq_false ha]
      rfl
  · rw [if_neg h4, if_neg h4]
    by_cases h5 : (cellAt s i).t = 5
    · rw [if_pos h5]
      have hd : decide ((cellAt s i).t = 5) = true := decide_eq_true h5
      rw [hd]
      by_cases hn : (cellAt s i).n = i
      · have hv : vcR s (cellAt s i) = true := by
          unfold vcR
          simp [h5, hn, ht]
        rw [hv, decide_eq_true hn]
        simp [Bool.and_comm]
      · rw [decide_eq_false hn]
        simp
    · rw [if_neg h5, decide_eq_false h5, h.vc]
      simp
theorem all_congr {n : Nat} {P Q : Nat → Bool} (h : ∀ j, j < n → P j = Q j) : (List.range n).all P = (List.range n).all Q := by
  rw [Bool.eq_iff_iff, List.all_eq_true, List.all_eq_true]
  exact ⟨fun q j hj => (h j (List.mem_range.1 hj)) ▸ q j hj, fun q j hj => (h j (List.mem_range.1 hj)).symm ▸ q j hj⟩
theorem all_and {n : Nat} {P Q : Nat → Bool} : ((List.range n).all fun j => P j && Q j) = ((List.range n).all P && (List.range n).all Q) := by
  rw [Bool.eq_iff_iff]
  simp only [List.all_eq_true, Bool.and_eq_true]
  exact ⟨fun q => ⟨fun j hj => (q j hj).1, fun j hj => (q j hj).2⟩, fun q j hj => ⟨q.1 j hj, q.2 j hj⟩⟩
theorem VS.valid {s : So} (h : VS s) : validP s = validR s := by
  have e1 : ((List.range s.cs.length).all fun i => cellR s (i : Nat)) = ((List.range s.cs.length).all (fun i => fitsP s (i : Nat)) && acyP s) := by
    unfold acyP
    rw [← all_and]
    exact all_congr fun j hj => h.cell (inS_iff.2 ⟨by omega, by omega⟩)
  have e2 : ((List.range s.tr.length).all fun i => oldP s (s.tr.getD i default)) = (List.range s.tr.length).all fun i => oldR s (s.tr.getD i default) := all_congr fun j _ => h.old _
  have e3 : ((List.range s.wk.length).all fun i => wkB vcP s (s.wk.getD i default)) = (List.range s.wk.length).all fun i => wkB vcR s (s.wk.getD i default) := all_congr fun j _ => by
    unfold wkB
    rw [h.vc, h.vc]
  unfold validP validR
  rw [e1, e2, e3, Bool.and_assoc]
end Go.Proofs.Ytinclokohcommaa


namespace Go.Proofs.Ytinclokohcommaa
open Go.RowKit
set_option linter.unusedVariables false
set_option linter.unusedSimpArgs false

theorem vr_head {s : So} (h : validR s = true) : headB s = true := by
  simp only [validR, Bool.and_eq_true] at h
  exact h.1
theorem vr_syms {s : So} (h : validR s = true) : symsB s.ys = true := by
  have := vr_head h
  simp only [headB, Bool.and_eq_true] at this
  exact this.2.2.2.2
theorem vr_len {s : So} (h : validR s = true) : s.cs.length ≤ 1048576 := by
  have := vr_head h
  simp only [headB, Bool.and_eq_true, decide_eq_true_eq] at this
  omega
theorem vr_cell {s : So} (h : validR s = true) {i : Int} (hi : inS s i = true) : cellR s i = true := by
  simp only [validR, Bool.and_eq_true] at h
  have h1 := inS_iff.1 hi
  have hk := all_of h.2.1 (k := i.toNat) (by omega)
  rwa [show ((i.toNat : Nat) : Int) = i by omega] at hk
theorem vr_vc {s : So} (h : validR s = true) {i : Int} (hi : inS s i = true) (ht : (cellAt s i).t ≠ 4) : vcR s (cellAt s i) = true := by
  have := vr_cell h hi
  unfold cellR at this
  rw [if_neg ht] at this
  simp only [Bool.and_eq_true] at this
  exact this.1
theorem vr_ends {s : So} (h : validR s = true) {i : Int} (hi : inS s i = true) : endsB s i = true := by
  by_cases ht : (cellAt s i).t = 4
  · exact (En.st (fun hn => by have := hn.1; rw [tagS_in hi] at this; omega)).ends
  · have := vr_cell h hi
    unfold cellR at this
    rw [if_neg ht] at this
    simp only [Bool.and_eq_true] at this
    exact this.2.1
theorem vc_ref {s : So} {c : Ce} (h : vcR s c = true) (ht : c.t = 0) : inS s c.n = true ∧ (cellAt s c.n).t ≠ 4 := by
  unfold vcR at h
  rw [if_pos ht] at h
  simp only [Bool.and_eq_true, Bool.not_eq_true', decide_eq_false_iff_not] at h
  rw [tagS_in h.1] at h
  exact h
theorem vr_nx {s : So} (h : validR s = true) {n : Int} (hn : Ns s n) : inS s (nx s n) = true := by
  have hi := hn.inS
  have ht : (cellAt s n).t = 0 := by have := hn.1; rwa [tagS_in hi] at this
  exact (vc_ref (vr_vc h hi (by omega)) ht).1
theorem vr_fun {s : So} (h : validR s = true) {i : Int} (hi : inS s i = true) (ht : (cellAt s i).t = 4) : 1 ≤ arS s (cellAt s i).n ∧ arS s (cellAt s i).n ≤ 8 ∧ ∀ j : Nat, (j : Int) < arS s (cellAt s i).n → inS s (i + 1 + j) = true ∧ vcR s (cellAt s (i + 1 + j)) = true := by
  have := vr_cell h hi
  unfold cellR at this
  rw [if_pos ht] at this
  simp only [Bool.and_eq_true, decide_eq_true_eq, List.all_eq_true, List.mem_range, Bool.not_eq_true', decide_eq_false_iff_not] at this
  obtain ⟨h1, h2, h3⟩ := this
  refine ⟨h1, (symsB_ar (vr_syms h) _).2, fun j hj => ?_⟩
  have q := inS_iff.1 h2
  have q1 := inS_iff.1 hi
  have hin : inS s (i + 1 + j) = true := inS_iff.2 ⟨by omega, by omega⟩
  refine ⟨hin, vr_vc h hin ?_⟩
  have := h3 j (by omega)
  rw [show i + ((j : Int) + 1) = i + 1 + j by omega, tagS_in hin] at this
  exact this
theorem ar_rng {s : So} {n : Int} (h : 0 ≤ arS s n) : 0 ≤ n ∧ n < s.ys.length ∧ arS s n = (s.ys.getD n.toNat default).ar := by
  unfold arS at h ⊢
  split at h
  · rename_i hn
    rw [if_pos hn]
    exact ⟨hn.1, hn.2, rfl⟩
  · omega
def syAt (s : So) (n : Int) : Sy := s.ys.getD n.toNat default
theorem vr_name {s : So} (h : validR s = true) {n : Int} (hn : 0 ≤ arS s n) : (syAt s n).name.size ≤ 100 := by
  obtain ⟨h0, h1, -⟩ := ar_rng hn
  have := vr_syms h
  simp only [symsB, Bool.and_eq_true] at this
  have := all_of this.2 (k := n.toNat) (by omega)
  simp only [symAt, okY, Bool.and_eq_true, decide_eq_true_eq] at this
  exact this.1.1

theorem rank_all {s : So} (hv : ∀ m, Ns s m → inS s (nx s m) = true) : ∀ (k : Nat) (n : Int), inS s n = true → endsN s (k + 1) n = true → endsN s k n = false → ∃ l : List Int, l.length = k + 1 ∧ l.Nodup ∧ (∀ x ∈ l, inS s x = true) ∧ ∀ x ∈ l, ∃ j, j ≤ k ∧ endsN s (j + 1) x = true
  | 0, n, hi, h1, _ => ⟨[n], rfl, by simp, (fun x hx => by rw [List.mem_singleton.1 hx]; exact hi), fun x hx => ⟨0, Nat.le_refl _, by rw [List.mem_singleton.1 hx]; exact h1⟩⟩
  | k + 1, n, hi, h1, h2 => by
    have hn : Ns s n := Classical.byContradiction fun hn => by rw [endsN_st hn] at h2; cases h2
    have h1' := h1
    rw [endsN_ns hn] at h1 h2
    obtain ⟨l, e1, e2, e3, e4⟩ := rank_all hv k _ (hv n hn) h1 h2
    refine ⟨n :: l, by simp [e1], ?_, fun x hx => ?_, fun x hx => ?_⟩
    · refine List.nodup_cons.2 ⟨fun hm => ?_, e2⟩
      obtain ⟨j, hj, he⟩ := e4 n hm
      rw [endsN_ns hn] at he
      rw [endsN_le hj he] at h2
      cases h2
    · rcases List.mem_cons.1 hx with rfl | hx
      · exact hi
      · exact e3 x hx
    · rcases List.mem_cons.1 hx with rfl | hx
      · exact ⟨k + 1, Nat.le_refl _, h1'⟩
      · obtain ⟨j, hj, he⟩ := e4 x hx
        exact ⟨j, by omega, he⟩
theorem vr_ends_len {s : So} (h : validR s = true) {n : Int} (hi : inS s n = true) : endsN s s.cs.length n = true := by
  cases hk' : endsN s s.cs.length n with
  | true => rfl
  | false =>
    obtain ⟨l, e1, e2, e3, -⟩ := rank_all (fun m hm => vr_nx h hm) s.cs.length n hi (vr_ends h hi) hk'
    have h1 := nodup_lt s.cs.length (l.map Int.toNat) ?_ ?_
    · rw [List.length_map, e1] at h1
      omega
    · refine List.Pairwise.map _ (fun a b h => h) ?_
      refine List.Pairwise.imp_of_mem (R := fun a b => a ≠ b) (fun {a b} ha hb hab e => hab ?_) e2
      have h1 := inS_iff.1 (e3 a ha)
      have h2 := inS_iff.1 (e3 b hb)
      omega
    · intro x hx
      obtain ⟨a, ha, rfl⟩ := List.mem_map.1 hx
      have h1 := inS_iff.1 (e3 a ha)
      omega

def derN (s : So) : Nat → Ce → Ce
  | 0, c => c
  | k + 1, c => if c.t = 0 ∧ inS s c.n = true ∧ cellAt s c.n ≠ c then derN s k (cellAt s c.n) else c
theorem derN_t {s : So} {c : Ce} (h : c.t ≠ 0) : ∀ k, derN s k c = c
  | 0 => rfl
  | k + 1 => if_neg fun q => h q.1
theorem der_stable {s : So} (j : Nat) : ∀ (k : Nat) (n : Int), endsN s k n = true → derN s (k + j) ⟨0, n⟩ = derN s k ⟨0, n⟩
  | 0, n, h => by cases h
  | k + 1, n, h => by
    rw [show k + 1 + j = (k + j) + 1 by omega]
    unfold derN
    split
    · rename_i hc
      by_cases ht : (cellAt s n).t = 0
      · have e : cellAt s n = ⟨0, nx s n⟩ := Ce.ext' ht rfl
        have hn : Ns s n := ⟨(tagS_in hc.2.1).trans ht, fun hn => hc.2.2 (Ce.ext' ht hn)⟩
        rw [endsN_ns hn] at h
        show derN s (k + j) (cellAt s n) = derN s k (cellAt s n)
        rw [e]
        exact der_stable j k _ h
      · rw [derN_t ht, derN_t ht]
    · rfl
def derS (s : So) (c : Ce) : Ce := if vcR s c then derN s (s.cs.length + 1) c else ⟨0, 0⟩
theorem der_len {s : So} (h : validR s = true) {c : Ce} (hc : vcR s c = true) : derN s s.cs.length c = derN s (s.cs.length + 1) c := by
  by_cases ht : c.t = 0
  · have e : c = ⟨0, c.n⟩ := Ce.ext' ht rfl
    rw [e]
    exact (der_stable 1 _ _ (vr_ends_len h (vc_ref hc ht).1)).symm
  · rw [derN_t ht, derN_t ht]
theorem derN_vc {s : So} (h : validR s = true) : ∀ (k : Nat) {c : Ce}, vcR s c = true → vcR s (derN s k c) = true
  | 0, c, hc => hc
  | k + 1, c, hc => by
    unfold derN
    split
    · rename_i q
      exact derN_vc h k (vr_vc h q.2.1 (vc_ref hc q.1).2)
    · exact hc
theorem derS_vc {s : So} (h : validR s = true) {c : Ce} (hc : vcR s c = true) : vcR s (derS s c) = true := by
  rw [derS, if_pos hc]
  exact derN_vc h _ hc

def getL (g : Ce → Int → Te × Int) : List Ce → Int → List Te × Int
  | [], l => ([], l)
  | c :: cs, l => if l < 0 then ([], l) else ((g c l).1 :: (getL g cs (g c l).2).1, (getL g cs (g c l).2).2)
def argsOf (s : So) (n : Int) (k : Nat) : List Ce := (List.range k).map fun j => cellAt s (n + 1 + (j : Nat))
def getN (s : So) : Nat → Ce → Int → Te × Int
  | 0, _, left => (zT, left - 1)
  | f + 1, c, left => if left - 1 < 0 then (zT, left - 1)
    else if (derS s c).t = 1 then (.mk 1 (derS s c).n ⟨#[]⟩ [], left - 1)
    else if (derS s c).t = 2 then (.mk 2 0 (syAt s (derS s c).n).name [], left - 1)
    else if (derS s c).t = 3 then (.mk 3 0 (syAt s (cellAt s (derS s c).n).n).name (getL (getN s f) (argsOf s (derS s c).n (arS s (cellAt s (derS s c).n).n).toNat) (left - 1)).1, (getL (getN s f) (argsOf s (derS s c).n (arS s (cellAt s (derS s c).n).n).toNat) (left - 1)).2)
    else (.mk 0 (derS s c).n ⟨#[]⟩ [], left - 1)
theorem getL_le {g : Ce → Int → Te × Int} (hg : ∀ c l, 0 ≤ l → (g c l).2 ≤ l - 1 ∧ -1 ≤ (g c l).2) : ∀ (cs : List Ce) (l : Int), -1 ≤ l → (getL g cs l).2 ≤ l ∧ -1 ≤ (getL g cs l).2
  | [], l, h => ⟨Int.le_refl _, h⟩
  | c :: cs, l, h => by
    unfold getL
    split
    · exact ⟨Int.le_refl _, h⟩
    · have h1 := hg c l (by omega)
      have h2 := getL_le hg cs (g c l).2 h1.2
      exact ⟨by omega, h2.2⟩
theorem getN_le (s : So) : ∀ (f : Nat) (c : Ce) (l : Int), 0 ≤ l → (getN s f c l).2 ≤ l - 1 ∧ -1 ≤ (getN s f c l).2
  | 0, c, l, h => ⟨Int.le_refl _, by simp only [getN]; omega⟩
  | f + 1, c, l, h => by
    unfold getN
    split
    · simp only; omega
    split
    · simp only; omega
    split
    · simp only; omega
    split
    · exact getL_le (getN_le s f) _ _ (by omega)
    · simp only; omega
end Go.Proofs.Ytinclokohcommaa


namespace Go.Proofs.Ytinclokohcommaa
open Go.RowKit
set_option linter.unusedVariables false
set_option maxRecDepth 100000

end Go.Proofs.Ytinclokohcommaa


namespace Go.Proofs.Ytinclokohcommaa
open Go.RowKit
set_option linter.unusedVariables false
set_option linter.unusedSimpArgs false

def gDer : List D → Option (List D)
  | [s, c] => if validR (dS s) then some [eC (derS (dS s) (dC c))] else none
  | _ => none
theorem der_0 : D.a [.i 0, .i 0] = eC ⟨0, 0⟩ := rfl
theorem ok_cells_Deref : FOk q0q gDer := fok_cells_Deref q1p q27 fun ds outs hw hg => by
  obtain ⟨d, r, rfl, hd, e, r', rfl, he, rfl⟩ := hw
  obtain ⟨s, rfl, hs⟩ := wfS hd
  obtain ⟨c, rfl, hc⟩ := wfC he
  simp only [gDer, dS_eS, dC_eC, Option.ite_none_right_eq_some, Option.some.injEq] at hg
  obtain ⟨hv, rfl⟩ := hg
  have hvs := validR_vs hv
  have hl := vr_len hv
  have hvc : ∀ c, vcP s c = vcR s c := hvs.vc
  simp only [q2d, q05, go_br, q06, q08, allSay, X.says, X.ev, X.evs, evl, tblS, List.getD_cons_zero, List.getD_cons_succ, List.getElem?_cons_zero, List.getElem?_cons_succ, tt_b, int_i, str_s, rs_r, Option.isSome_some, Option.getD_some, decide_eq_true_eq, decide_eq_false_iff_not, dS_eS, dC_eC, dU_eU, dW_eW, dY_eY, eC_0, eC_1, eU_0, eU_1, eW_0, eW_1, eW_2, eY_0, eY_1, eS_0, eS_1, eS_2, eS_3, eS_4, eS_5, List.length_map, i_inj, b_inj, s_inj, eC_eq, eU_eq, eW_eq, eY_eq, eS_eq, rng64, List.take_succ_cons, List.take_zero, List.nil_append, List.cons_append, decide_true, decide_false, Bool.or_true, true_and, and_true, gSCb, hvc, der_0]
  refine ⟨fun h => ?_, fun h => ?_⟩
  · simp only [derS, show vcR s c = false by simpa using h]
    rfl
  have hvc' : vcR s c = true := by simpa using h
  rw [go_loop]
  refine ⟨fun st => ∃ (k : Nat) (x : Ce), k ≤ s.cs.length ∧ st = [.i k, eC x] ∧ derN s (s.cs.length - k) x = derS s c, fun st => s.cs.length - (st.getD 0 .u).int.toNat, ⟨0, c, Nat.zero_le _, rfl, by rw [Nat.sub_zero, der_len hv hvc', derS, if_pos hvc']⟩, ?_⟩
  rintro st - ⟨k, x, hk, rfl, hP⟩
  rw [go_br]
  refine ⟨fun hlt => ?_, fun hlt => ?_⟩
  · simp only [q05, go_br, q06, q08, allSay, X.says, X.ev, X.evs, evl, tblS, List.getD_cons_zero, List.getD_cons_succ, List.getElem?_cons_zero, List.getElem?_cons_succ, tt_b, int_i, str_s, rs_r, Option.isSome_some, Option.getD_some, decide_eq_true_eq, decide_eq_false_iff_not, dS_eS, dC_eC, dU_eU, dW_eW, dY_eY, eC_0, eC_1, eU_0, eU_1, eW_0, eW_1, eW_2, eY_0, eY_1, eS_0, eS_1, eS_2, eS_3, eS_4, eS_5, List.length_map, i_inj, b_inj, s_inj, eC_eq, eU_eq, eW_eq, eY_eq, eS_eq, rng64, List.take_succ_cons, List.take_zero, List.nil_append, List.cons_append, decide_true, decide_false, Bool.or_true, true_and, and_true] at hlt
    have hkl : k < s.cs.length := by omega
    obtain ⟨n, hn⟩ : ∃ n, s.cs.length - k = n + 1 := ⟨s.cs.length - k - 1, by omega⟩
    rw [hn] at hP
    unfold derN at hP
    have hn2 : s.cs.length - (k + 1) = n := by omega
    have ht := hvs.tag_in x.n
    by_cases h0 : x.t = 0
    · cases hin : inS s x.n with
      | true =>
        have h3 := inS_iff.1 hin
        rw [hin] at ht
        have ht' : ¬ tagS s x.n < 0 := by have := of_decide_eq_true ht; omega
        simp only [q05, go_br, q06, q08, allSay, X.says, X.ev, X.evs, evl, tblS, List.getD_cons_zero, List.getD_cons_succ, List.getElem?_cons_zero, List.getElem?_cons_succ, tt_b, int_i, str_s, rs_r, Option.isSome_some, Option.getD_some, decide_eq_true_eq, decide_eq_false_iff_not, dS_eS, dC_eC, dU_eU, dW_eW, dY_eY, eC_0, eC_1, eU_0, eU_1, eW_0, eW_1, eW_2, eY_0, eY_1, eS_0, eS_1, eS_2, eS_3, eS_4, eS_5, List.length_map, i_inj, b_inj, s_inj, eC_eq, eU_eq, eW_eq, eY_eq, eS_eq, rng64, List.take_succ_cons, List.take_zero, List.nil_append, List.cons_append, decide_true, decide_false, Bool.or_true, true_and, and_true, gSIi, cell_get hin, h0, ht', h3.1, h3.2]
        refine ⟨fun hx => ?_, fun hx => ?_⟩
        · have hx' : cellAt s x.n = x := by simpa using hx
          rw [if_neg (fun q => q.2.2 hx')] at hP
          rw [hP]
        · have hx' : cellAt s x.n ≠ x := by simpa using hx
          rw [if_pos ⟨h0, hin, hx'⟩] at hP
          refine ⟨⟨by omega, by omega⟩, ?_⟩
          rw [updB, if_pos rfl]
          refine ⟨⟨k + 1, cellAt s x.n, by omega, by simp, by rw [hn2]; exact hP⟩, ?_⟩
          simp [D.int]
          omega
      | false =>
        rw [hin] at ht
        have ht' : tagS s x.n < 0 := by have := of_decide_eq_false ht; omega
        rw [if_neg (fun q => by rw [hin] at q; cases q.2.1)] at hP
        simp only [q05, go_br, q06, q08, allSay, X.says, X.ev, X.evs, evl, tblS, List.getD_cons_zero, List.getD_cons_succ, List.getElem?_cons_zero, List.getElem?_cons_succ, tt_b, int_i, str_s, rs_r, Option.isSome_some, Option.getD_some, decide_eq_true_eq, decide_eq_false_iff_not, dS_eS, dC_eC, dU_eU, dW_eW, dY_eY, eC_0, eC_1, eU_0, eU_1, eW_0, eW_1, eW_2, eY_0, eY_1, eS_0, eS_1, eS_2, eS_3, eS_4, eS_5, List.length_map, i_inj, b_inj, s_inj, eC_eq, eU_eq, eW_eq, eY_eq, eS_eq, rng64, List.take_succ_cons, List.take_zero, List.nil_append, List.cons_append, decide_true, decide_false, Bool.or_true, true_and, and_true, gSIi, h0, ht', ← hP]
        simp
    · rw [if_neg (fun q => h0 q.1)] at hP
      simp only [q05, go_br, q06, q08, allSay, X.says, X.ev, X.evs, evl, tblS, List.getD_cons_zero, List.getD_cons_succ, List.getElem?_cons_zero, List.getElem?_cons_succ, tt_b, int_i, str_s, rs_r, Option.isSome_some, Option.getD_some, decide_eq_true_eq, decide_eq_false_iff_not, dS_eS, dC_eC, dU_eU, dW_eW, dY_eY, eC_0, eC_1, eU_0, eU_1, eW_0, eW_1, eW_2, eY_0, eY_1, eS_0, eS_1, eS_2, eS_3, eS_4, eS_5, List.length_map, i_inj, b_inj, s_inj, eC_eq, eU_eq, eW_eq, eY_eq, eS_eq, rng64, List.take_succ_cons, List.take_zero, List.nil_append, List.cons_append, decide_true, decide_false, Bool.or_true, true_and, and_true, gSIi, h0, ← hP]
      simp
  · simp only [q05, go_br, q06, q08, allSay, X.says, X.ev, X.evs, evl, tblS, List.getD_cons_zero, List.getD_cons_succ, List.getElem?_cons_zero, List.getElem?_cons_succ, tt_b, int_i, str_s, rs_r, Option.isSome_some, Option.getD_some, decide_eq_true_eq, decide_eq_false_iff_not, dS_eS, dC_eC, dU_eU, dW_eW, dY_eY, eC_0, eC_1, eU_0, eU_1, eW_0, eW_1, eW_2, eY_0, eY_1, eS_0, eS_1, eS_2, eS_3, eS_4, eS_5, List.length_map, i_inj, b_inj, s_inj, eC_eq, eU_eq, eW_eq, eY_eq, eS_eq, rng64, List.take_succ_cons, List.take_zero, List.nil_append, List.cons_append, decide_true, decide_false, Bool.or_true, true_and, and_true] at hlt ⊢
    have : k = s.cs.length := by omega
    subst this
    rw [Nat.sub_self] at hP
    rw [← hP, derN]
def getQ (s : So) (c : Ce) (l : Int) (n : Nat) : Bool := validR s && (vcR s c && (decide (0 ≤ l) && decide (l < n)))
def gGet1 (n : Nat) : List D → Option (List D)
  | [c, l, s] => if getQ (dS s) (dC c) l.int n then some [eT (getN (dS s) n (dC c) l.int).1, .i (getN (dS s) n (dC c) l.int).2] else none
  | _ => none
theorem getL_neg {g : Ce → Int → Te × Int} {l : Int} (h : l < 0) : ∀ cs, getL g cs l = ([], l)
  | [] => rfl
  | c :: cs => if_pos h
theorem args_drop {s : So} {n : Int} {m k : Nat} (h : k < m) : (argsOf s n m).drop k = cellAt s (n + 1 + k) :: (argsOf s n m).drop (k + 1) := by
  have hl : k < (argsOf s n m).length := by simp [argsOf, h]
  rw [List.drop_eq_getElem_cons hl]
  simp [argsOf]
theorem sy_get {s : So} {i : Int} (h : 0 ≤ arS s i) : (D.r (s.ys.map eY)).get i = eY (syAt s i) := get_r eY (ar_rng h).1 (ar_rng h).2.1
theorem e_var (n : Int) : D.a ((D.a ((eT zT).fs.set 0 (.i 0))).fs.set 1 (.i n)) = eT (.mk 0 n ⟨#[]⟩ []) := rfl
theorem e_str (x : ByteArray) : D.a ((D.a ((eT zT).fs.set 0 (.i 3))).fs.set 2 (.s x)) = eT (.mk 3 0 x []) := rfl

theorem ok_cells_Get_1 : ∀ n, FOk q0o (gGet1 n)
  | 0 => (FOk.none q2x).sub fun ds outs h => by
    unfold gGet1 at h
    split at h
    · simp only [getQ, Option.ite_none_right_eq_some, Bool.and_eq_true, decide_eq_true_eq] at h
      omega
    · cases h
  | f + 1 => fok_cells_Get_1 (ok_cells_Get_1 f) ok_cells_Deref ok_term_Int q40 ok_term_Atom q27 fun ds outs hw hg => by
    obtain ⟨d, r, rfl, hd, e, r', rfl, he, e2, r2, rfl, he2, hw⟩ := hw
    obtain rfl : r2 = [] := hw
    obtain ⟨c, rfl, hc⟩ := wfC hd
    obtain ⟨l, rfl, hl⟩ := wfI he
    obtain ⟨s, rfl, hs⟩ := wfS he2
    simp only [gGet1, getQ, dS_eS, dC_eC, int_i, Option.ite_none_right_eq_some, Option.some.injEq, Bool.and_eq_true, decide_eq_true_eq] at hg
    obtain ⟨⟨hv, hvc, h0, hf⟩, rfl⟩ := hg
    have h0 := of_decide_eq_true h0
    have hf := of_decide_eq_true hf
    have hlen := vr_len hv
    have hd := derS_vc hv hvc
    have hder : gDer [eS s, eC c] = some [eC (derS s c)] := by simp only [gDer, dS_eS, dC_eC, hv, if_true]
    simp only [q2b, q05, go_br, q06, q08, allSay, X.says, X.ev, X.evs, evl, tblS, List.getD_cons_zero, List.getD_cons_succ, List.getElem?_cons_zero, List.getElem?_cons_succ, tt_b, int_i, str_s, rs_r, Option.isSome_some, Option.getD_some, decide_eq_true_eq, decide_eq_false_iff_not, dS_eS, dC_eC, dU_eU, dW_eW, dY_eY, eC_0, eC_1, eU_0, eU_1, eW_0, eW_1, eW_2, eY_0, eY_1, eS_0, eS_1, eS_2, eS_3, eS_4, eS_5, List.length_map, i_inj, b_inj, s_inj, eC_eq, eU_eq, eW_eq, eY_eq, eS_eq, rng64, List.take_succ_cons, List.take_zero, List.nil_append, List.cons_append, decide_true, decide_false, Bool.or_true, true_and, and_true, dT_eT, eT_0, eT_1, eT_2, eT_3, eT_eq, eT_z, hder, gIt, gSIi, gSt]
    refine ⟨⟨by omega, by omega⟩, fun hn => ?_, fun hn => ?_⟩
    · rw [getN, if_pos hn]
    have hn' : ¬ l - 1 < 0 := hn
    unfold getN
    simp only [if_neg hn']
    refine ⟨fun h1 => ?_, fun h1 => ?_⟩
    · rw [if_pos h1]
    simp only [if_neg h1]
    have h2' : (derS s c).t = 2 → arS s (derS s c).n = 0 := fun ht => by
      simp only [vcR, ht] at hd
      simpa using hd
    have h3' : (derS s c).t = 3 → tagS s (derS s c).n = 4 := fun ht => by
      simp only [vcR, ht] at hd
      simpa using hd
    by_cases h2 : (derS s c).t = 2
    · have ha := h2' h2
      have hsy := sy_get (s := s) (i := (derS s c).n) (by omega)
      have hr := ar_rng (s := s) (n := (derS s c).n) (by omega)
      have hnm := vr_name hv (n := (derS s c).n) (by omega)
      simp [h2, ha, hsy, eY_0, hr.1, hr.2.1, str_s, atomT_ok hnm]
    simp only [h2]
    by_cases h3 : (derS s c).t = 3
    · have htag := h3' h3
      have hin := tag_in' (by decide) htag
      have htag' := htag
      rw [tagS_in hin] at htag'
      obtain ⟨a1, a2, a3⟩ := vr_fun hv hin htag'
      have hr := ar_rng (s := s) (n := (cellAt s (derS s c).n).n) (by omega)
      have hsy := sy_get (s := s) (i := (cellAt s (derS s c).n).n) (by omega)
      have hi := inS_iff.1 hin
      have hge : (0 : Int) ≤ arS s (cellAt s (derS s c).n).n := by omega
      have hsr : (syAt s (cellAt s (derS s c).n).n).ar = arS s (cellAt s (derS s c).n).n := hr.2.2.symm
      simp only [h3, htag, q05, go_br, q06, q08, allSay, X.says, X.ev, X.evs, evl, tblS, List.getD_cons_zero, List.getD_cons_succ, List.getElem?_cons_zero, List.getElem?_cons_succ, tt_b, int_i, str_s, rs_r, Option.isSome_some, Option.getD_some, decide_eq_true_eq, decide_eq_false_iff_not, dS_eS, dC_eC, dU_eU, dW_eW, dY_eY, eC_0, eC_1, eU_0, eU_1, eW_0, eW_1, eW_2, eY_0, eY_1, eS_0, eS_1, eS_2, eS_3, eS_4, eS_5, List.length_map, i_inj, b_inj, s_inj, eC_eq, eU_eq, eW_eq, eY_eq, eS_eq, rng64, List.take_succ_cons, List.take_zero, List.nil_append, List.cons_append, decide_true, decide_false, Bool.or_true, true_and, and_true, dT_eT, eT_0, eT_1, eT_2, eT_3, eT_eq, eT_z, cell_get hin, hsy, hr.1, hr.2.1, hi.1, hi.2, hge]
      generalize hF : getL (getN s f) (argsOf s (derS s c).n (arS s (cellAt s (derS s c).n).n).toNat) (l - 1) = F
      generalize har : arS s (cellAt s (derS s c).n).n = ar at *
      refine ⟨fun h => by simp at h, fun _ => ⟨fun _ => ⟨⟨by omega, by omega⟩, ?_⟩, fun h => by simp at h⟩⟩
      simp only [if_false, if_true]
      rw [go_loop]
      refine ⟨fun st => ∃ (k : Nat) (x : Int) (ts : List Te), (k : Int) ≤ ar ∧ -1 ≤ x ∧ x ≤ l - 1 ∧ ts.length = k ∧ st = [.i ((derS s c).n + 1 + k), .i x, eT (.mk 3 0 (syAt s (cellAt s (derS s c).n).n).name ts)] ∧ F = (ts ++ (getL (getN s f) ((argsOf s (derS s c).n ar.toNat).drop k) x).1, (getL (getN s f) ((argsOf s (derS s c).n ar.toNat).drop k) x).2), fun st => ar.toNat - ((st.getD 0 .u).int - (derS s c).n - 1).toNat, ⟨0, l - 1, [], by omega, by omega, by omega, rfl, ?_, by rw [← hF]; rfl⟩, ?_⟩
      · simp only [X.evs, q05, go_br, q06, q08, allSay, X.says, X.ev, X.evs, evl, tblS, List.getD_cons_zero, List.getD_cons_succ, List.getElem?_cons_zero, List.getElem?_cons_succ, tt_b, int_i, str_s, rs_r, Option.isSome_some, Option.getD_some, decide_eq_true_eq, decide_eq_false_iff_not, dS_eS, dC_eC, dU_eU, dW_eW, dY_eY, eC_0, eC_1, eU_0, eU_1, eW_0, eW_1, eW_2, eY_0, eY_1, eS_0, eS_1, eS_2, eS_3, eS_4, eS_5, List.length_map, i_inj, b_inj, s_inj, eC_eq, eU_eq, eW_eq, eY_eq, eS_eq, rng64, List.take_succ_cons, List.take_zero, List.nil_append, List.cons_append, decide_true, decide_false, Bool.or_true, true_and, and_true, dT_eT, eT_0, eT_1, eT_2, eT_3, eT_eq, eT_z, hder, cell_get hin, hsy, e_str]
        simp
      rintro st - ⟨k, x, ts, hk, hx1, hx2, hts, rfl, hFk⟩
      by_cases hkl : (k : Int) < ar
      · obtain ⟨b1, b2⟩ := a3 k hkl
        have b3 := inS_iff.1 b1
        have ht0 : 0 ≤ tagS s ((derS s c).n + 1 + k) := by
          have := (validR_vs hv).tag_in ((derS s c).n + 1 + k)
          rw [b1] at this
          exact of_decide_eq_true this
        have hle : (derS s c).n + 1 + k ≤ (derS s c).n + ar := by omega
        by_cases hx0 : 0 ≤ x
        · have hq : gGet1 f [eC (cellAt s ((derS s c).n + 1 + k)), .i x, eS s] = some [eT (getN s f (cellAt s ((derS s c).n + 1 + k)) x).1, .i (getN s f (cellAt s ((derS s c).n + 1 + k)) x).2] := by
            have h1 : x < f := by omega
            simp only [gGet1, getQ, dS_eS, dC_eC, int_i, hv, b2, hx0, h1, decide_true, Bool.and_true, if_true]
          have hnx := getN_le s f (cellAt s ((derS s c).n + 1 + k)) x hx0
          simp only [q05, go_br, q06, q08, allSay, X.says, X.ev, X.evs, evl, tblS, List.getD_cons_zero, List.getD_cons_succ, List.getElem?_cons_zero, List.getElem?_cons_succ, tt_b, int_i, str_s, rs_r, Option.isSome_some, Option.getD_some, decide_eq_true_eq, decide_eq_false_iff_not, dS_eS, dC_eC, dU_eU, dW_eW, dY_eY, eC_0, eC_1, eU_0, eU_1, eW_0, eW_1, eW_2, eY_0, eY_1, eS_0, eS_1, eS_2, eS_3, eS_4, eS_5, List.length_map, i_inj, b_inj, s_inj, eC_eq, eU_eq, eW_eq, eY_eq, eS_eq, rng64, List.take_succ_cons, List.take_zero, List.nil_append, List.cons_append, decide_true, decide_false, Bool.or_true, true_and, and_true, dT_eT, eT_0, eT_1, eT_2, eT_3, eT_eq, eT_z, hder, cell_get hin, cell_get b1, hsy, hsr, gSIi, hle, ht0, hq, hx0, Te_l, b3.1, b3.2]
          refine ⟨⟨by omega, by omega⟩, fun _ => ⟨by omega, ⟨by omega, by omega⟩, ?_⟩, fun h => by simp at h⟩
          rw [updB, if_pos rfl]
          refine ⟨⟨k + 1, (getN s f (cellAt s ((derS s c).n + 1 + k)) x).2, ts ++ [(getN s f (cellAt s ((derS s c).n + 1 + k)) x).1], by omega, by omega, by omega, by simp [hts], ?_, ?_⟩, ?_⟩
          · rw [eT_snoc]
            simp
            omega
          · rw [hFk, args_drop (by omega), getL, if_neg (by omega)]
            simp
          · simp [D.int]
            omega
        · simp only [q05, go_br, q06, q08, allSay, X.says, X.ev, X.evs, evl, tblS, List.getD_cons_zero, List.getD_cons_succ, List.getElem?_cons_zero, List.getElem?_cons_succ, tt_b, int_i, str_s, rs_r, Option.isSome_some, Option.getD_some, decide_eq_true_eq, decide_eq_false_iff_not, dS_eS, dC_eC, dU_eU, dW_eW, dY_eY, eC_0, eC_1, eU_0, eU_1, eW_0, eW_1, eW_2, eY_0, eY_1, eS_0, eS_1, eS_2, eS_3, eS_4, eS_5, List.length_map, i_inj, b_inj, s_inj, eC_eq, eU_eq, eW_eq, eY_eq, eS_eq, rng64, List.take_succ_cons, List.take_zero, List.nil_append, List.cons_append, decide_true, decide_false, Bool.or_true, true_and, and_true, dT_eT, eT_0, eT_1, eT_2, eT_3, eT_eq, eT_z, hder, cell_get hin, cell_get b1, hsy, hsr, gSIi, hle, ht0, hx0]
          rw [getL_neg (by omega)] at hFk
          refine ⟨⟨by omega, by omega⟩, fun h => by simp at h, fun _ => ?_⟩
          simp [hFk]
      · have hle : ¬ (derS s c).n + 1 + k ≤ (derS s c).n + ar := by omega
        have : (argsOf s (derS s c).n ar.toNat).drop k = [] := List.drop_eq_nil_of_le (by simp [argsOf]; omega)
        rw [this] at hFk
        simp only [q05, go_br, q06, q08, allSay, X.says, X.ev, X.evs, evl, tblS, List.getD_cons_zero, List.getD_cons_succ, List.getElem?_cons_zero, List.getElem?_cons_succ, tt_b, int_i, str_s, rs_r, Option.isSome_some, Option.getD_some, decide_eq_true_eq, decide_eq_false_iff_not, dS_eS, dC_eC, dU_eU, dW_eW, dY_eY, eC_0, eC_1, eU_0, eU_1, eW_0, eW_1, eW_2, eY_0, eY_1, eS_0, eS_1, eS_2, eS_3, eS_4, eS_5, List.length_map, i_inj, b_inj, s_inj, eC_eq, eU_eq, eW_eq, eY_eq, eS_eq, rng64, List.take_succ_cons, List.take_zero, List.nil_append, List.cons_append, decide_true, decide_false, Bool.or_true, true_and, and_true, dT_eT, eT_0, eT_1, eT_2, eT_3, eT_eq, eT_z, hder, cell_get hin, hsy, hsr, gSIi, hle]
        refine ⟨⟨by omega, by omega⟩, fun h => by simp at h, fun _ => ?_⟩
        simp [hFk, getL]
    · simp only [h3, q05, go_br, q06, q08, allSay, X.says, X.ev, X.evs, evl, tblS, List.getD_cons_zero, List.getD_cons_succ, List.getElem?_cons_zero, List.getElem?_cons_succ, tt_b, int_i, str_s, rs_r, Option.isSome_some, Option.getD_some, decide_eq_true_eq, decide_eq_false_iff_not, dS_eS, dC_eC, dU_eU, dW_eW, dY_eY, eC_0, eC_1, eU_0, eU_1, eW_0, eW_1, eW_2, eY_0, eY_1, eS_0, eS_1, eS_2, eS_3, eS_4, eS_5, List.length_map, i_inj, b_inj, s_inj, eC_eq, eU_eq, eW_eq, eY_eq, eS_eq, rng64, List.take_succ_cons, List.take_zero, List.nil_append, List.cons_append, decide_true, decide_false, Bool.or_true, true_and, and_true, dT_eT, eT_0, eT_1, eT_2, eT_3, eT_eq, eT_z]
      refine ⟨fun h => by simp at h, fun _ => ⟨by simp, fun h => by simp at h, fun _ => ?_⟩⟩
      simp only [e_var, if_false]

def getS (s : So) (c : Ce) : Te × Int := if vcR s c then (if (getN s 2001 c 2000).2 < 0 then (zT, 2) else ((getN s 2001 c 2000).1, 0)) else (zT, 1)
def gGet : List D → Option (List D)
  | [s, c] => if validR (dS s) then some [eT (getS (dS s) (dC c)).1, .i (getS (dS s) (dC c)).2] else none
  | _ => none
theorem ok_cells_Get : FOk q13 gGet := fok_cells_Get (ok_cells_Get_1 2001) q1p fun ds outs hw hg => by
  obtain ⟨d, r, rfl, hd, e, r', rfl, he, rfl⟩ := hw
  obtain ⟨s, rfl, hs⟩ := wfS hd
  obtain ⟨c, rfl, hc⟩ := wfC he
  simp only [gGet, dS_eS, dC_eC, Option.ite_none_right_eq_some, Option.some.injEq] at hg
  obtain ⟨hv, rfl⟩ := hg
  have hvc : ∀ c, vcP s c = vcR s c := (validR_vs hv).vc
  simp only [q2u, q05, go_br, q06, q08, allSay, X.says, X.ev, X.evs, evl, tblS, List.getD_cons_zero, List.getD_cons_succ, List.getElem?_cons_zero, List.getElem?_cons_succ, tt_b, int_i, str_s, rs_r, Option.isSome_some, Option.getD_some, decide_eq_true_eq, decide_eq_false_iff_not, dS_eS, dC_eC, dU_eU, dW_eW, dY_eY, eC_0, eC_1, eU_0, eU_1, eW_0, eW_1, eW_2, eY_0, eY_1, eS_0, eS_1, eS_2, eS_3, eS_4, eS_5, List.length_map, i_inj, b_inj, s_inj, eC_eq, eU_eq, eW_eq, eY_eq, eS_eq, rng64, List.take_succ_cons, List.take_zero, List.nil_append, List.cons_append, decide_true, decide_false, Bool.or_true, true_and, and_true, dT_eT, eT_0, eT_1, eT_2, eT_3, eT_eq, eT_z, gSCb, hvc, getS]
  cases h : vcR s c with
  | false => simp
  | true =>
    have hq : gGet1 2001 [eC c, .i 2000, eS s] = some [eT (getN s 2001 c 2000).1, .i (getN s 2001 c 2000).2] := by
      simp only [gGet1, getQ, dS_eS, dC_eC, int_i, hv, h]
      rfl
    simp only [hq]
    by_cases hn : (getN s 2001 c 2000).2 < 0
    · simp [hn, int_i]
    · simp [hn, int_i]
end Go.Proofs.Ytinclokohcommaa


namespace Go.Proofs.Ytinclokohcommaa
open Go.RowKit
set_option linter.unusedVariables false
set_option linter.unusedSimpArgs false

structure Vc where
  v : Int
  c : Ce
instance : Inhabited Vc := ⟨⟨0, default⟩⟩
def eV (x : Vc) : D := .a [.i x.v, eC x.c]
def dV (d : D) : Vc := ⟨(d.fld 0).int, dC (d.fld 1)⟩
theorem dV_eV (x : Vc) : dV (eV x) = x := rfl
theorem eV_inj {a b : Vc} (h : eV a = eV b) : a = b := by rw [← dV_eV a, h, dV_eV b]
instance : DecidableEq Vc := fun a b => if h : eV a = eV b then .isTrue (eV_inj h) else .isFalse fun e => h (e ▸ rfl)
theorem eV_0 (x : Vc) : (eV x).fld 0 = .i x.v := rfl
theorem eV_1 (x : Vc) : (eV x).fld 1 = eC x.c := rfl
def dVs (d : D) : List Vc := d.rs.map dV
theorem dVs_eVs (l : List Vc) : dVs (.r (l.map eV)) = l := by
  show (l.map eV).map dV = l
  rw [List.map_map]
  exact List.map_id'' (fun x => rfl) l
theorem wfV {d : D} (h : Wf d T_VarCell) : ∃ c, d = eV c ∧ i64 c.v ∧ c.c.ok := by
  obtain ⟨ds, rfl, hl⟩ := h.st_of (fs := [.int .i64, T_Cell]) rfl
  obtain ⟨a, b, rfl, ha, hb⟩ := wfL2 hl
  obtain ⟨x, rfl, hx⟩ := wfI ha
  obtain ⟨y, rfl, hy⟩ := wfC hb
  exact ⟨⟨x, y⟩, rfl, hx, hy⟩
theorem wfVs {d : D} (h : Wf d T_VarCells) : ∃ l : List Vc, d = .r (l.map eV) ∧ l.length ≤ 5864062014634 ∧ ∀ x ∈ l, i64 x.v ∧ x.c.ok := by
  obtain ⟨l, e, h1, h2⟩ := h.row_of (te := T_VarCell) rfl
  subst e
  obtain ⟨m, rfl, h3⟩ := of_all (e := eV) (P := fun x => i64 x.v ∧ x.c.ok) fun x hx => wfV (h2 x hx)
  have e : LM T_VarCell = 5864062014634 := by kernel_rfl
  rw [e, List.length_map] at h1
  exact ⟨m, rfl, h1, h3⟩

def ofV : List Vc → Int → Option Ce
  | [], _ => none
  | x :: l, v => if x.v = v then some x.c else ofV l v
def SV (l : List Vc) : Prop := l.Pairwise (fun a b => a.v < b.v) ∧ ∀ x ∈ l, 0 ≤ x.v ∧ x.v ≤ 1099511627776
instance (l : List Vc) : Decidable (SV l) := inferInstanceAs (Decidable (_ ∧ _))
theorem sv_len {b : Int} : ∀ (l : List Vc) (a : Int), a ≤ b + 1 → l.Pairwise (fun x y => x.v < y.v) → (∀ x ∈ l, a ≤ x.v ∧ x.v ≤ b) → (l.length : Int) ≤ b - a + 1
  | [], a, h, _, _ => by simp; omega
  | x :: l, a, h, hp, hr => by
    have hp' := List.pairwise_cons.1 hp
    have hx := hr x (by simp)
    have := sv_len l (x.v + 1) (by omega) hp'.2 fun y hy => ⟨by have := hp'.1 y hy; omega, (hr y (by simp [hy])).2⟩
    rw [List.length_cons]
    omega
theorem SV.len {l : List Vc} (h : SV l) : (l.length : Int) ≤ 1099511627777 := by
  have := sv_len (b := 1099511627776) l 0 (by omega) h.1 h.2
  omega
theorem SV.nil : SV [] := ⟨.nil, fun x hx => by cases hx⟩

mutual
/-- The cells that a term needs, but for a variable that is no argument. -/
def cntT : Te → Nat
  | .mk k _ _ l => if k = 3 then 1 + l.length + cntTs l else 0
def cntTs : List Te → Nat
  | [] => 0
  | t :: l => cntT t + cntTs l
end
def nedT (t : Te) (all : List Vc) : Nat := cntT t + if t.k = 0 ∧ ofV all t.n = none then 1 else 0

def keptC (c : Ce) : Ce := if c.t = 5 then ⟨0, c.n⟩ else c
def Rst (s s' : So) : Prop := s'.mx = s.mx ∧ s'.tr = s.tr ∧ s'.wk = s.wk ∧ s'.ser = s.ser
theorem Rst.trans {a b c : So} (h : Rst a b) (k : Rst b c) : Rst a c := ⟨k.1.trans h.1, k.2.1.trans h.2.1, k.2.2.1.trans h.2.2.1, k.2.2.2.trans h.2.2.2⟩
theorem Rst.refl (s : So) : Rst s s := ⟨rfl, rfl, rfl, rfl⟩
end Go.Proofs.Ytinclokohcommaa


namespace Go.Proofs.Ytinclokohcommaa.Ins
open Go.RowKit Go.Shelf Go.Lib
set_option linter.unusedVariables false
set_option linter.unusedSimpArgs false
set_option maxRecDepth 100000
attribute [local go_sem] Oper.semAt_some

end Go.Proofs.Ytinclokohcommaa.Ins


namespace Go.Proofs.Ytinclokohcommaa
namespace Ins
open Go.RowKit
set_option linter.unusedVariables false
set_option linter.unusedSimpArgs false
set_option maxRecDepth 100000

end Ins
open Ins
open Go.RowKit
set_option maxRecDepth 100000
end Go.Proofs.Ytinclokohcommaa


namespace Go.Proofs.Ytinclokohcommaa
open Go.RowKit
set_option linter.unusedVariables false
set_option linter.unusedSimpArgs false

end Go.Proofs.Ytinclokohcommaa


namespace Go.Proofs.Ytinclokohcommaa
open Go.RowKit
set_option linter.unusedVariables false
set_option linter.unusedSimpArgs false

theorem ok_slices_Clone_VarCell : FOk q0b (gCl 5864062014634) := q2p fun ds outs hw hg => by
  obtain ⟨d, r, rfl, hd, rfl⟩ := hw
  obtain ⟨l, te, rfl, -⟩ := hd.row
  simp only [gCl, rowQ_r, Option.ite_none_right_eq_some, Option.some.injEq] at hg
  obtain ⟨h1, rfl⟩ := hg
  exact clT_ok h1 rfl

def vAt (s : So) (l : List Vc) (k : Nat) : Bool := decide (0 ≤ (l.getD k default).v) && (decide ((l.getD k default).v ≤ 1099511627776) && (decide (k = 0 ∨ (l.getD (k - 1) default).v < (l.getD k default).v) && vcP s (l.getD k default).c))
def vvP (s : So) (l : List Vc) : Bool := (List.range l.length).all (vAt s l)
def gVV (f : So → List Vc → Bool) : List D → Option (List D)
  | [s, l] => some [.b (f (dS s) (dVs l))]
  | _ => none
theorem ok_cells_validVars : FOk q0h (gVV vvP) := q3r q1p fun ds outs hw hg => by
  obtain ⟨d, r, rfl, hd, e, r', rfl, he, rfl⟩ := hw
  obtain ⟨s, rfl, hs⟩ := wfS hd
  obtain ⟨l, rfl, hl, hok⟩ := wfVs he
  simp only [gVV, dS_eS, dVs_eVs, Option.some.injEq] at hg
  subst hg
  rw [q20, go_loop]
  refine ⟨fun st => ∃ k : Nat, k ≤ l.length ∧ st = [.b false, .i k] ∧ ∀ j, j < k → vAt s l j = true, fun st => l.length - (st.getD 1 .u).int.toNat, ⟨0, Nat.zero_le _, rfl, fun j hj => absurd hj (Nat.not_lt_zero _)⟩, ?_⟩
  rintro st - ⟨k, hk, rfl, hP⟩
  rw [go_br]
  refine ⟨fun hlt => ?_, fun hlt => ?_⟩
  · simp only [q05, go_br, q06, q08, allSay, X.says, X.ev, X.evs, evl, tblS, List.getD_cons_zero, List.getD_cons_succ, List.getElem?_cons_zero, List.getElem?_cons_succ, tt_b, int_i, str_s, rs_r, Option.isSome_some, Option.getD_some, decide_eq_true_eq, decide_eq_false_iff_not, dS_eS, dC_eC, dU_eU, dW_eW, dY_eY, eC_0, eC_1, eU_0, eU_1, eW_0, eW_1, eW_2, eY_0, eY_1, eS_0, eS_1, eS_2, eS_3, eS_4, eS_5, List.length_map, i_inj, b_inj, s_inj, eC_eq, eU_eq, eW_eq, eY_eq, eS_eq, rng64, List.take_succ_cons, List.take_zero, List.nil_append, List.cons_append, decide_true, decide_false, Bool.or_true, true_and, and_true, dT_eT, eT_0, eT_1, eT_2, eT_3, eT_eq, eT_z] at hlt
    have hkl : k < l.length := by omega
    have hvb := (hok _ (getD_mem hkl)).1
    by_cases h0 : k = 0
    · subst h0
      have e1 : decide ((0 : Int) < ((0 : Nat) : Int)) = false := by decide
      simp only [q05, go_br, q06, q08, allSay, X.says, X.ev, X.evs, evl, tblS, List.getD_cons_zero, List.getD_cons_succ, List.getElem?_cons_zero, List.getElem?_cons_succ, tt_b, int_i, str_s, rs_r, Option.isSome_some, Option.getD_some, decide_eq_true_eq, decide_eq_false_iff_not, dS_eS, dC_eC, dU_eU, dW_eW, dY_eY, eC_0, eC_1, eU_0, eU_1, eW_0, eW_1, eW_2, eY_0, eY_1, eS_0, eS_1, eS_2, eS_3, eS_4, eS_5, List.length_map, i_inj, b_inj, s_inj, eC_eq, eU_eq, eW_eq, eY_eq, eS_eq, rng64, List.take_succ_cons, List.take_zero, List.nil_append, List.cons_append, decide_true, decide_false, Bool.or_true, true_and, and_true, dT_eT, eT_0, eT_1, eT_2, eT_3, eT_eq, eT_z, get_n eV hkl, eV_0, eV_1, gSCb, e1, Bool.and_false, Bool.false_and, Bool.not_false, Bool.true_or, Bool.or_false, true_and, and_self]
      refine ⟨⟨by omega, by omega⟩, fun hb => ?_, fun hb => ⟨⟨by omega, by omega⟩, ?_⟩⟩
      · have hv : vAt s l 0 = false := by
          simp only [vAt, true_or, decide_true, Bool.true_and]
          generalize l.getD 0 default = z at hb ⊢
          cases hvc : vcP s z.c
          · simp
          · simp [hvc] at hb ⊢
            omega
        rw [vvP, all_not hkl hv]
      · have hv : vAt s l 0 = true := by
          simp only [vAt, true_or, decide_true, Bool.true_and]
          generalize l.getD 0 default = z at hb ⊢
          cases hvc : vcP s z.c
          · simp [hvc] at hb
          · simp [hvc] at hb ⊢
            omega
        rw [updB, if_pos rfl]
        exact ⟨⟨1, by omega, by simp, upto_succ hP hv⟩, by simp [D.int]; omega⟩
    · have hk1 : ((k : Int) - 1) = ((k - 1 : Nat) : Int) := by omega
      have hkp : k - 1 < l.length := by omega
      have hp : (0 : Int) < k := by omega
      have hr1 : rngB .i64 ((k - 1 : Nat) : Int) = true := by simp [rngB]; omega
      have hr2 : (0 : Int) ≤ ((k - 1 : Nat) : Int) := by omega
      have hr3 : ((k - 1 : Nat) : Int) < l.length := by omega
      simp only [q05, go_br, q06, q08, allSay, X.says, X.ev, X.evs, evl, tblS, List.getD_cons_zero, List.getD_cons_succ, List.getElem?_cons_zero, List.getElem?_cons_succ, tt_b, int_i, str_s, rs_r, Option.isSome_some, Option.getD_some, decide_eq_true_eq, decide_eq_false_iff_not, dS_eS, dC_eC, dU_eU, dW_eW, dY_eY, eC_0, eC_1, eU_0, eU_1, eW_0, eW_1, eW_2, eY_0, eY_1, eS_0, eS_1, eS_2, eS_3, eS_4, eS_5, List.length_map, i_inj, b_inj, s_inj, eC_eq, eU_eq, eW_eq, eY_eq, eS_eq, rng64, List.take_succ_cons, List.take_zero, List.nil_append, List.cons_append, decide_true, decide_false, Bool.or_true, true_and, and_true, dT_eT, eT_0, eT_1, eT_2, eT_3, eT_eq, eT_z, hk1, hp, hr1, hr2, hr3, get_n eV hkl, get_n eV hkp, eV_0, eV_1, gSCb, Bool.and_true, Bool.true_and]
      refine ⟨⟨by omega, by omega⟩, fun hb => ?_, fun hb => ⟨⟨by omega, by omega⟩, ?_⟩⟩
      · have hv : vAt s l k = false := by
          simp only [vAt, h0, false_or]
          generalize l.getD k default = z at hb ⊢
          cases hvc : vcP s z.c
          · simp
          · simp [hvc] at hb ⊢
            omega
        rw [vvP, all_not hkl hv]
      · have hv : vAt s l k = true := by
          simp only [vAt, h0, false_or]
          generalize l.getD k default = z at hb ⊢
          cases hvc : vcP s z.c
          · simp [hvc] at hb
          · simp [hvc] at hb ⊢
            omega
        rw [updB, if_pos rfl]
        exact ⟨⟨k + 1, by omega, by simp, upto_succ hP hv⟩, by simp [D.int]; omega⟩
  · simp only [q05, go_br, q06, q08, allSay, X.says, X.ev, X.evs, evl, tblS, List.getD_cons_zero, List.getD_cons_succ, List.getElem?_cons_zero, List.getElem?_cons_succ, tt_b, int_i, str_s, rs_r, Option.isSome_some, Option.getD_some, decide_eq_true_eq, decide_eq_false_iff_not, dS_eS, dC_eC, dU_eU, dW_eW, dY_eY, eC_0, eC_1, eU_0, eU_1, eW_0, eW_1, eW_2, eY_0, eY_1, eS_0, eS_1, eS_2, eS_3, eS_4, eS_5, List.length_map, i_inj, b_inj, s_inj, eC_eq, eU_eq, eW_eq, eY_eq, eS_eq, rng64, List.take_succ_cons, List.take_zero, List.nil_append, List.cons_append, decide_true, decide_false, Bool.or_true, true_and, and_true, dT_eT, eT_0, eT_1, eT_2, eT_3, eT_eq, eT_z] at hlt ⊢
    have : k = l.length := by omega
    subst this
    simp only [vvP, all_yes hP]

end Go.Proofs.Ytinclokohcommaa


namespace Go.Proofs.Ytinclokohcommaa
open Go.RowKit
set_option linter.unusedVariables false
set_option linter.unusedSimpArgs false

end Go.Proofs.Ytinclokohcommaa


namespace Go.Proofs.Ytinclokohcommaa
open Go.RowKit
set_option linter.unusedVariables false
set_option maxRecDepth 100000

end Go.Proofs.Ytinclokohcommaa


namespace Go.Proofs.Ytinclokohcommaa
open Go.RowKit
set_option linter.unusedVariables false
set_option linter.unusedSimpArgs false

end Go.Proofs.Ytinclokohcommaa


namespace Go.Proofs.Ytinclokohcommaa
open Go.RowKit
set_option linter.unusedVariables false
set_option linter.unusedSimpArgs false

end Go.Proofs.Ytinclokohcommaa


namespace Go.Proofs.Ytinclokohcommaa
open Go.RowKit
set_option linter.unusedVariables false
set_option linter.unusedSimpArgs false

end Go.Proofs.Ytinclokohcommaa


namespace Go.Proofs.Ytinclokohcommaa
open Go.RowKit
set_option linter.unusedVariables false
set_option linter.unusedSimpArgs false

mutual
/-- A cell represents a term; f: what represents a variable. -/
def Rh (S : So) (f : Int → Ce) : Te → Ce → Prop
  | .mk k n nm l, c => (k = 0 ∧ c = f n) ∨ (k = 1 ∧ c = ⟨1, n⟩) ∨ (k = 2 ∧ c.t = 2 ∧ ∃ y : Nat, c.n = (y : Int) ∧ S.ys[y]? = some ⟨nm, 0⟩) ∨
    (k = 3 ∧ c.t = 3 ∧ ∃ p y : Nat, c.n = (p : Int) ∧ S.cs[p]? = some ⟨4, y⟩ ∧ S.ys[y]? = some ⟨nm, (l.length : Nat)⟩ ∧ Rhs S f l (p + 1))
def Rhs (S : So) (f : Int → Ce) : List Te → Nat → Prop
  | [], _ => True
  | t :: l, p => (∃ c, S.cs[p]? = some c ∧ Rh S f t c) ∧ Rhs S f l (p + 1)
end
end Go.Proofs.Ytinclokohcommaa


namespace Go.Proofs.Ytinclokohcommaa
open Go.RowKit
set_option linter.unusedVariables false
set_option linter.unusedSimpArgs false

theorem ar_of {S : So} {y : Nat} {nm : ByteArray} {k : Int} (h : S.ys[y]? = some ⟨nm, k⟩) : arS S y = k ∧ syAt S y = ⟨nm, k⟩ := by
  have hl := (List.getElem?_eq_some_iff.1 h).1
  have e : S.ys.getD y default = ⟨nm, k⟩ := by
    rw [List.getD_eq_getElem?_getD, h]
    rfl
  have e2 : syAt S y = ⟨nm, k⟩ := by
    show S.ys.getD ((y : Nat) : Int).toNat default = _
    rw [Int.toNat_natCast, e]
  refine ⟨?_, e2⟩
  unfold arS
  rw [if_pos ⟨by omega, by omega⟩, Int.toNat_natCast, e]
section
variable {S : So} {f : Int → Ce} {g : Int → Te} {V : List Int}
end

structure Ext (s S : So) : Prop where
  cs : ∀ i : Nat, i < s.cs.length → S.cs[i]? = s.cs[i]?
  len : s.cs.length ≤ S.cs.length
  ys : ∀ (i : Nat) y, s.ys[i]? = some y → S.ys[i]? = some y
section
variable {s S : So}
theorem Ext.inS (E : Ext s S) {i : Int} (h : inS s i = true) : inS S i = true ∧ cellAt S i = cellAt s i := by
  have q := inS_iff.1 h
  have hl := E.len
  refine ⟨inS_iff.2 ⟨q.1, by omega⟩, ?_⟩
  unfold cellAt
  rw [List.getD_eq_getElem?_getD, List.getD_eq_getElem?_getD, E.cs _ (by omega)]
theorem Ext.tag (E : Ext s S) {i : Int} (h : i < s.cs.length) : tagS S i = tagS s i := by
  cases hi : Go.Proofs.Ytinclokohcommaa.inS s i with
  | true => rw [tagS_in hi, tagS_in (E.inS hi).1, (E.inS hi).2]
  | false =>
    rw [tagS_out hi, tagS_out]
    cases h2 : Go.Proofs.Ytinclokohcommaa.inS S i with
    | false => rfl
    | true =>
      have q := inS_iff.1 h2
      rw [inS_iff.2 ⟨q.1, h⟩] at hi
      cases hi
theorem Ext.ar (E : Ext s S) {n : Int} (h : 0 ≤ arS s n) : arS S n = arS s n ∧ syAt S n = syAt s n := by
  obtain ⟨h0, h1, h2⟩ := ar_rng h
  have hy : s.ys[n.toNat]? = some (syAt s n) := by
    unfold syAt
    rw [List.getD_eq_getElem?_getD, List.getElem?_eq_getElem (by omega)]
    rfl
  have hY := E.ys _ _ hy
  have hn : n = ((n.toNat : Nat) : Int) := by omega
  generalize hz : syAt s n = z at hY hy
  obtain ⟨nm, k⟩ := z
  have a1 := ar_of hy
  have a2 := ar_of hY
  rw [← hn] at a1 a2
  exact ⟨a2.1.trans a1.1.symm, a2.2⟩
theorem Ext.vc (E : Ext s S) {c : Ce} (h : vcR s c = true) : vcR S c = true := by
  rcases vcR_tag h with ht | ht | ht | ht | ht
  · obtain ⟨h1, h2⟩ := vc_ref h ht
    obtain ⟨h3, h4⟩ := E.inS h1
    unfold vcR
    rw [if_pos ht, tagS_in h3, h3, h4]
    simp [h2]
  · unfold vcR
    rw [if_neg (by omega), if_pos ht]
  · unfold vcR at h ⊢
    rw [if_neg (by omega), if_neg (by omega), if_pos ht] at h ⊢
    have h := of_decide_eq_true h
    rw [(E.ar (by omega)).1, h]
    rfl
  · unfold vcR at h ⊢
    rw [if_neg (by omega), if_neg (by omega), if_neg (by omega), if_pos ht] at h ⊢
    have h := of_decide_eq_true h
    rw [E.tag (inS_iff.1 (tag_in' (by decide) h)).2, h]
    rfl
  · unfold vcR at h ⊢
    rw [if_neg (by omega), if_neg (by omega), if_neg (by omega), if_neg (by omega), if_pos ht] at h ⊢
    have h := of_decide_eq_true h
    rw [E.tag (inS_iff.1 (tag_in' (by decide) h)).2, h]
    rfl
theorem Ext.ends (E : Ext s S) (h : validR s = true) : ∀ (k : Nat) (n : Int), Go.Proofs.Ytinclokohcommaa.inS s n = true → endsN s k n = true → endsN S k n = true
  | 0, n, _, h1 => by cases h1
  | k + 1, n, hi, h1 => by
    have hT := E.tag (inS_iff.1 hi).2
    have hC := (E.inS hi).2
    by_cases hn : Ns s n
    · have hn' : Ns S n := ⟨hT.trans hn.1, by rw [hC]; exact hn.2⟩
      rw [endsN_ns hn] at h1
      rw [endsN_ns hn', nx, hC]
      exact Ext.ends E h k _ (vr_nx h hn) h1
    · exact endsN_st fun q => hn ⟨hT.symm.trans q.1, by have := q.2; rwa [hC] at this⟩
theorem Ext.derN (E : Ext s S) (h : validR s = true) : ∀ (k : Nat) {c : Ce}, vcR s c = true → Go.Proofs.Ytinclokohcommaa.derN S k c = Go.Proofs.Ytinclokohcommaa.derN s k c
  | 0, c, _ => rfl
  | k + 1, c, hc => by
    unfold Go.Proofs.Ytinclokohcommaa.derN
    by_cases ht : c.t = 0
    · obtain ⟨h1, h2⟩ := vc_ref hc ht
      obtain ⟨h3, h4⟩ := E.inS h1
      rw [h1, h3, h4]
      by_cases he : cellAt s c.n = c
      · rw [if_neg (fun q => q.2.2 he), if_neg (fun q => q.2.2 he)]
      · rw [if_pos ⟨ht, rfl, he⟩, if_pos ⟨ht, rfl, he⟩]
        exact Ext.derN E h k (vr_vc h h1 h2)
    · rw [if_neg (fun q => ht q.1), if_neg (fun q => ht q.1)]
end
end Go.Proofs.Ytinclokohcommaa


namespace Go.Proofs.Ytinclokohcommaa
open Go.RowKit
set_option linter.unusedVariables false
set_option linter.unusedSimpArgs false

structure Vgood (S : So) (c : Ce) : Prop where
  vc : vcR S c = true
  no5 : c.t ≠ 5
  ends : c.t = 0 → endsN S S.cs.length c.n = true
section
variable {s S : So} {f : Int → Ce} {V : List Int}
end
end Go.Proofs.Ytinclokohcommaa


namespace Go.Proofs.Ytinclokohcommaa
open Go.RowKit
set_option linter.unusedVariables false
set_option linter.unusedSimpArgs false

def Inj (all : List Vc) : Prop := ∀ v w c, ofV all v = some c → ofV all w = some c → v = w
def fOf (all : List Vc) (v : Int) : Ce := keptC ((ofV all v).getD default)
structure PutOk (s : So) (t : Te) (l : List Vc) (c : Ce) (all : List Vc) (S : So) : Prop where
  ext : Ext s S
  rst : Rst s S
  valid : validR S = true
  rep : Rh S (fOf all) t c
  sv : SV all
  of : ∀ v d, ofV l v = some d → ofV all v = some d
  new : ∀ v d, ofV all v = some d → ofV l v = some d ∨ ∃ p : Nat, d = ⟨0, p⟩ ∧ S.cs[p]? = some d
  vc : vcR S c = true
  vv : vvP S all = true
  len : S.cs.length = s.cs.length + nedT t l
  ys : ∃ m, S.ys = s.ys ++ m
  vars : ∀ v, v ∈ varsT (l.map Vc.v) t ↔ (ofV all v).isSome = true
  varsG : ∀ vs : List Int, (∀ v, v ∈ vs ↔ (ofV l v).isSome = true) → (∀ v, v ∈ varsT vs t ↔ (ofV all v).isSome = true) ∧ all.length + vs.length = l.length + (varsT vs t).length
  cnt : all.length = (varsT (l.map Vc.v) t).length
  inj : ∀ H : Inj l, (∀ v d, ofV l v = some d → ∃ p : Nat, d = ⟨0, p⟩ ∧ p < s.cs.length) → Inj all ∧ ∀ v d, ofV all v = some d → ∃ p : Nat, d = ⟨0, p⟩ ∧ p < S.cs.length
end Go.Proofs.Ytinclokohcommaa


namespace Go.Proofs.Ytinclokohcommaa
open Go.RowKit
set_option linter.unusedVariables false
set_option linter.unusedSimpArgs false

end Go.Proofs.Ytinclokohcommaa


namespace Go.Proofs.Ytinclokohcommaa
open Go.RowKit
set_option linter.unusedVariables false
set_option linter.unusedSimpArgs false

end Go.Proofs.Ytinclokohcommaa


namespace Go.Proofs.Ytinclokohcommaa
open Go.RowKit
set_option linter.unusedVariables false
set_option linter.unusedSimpArgs false

def two (t u : Te) : Te := .mk 3 0 ⟨#[116, 119, 111]⟩ [t, u]
end Go.Proofs.Ytinclokohcommaa


namespace Go.Proofs.Ytinclokohcommaa
open Go.RowKit
set_option linter.unusedVariables false
set_option linter.unusedSimpArgs false

end Go.Proofs.Ytinclokohcommaa


namespace Go.Proofs.Ytinclokohcommaa
open Go.RowKit
set_option linter.unusedVariables false
set_option linter.unusedSimpArgs false

end Go.Proofs.Ytinclokohcommaa


namespace Go.Proofs.Ytinclokohcommaa
open Go.RowKit
set_option linter.unusedVariables false
set_option maxRecDepth 100000

def q2g : Ct := ⟨43, [.val (.str)], [(.st 42, false)], [], none⟩
theorem enter_law30_a (args : Array Value) (w : World) : (callFunc q2g.f args).run Try.prog w = .ok (.enter q2g.f args) w := by kernel_rfl
def ann_law30_a : Ann := ⟨[0, 2], []⟩
def q3m : Tree := (.leaf [(.set (.set (.lit (.a [(.i 0), (.i 0), (.s ⟨#[]⟩), (.r [])])) 0 (.lit (.i 2))) 2 (.tok 0))])
set_option maxRecDepth 100000 in
theorem code_law30_a : ∀ cd, Try.f43.body = some cd → treeOf Try.prog [] ann_law30_a q2g Try.f43 cd = q3m := by
  intro cd h
  injection h with h
  subst h
  kernel_rfl
theorem fok_law30_a {g : List D → Option (List D)}  (h : ∀ ds outs, WfA q2g.ars ds → g ds = some outs → q3m.go (tblS []) (fun o => o = outs) ds fun _ _ => False) : FOk q2g g :=
  q0c ann_law30_a Try.f43 _ .nil rfl rfl enter_law30_a (by decide) fun ds outs hw hg => by rw [code_law30_a  _ rfl]; exact h ds outs hw hg

def q1h : Ct := ⟨16, [.nilp, .val (.str), .val (.int .i64)], [(.int .i64, false), (.int .i64, false)], [], none⟩
theorem enter_cells_Symbol_n (args : Array Value) (w : World) : (callFunc q1h.f args).run Try.prog w = .ok (.enter q1h.f args) w := by kernel_rfl
def q23 : Ct := ⟨52, [.nilp, .val (.st 71)], [(.int .i64, false)], [], none⟩
theorem enter_cells_find_n (args : Array Value) (w : World) : (callFunc q23.f args).run Try.prog w = .ok (.enter q23.f args) w := by kernel_rfl
def q44 : Ann := ⟨[0, 1, 2, 6, 7, 8, 9, 24, 32, 39], []⟩
def q3t : Tree := (.leaf [(.lit (.i 0)), (.lit (.i 1))])
set_option maxRecDepth 100000 in
theorem code_cells_Symbol_n (g0 : List D → Option (List D)) : ∀ cd, Try.f16.body = some cd → treeOf Try.prog [(q23, g0)] q44 q1h Try.f16 cd = q3t := by
  intro cd h
  injection h with h
  subst h
  kernel_rfl
theorem fok_cells_Symbol_n {g0 : List D → Option (List D)} {g : List D → Option (List D)} (h0 : FOk q23 g0) (h : ∀ ds outs, WfA q1h.ars ds → g ds = some outs → q3t.go (tblS [(q23, g0)]) (fun o => o = outs) ds fun _ _ => False) : FOk q1h g :=
  q0c q44 Try.f16 _ (.cons h0 .nil) rfl rfl enter_cells_Symbol_n (by decide) fun ds outs hw hg => by rw [code_cells_Symbol_n g0 _ rfl]; exact h ds outs hw hg

def q1s : Ct := ⟨21, [.nilp, .val (.st 42), .val (.row 49)], [(.st 36, false), (.row 49, false), (.int .i64, false)], [], none⟩
theorem enter_cells_Put_n (args : Array Value) (w : World) : (callFunc q1s.f args).run Try.prog w = .ok (.enter q1s.f args) w := by kernel_rfl
def q24 : Ct := ⟨56, [.nilp, .val (.st 42), .val (.row 49)], [(.bool, false)], [], none⟩
theorem enter_cells_room_n (args : Array Value) (w : World) : (callFunc q24.f args).run Try.prog w = .ok (.enter q24.f args) w := by kernel_rfl
def ann_cells_Put_n : Ann := ⟨[0, 1, 2, 3, 4, 6, 7, 8, 9, 24, 30], []⟩
def tree_cells_Put_n : Tree := (.leaf [(.lit (.a [(.i 0), (.i 0)])), (.lit (.r [])), (.lit (.i 1))])
set_option maxRecDepth 100000 in
theorem code_cells_Put_n (g0 g1 g2 g3 : List D → Option (List D)) : ∀ cd, Try.f21.body = some cd → treeOf Try.prog [(q0k, g0), (q0h, g1), (q24, g2), (q0b, g3)] ann_cells_Put_n q1s Try.f21 cd = tree_cells_Put_n := by
  intro cd h
  injection h with h
  subst h
  kernel_rfl
theorem fok_cells_Put_n {g0 g1 g2 g3 : List D → Option (List D)} {g : List D → Option (List D)} (h0 : FOk q0k g0) (h1 : FOk q0h g1) (h2 : FOk q24 g2) (h3 : FOk q0b g3) (h : ∀ ds outs, WfA q1s.ars ds → g ds = some outs → tree_cells_Put_n.go (tblS [(q0k, g0), (q0h, g1), (q24, g2), (q0b, g3)]) (fun o => o = outs) ds fun _ _ => False) : FOk q1s g :=
  q0c ann_cells_Put_n Try.f21 _ (.cons h0 (.cons h1 (.cons h2 (.cons h3 .nil)))) rfl rfl enter_cells_Put_n (by decide) fun ds outs hw hg => by rw [code_cells_Put_n g0 g1 g2 g3 _ rfl]; exact h ds outs hw hg

end Go.Proofs.Ytinclokohcommaa


namespace Go.Proofs.Ytinclokohcommaa
open Go.RowKit
set_option linter.unusedVariables false
set_option maxRecDepth 100000

def q2h : Ct := ⟨11, [], [(.bool, false)], [], none⟩
theorem enter_law30_CellsKnown (args : Array Value) (w : World) : (callFunc q2h.f args).run Try.prog w = .ok (.enter q2h.f args) w := by kernel_rfl
def ann_law30_CellsKnown : Ann := ⟨[0, 2, 4, 5, 6, 7, 9, 10, 12, 13, 15, 16, 17, 18, 19, 20, 22, 24, 26, 29, 31], []⟩
end Go.Proofs.Ytinclokohcommaa


namespace Go.Proofs.Ytinclokohcommaa
open Go.RowKit
set_option linter.unusedVariables false
set_option linter.unusedSimpArgs false
set_option maxRecDepth 100000

theorem FOk.at1 {ct : Ct} {g g' : List D → Option (List D)} {ds0 outs0 : List D} (h : FOk ct g) (h' : FOk ct g') (h0 : g' ds0 = some outs0) : FOk ct fun ds => if ds = ds0 then some outs0 else g ds :=
  ⟨h.enter, fun A p w vs us ds outs hg hp hl ha => by
    by_cases e : ds = ds0
    · rw [if_pos e] at hg
      subst e
      exact h'.call A p w vs us ds outs (h0.trans hg) hp hl ha
    · rw [if_neg e] at hg
      exact h.call A p w vs us ds outs hg hp hl ha⟩
def loopS : So := ⟨[⟨4, 0⟩, ⟨3, 0⟩], [⟨⟨#[102]⟩, 1⟩], [], [], 0, 10⟩
theorem loop_v : validR loopS = true := by kernel_rfl
theorem loop_n : ∀ (k : Nat) (l : Int), l ≤ (k : Int) → (getN loopS (k + 1) ⟨3, 0⟩ l).2 < 0 := by
  have hd : derS loopS ⟨3, 0⟩ = ⟨3, 0⟩ := by kernel_rfl
  have ha : argsOf loopS 0 (arS loopS (cellAt loopS 0).n).toNat = [⟨3, 0⟩] := by kernel_rfl
  intro k
  induction k with
  | zero =>
    intro l hl
    rw [getN, if_pos (by omega)]
    show l - 1 < 0
    omega
  | succ k ih =>
    intro l hl
    rw [getN]
    by_cases h : l - 1 < 0
    · rw [if_pos h]
      exact h
    · rw [if_neg h, hd, if_neg (by decide), if_neg (by decide), if_pos rfl]
      show (getL (getN loopS (k + 1)) (argsOf loopS 0 (arS loopS (cellAt loopS 0).n).toNat) (l - 1)).2 < 0
      rw [ha, getL, if_neg h, getL]
      exact ih _ (by omega)
theorem loop_g : gGet [eS loopS, eC ⟨3, 0⟩] = some [eT zT, .i 2] := by
  simp only [gGet, dS_eS, dC_eC]
  rw [if_pos loop_v]
  have : (getN loopS 2001 ⟨3, 0⟩ 2000).2 < 0 := loop_n 2000 2000 (by decide)
  simp only [getS]
  rw [if_pos (by kernel_rfl), if_pos this]
theorem ok_getK : FOk q13 fun ds => if ds = [eS loopS, eC ⟨3, 0⟩] then some [eT zT, .i 2] else g_cells_Get ds := FOk.at1 ok_cells_Get_c ok_cells_Get loop_g
theorem ok_law30_a : FOk q2g (denF [] 12 q3m) := fok_law30_a fun ds outs hw hg => q0d hg
theorem ok_cells_Symbol_n : FOk q1h (fun _ => some [.i 0, .i 1]) := fok_cells_Symbol_n (FOk.none enter_cells_find_n) fun ds outs hw hg => by
  injection hg with hg
theorem ok_cells_Put_n : FOk q1s (fun _ => some [.a [.i 0, .i 0], .r [], .i 1]) := fok_cells_Put_n ok_term_Valid ok_cells_validVars (FOk.none enter_cells_room_n) ok_slices_Clone_VarCell fun ds outs hw hg => by
  injection hg with hg
def ct_flag : Ct := ⟨45, [], [(.st 4242424242, true)], [], none⟩
theorem ok_flag : FOk ct_flag fun _ => none := ⟨enter_law30_x, fun A p w vs us ds outs h => by cases h⟩
theorem law_CellsKnown : FOk q2h fun _ => some [.b true] :=
  q0c (tbl := [(ct_flag, fun _ => none), (q1m, g_cells_New), (q2g, denF [] 12 q3m), (q1i, g_cells_Put), (q1v, g_law30_f), (q1j, g_law30_str), (q13, fun ds => if ds = [eS loopS, eC ⟨3, 0⟩] then some [eT zT, .i 2] else g_cells_Get ds), (q1k, g_law30_ref), (q1u, g_law30_x), (q11, g_cells_Symbol), (q1h, fun _ => some [.i 0, .i 1]), (q1s, fun _ => some [.a [.i 0, .i 0], .r [], .i 1]), (q1t, gSb validP), (q1d, g_ref03_Same), (q0q, g_cells_Deref), (q1r, gYes)])
    ann_law30_CellsKnown Try.f11 _ (.cons ok_flag (.cons ok_cells_New_c (.cons ok_law30_a (.cons ok_cells_Put_c (.cons ok_law30_f_c (.cons ok_law30_str_c (.cons ok_getK (.cons ok_law30_ref_c (.cons ok_law30_x_c (.cons ok_cells_Symbol_c (.cons ok_cells_Symbol_n (.cons ok_cells_Put_n (.cons ok_cells_Valid (.cons ok_ref03_Same_c (.cons q37 (.cons ok_law30_awake .nil)))))))))))))))) rfl rfl enter_law30_CellsKnown (by decide) fun ds outs hw hg => by
  obtain rfl : ds = [] := hw
  injection hg with hg
  subst hg
  exact q0d (fuel := 12) (by kernel_rfl)
end Go.Proofs.Ytinclokohcommaa


namespace Go.Proofs.Ytinclokohcommaa
open Go.ChangeShapes Go.WideShapes Go.ChangeAt Go.RowKit
set_option linter.unusedVariables false
set_option maxRecDepth 100000

theorem own_knobD : ownKnob Try.prog.godebug = none := by kernel_rfl
section
variable {H : Type} {enc : TypeId × Value → H} {W : World} {base : Nat} {spare : Nat → Bool} {held : Bool}

end

def ArgsV (W : World) : List Ar → List Value → List D → Prop
  | [], vs, ds => vs = [] ∧ ds = []
  | .val t :: l, vs, ds => ∃ v r d ds', vs = v :: r ∧ ds = d :: ds' ∧ (∃ cs, Pack t cs v ∧ Rd W (FFD (fun _ => True) (fun _ => none) []) d t cs) ∧ ArgsV W l r ds'
  | _ :: _, _, _ => False
theorem ArgsV.ok {W : World} {V : List Value} : ∀ {i : Nat} {ar : List Ar} {vs : List Value} {ds : List D}, ArgsV W ar vs ds → ArgsOk V (fun _ => True) (fun _ => none) W (idx i ar) vs ds ∧ vs.length = ar.length
  | _, [], vs, ds, h => ⟨h, by rw [h.1]; rfl⟩
  | i, .val t :: l, vs, ds, ⟨v, r, d, ds', e1, e2, h1, h⟩ => by
    obtain ⟨h2, h3⟩ := ArgsV.ok (V := V) (i := i + 1) h
    exact ⟨⟨v, r, d, ds', e1, e2, h1, h2⟩, by rw [e1]; simp [h3]⟩
  | _, .ref _ :: _, _, _, h => h.elim
  | _, .rref _ :: _, _, _, h => h.elim
  | _, .own _ :: _, _, _, h => h.elim
  | _, .mref _ :: _, _, _, h => h.elim
  | _, .nils :: _, _, _, h => h.elim
  | _, .nilp :: _, _, _, h => h.elim
  | _, .fn _ _ :: _, _, _, h => h.elim
  | _, .cell _ _ :: _, _, _, h => h.elim
theorem law_calls {ct : Ct} {g : List D → Option (List D)} (h : FOk ct g) (hrs : ct.rs = [(.bool, false)]) (hvr : ct.vr = []) {W : World} {vs : List Value} {ds : List D} (ha : ArgsV W ct.ar vs ds) (hg : g ds = some [.b true]) :
    Calls Try.prog ct.f vs.toArray W fun e W' => e = .returned (.bool true) ∧ But Nil W W' := by
  obtain ⟨h1, h2⟩ := ArgsV.ok (V := vs ++ []) (i := 0) ha
  refine (h.call (fun _ => True) (fun _ => none) W vs [] ds _ hg (by constructor <;> simp) h2 (by simpa [Ct.all, hvr, idx] using h1)).mono ?_
  rintro e W' (⟨T, -, ho, -⟩ | ⟨rs, p', rfl, hb, hr, -⟩)
  · cases ho
  rw [hrs] at hr
  obtain ⟨v, r, d, ds', rfl, hd, ⟨cs, hp, hc⟩, rfl⟩ := hr
  simp at hd
  obtain ⟨rfl, rfl⟩ := hd
  obtain ⟨e1, e2⟩ : D.b true = .b true ∧ cs = [.bool true] := ⟨rfl, by
    have hc' : Rd W' (FFD (fun _ => True) p' []) (.b true) .bool cs := hc
    exact hc'.2⟩
  subst e2
  have hpv : [Value.bool true] = [v] := hp
  injection hpv with hpv
  subst hpv
  exact ⟨rfl, hb.but.mono fun i hi _ => by obtain ⟨x, hx⟩ := hi; cases hx⟩
end Go.Proofs.Ytinclokohcommaa

