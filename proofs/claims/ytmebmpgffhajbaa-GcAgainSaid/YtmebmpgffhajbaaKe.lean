/-
  Lemmas of the walk and plain laws, put together. No condition.
-/
import Derived.ChangeArms
import Derived.OpenShut
import Derived.ProofKit
import Derived.SizedLaws
import Derived.Test.YtmebmpgffhajbaaRows
import Derived.Test.YtmebmpgffhajbaaKd
namespace Go.Proofs.Ytmebmpgffhajbaa
open Go.RowKit
set_option linter.unusedVariables false
set_option linter.unusedSimpArgs false

theorem rows_eq {l m : List D} (hl : l.length = m.length) (h : ∀ j, j < l.length → l.getD j .u = m.getD j .u) : l = m := by
  refine List.ext_getElem hl fun j h1 h2 => ?_
  have := h j h1
  simpa [List.getD_eq_getElem?_getD, h1, h2] using this
theorem get_k (l : List D) (k : Nat) : (D.r l).get (k : Int) = l.getD k .u := rfl

def eqT : Tree := (.br (.not (.eq (.len (.tok 0)) (.len (.tok 1)))) (.leaf [(.lit (.b .false))]) (.loop 4 2 [(.lit (.b .false)), (.lit (.i 0))] (.br (.lt (.tok 3) (.len (.tok 0))) (.need [(.le (.lit (.i 0)) (.tok 3)), (.lt (.tok 3) (.len (.tok 1))), (.le (.lit (.i 0)) (.tok 3)), (.lt (.tok 3) (.len (.tok 0)))] (.br (.not (.eq (.get (.tok 0) (.tok 3)) (.get (.tok 1) (.tok 3)))) (.leaf [(.lit (.b .false))]) (.need [(.rng .i64 (.add (.tok 3) (.lit (.i 1))))] (.back 4 [(.tok 2), (.add (.tok 3) (.lit (.i 1)))])))) (.leaf [(.lit (.b .true))]))))
theorem eqT_ok {S : Nat → List D → Option (List D)} {l m : List D} {R : List D → Prop} {B : Nat → List D → Prop} (hl : l.length ≤ LIM) (hR : R [.b (decide (l = m))]) : eqT.go S R [.r l, .r m] B := by
  simp only [LIM] at hl
  rw [eqT, go_br]
  refine ⟨fun hx => ?_, fun hx => ?_⟩
  · have : ¬ l = m := fun e => by subst e; simp [X.ev, evl, D.rs, D.tt] at hx
    rw [decide_eq_false this] at hR
    exact hR
  have hlen : l.length = m.length := by
    simp [X.ev, evl, D.rs, D.tt] at hx
    omega
  refine scan_ok l.length (fun j => decide (l.getD j .u = m.getD j .u)) (v0 := .b false) rfl fun k B' hk hP hB _ => ?_
  rw [go_br]
  refine ⟨fun hlt => ?_, fun hlt => ?_⟩
  · have hkl : k < l.length := by simpa [X.ev, evl, D.int, D.rs, D.tt] using hlt
    simp only [q00, go_br, q02, q04, allSay, X.says, X.ev, X.evs, evl, tblS, List.getD_cons_zero, List.getD_cons_succ, List.getElem?_cons_zero, List.getElem?_cons_succ, tt_b, int_i, str_s, rs_r, Option.isSome_some, Option.getD_some, decide_eq_true_eq, decide_eq_false_iff_not, dS_eS, dC_eC, dU_eU, dW_eW, dY_eY, eC_0, eC_1, eU_0, eU_1, eW_0, eW_1, eW_2, eY_0, eY_1, eS_0, eS_1, eS_2, eS_3, eS_4, eS_5, List.length_map, i_inj, b_inj, s_inj, eC_eq, eU_eq, eW_eq, eY_eq, eS_eq, rng64, List.take_succ_cons, List.take_zero, List.nil_append, List.cons_append, decide_true, decide_false, Bool.or_true, true_and, and_true, get_k]
    refine ⟨⟨by omega, by omega, by omega, by omega⟩, fun hb => ?_, fun hb => ⟨⟨by omega, by omega⟩, ?_⟩⟩
    · have : ¬ l = m := fun e => by subst e; simp at hb
      rw [decide_eq_false this] at hR
      exact hR
    · exact hB hkl (by simpa using hb)
  · have : k = l.length := by
      have : ¬ (k < l.length) := by simpa [X.ev, evl, D.int, D.rs, D.tt] using hlt
      omega
    subst this
    have : l = m := rows_eq hlen fun j hj => by simpa using hP j hj
    rw [decide_eq_true this] at hR
    exact hR

def gEq : List D → Option (List D)
  | [a, b] => some [.b (decide (a = b))]
  | _ => none
theorem eq_rows {l m : List D} : decide (D.r l = D.r m) = decide (l = m) := by simp
theorem ok_slices_Equal_Cell : FOk q0o gEq := fok_slices_Equal_Cell fun ds outs hw hg => by
  obtain ⟨d, r, rfl, hd, e, r2, rfl, he, rfl⟩ := hw
  obtain ⟨l, te, rfl, -, hl, -⟩ := hd.row
  obtain ⟨m, te2, rfl, -⟩ := he.row
  simp only [gEq, Option.some.injEq, eq_rows] at hg
  subst hg
  exact eqT_ok (Nat.le_trans hl (LM_le _)) rfl
theorem ok_slices_Equal_Symbol : FOk q0j gEq := fok_slices_Equal_Symbol fun ds outs hw hg => by
  obtain ⟨d, r, rfl, hd, e, r2, rfl, he, rfl⟩ := hw
  obtain ⟨l, te, rfl, -, hl, -⟩ := hd.row
  obtain ⟨m, te2, rfl, -⟩ := he.row
  simp only [gEq, Option.some.injEq, eq_rows] at hg
  subst hg
  exact eqT_ok (Nat.le_trans hl (LM_le _)) rfl
theorem ok_slices_Equal_Undo : FOk q0t gEq := fok_slices_Equal_Undo fun ds outs hw hg => by
  obtain ⟨d, r, rfl, hd, e, r2, rfl, he, rfl⟩ := hw
  obtain ⟨l, te, rfl, -, hl, -⟩ := hd.row
  obtain ⟨m, te2, rfl, -⟩ := he.row
  simp only [gEq, Option.some.injEq, eq_rows] at hg
  subst hg
  exact eqT_ok (Nat.le_trans hl (LM_le _)) rfl
theorem ok_slices_Equal_Wake : FOk q0r gEq := fok_slices_Equal_Wake fun ds outs hw hg => by
  obtain ⟨d, r, rfl, hd, e, r2, rfl, he, rfl⟩ := hw
  obtain ⟨l, te, rfl, -, hl, -⟩ := hd.row
  obtain ⟨m, te2, rfl, -⟩ := he.row
  simp only [gEq, Option.some.injEq, eq_rows] at hg
  subst hg
  exact eqT_ok (Nat.le_trans hl (LM_le _)) rfl

def rowQ (n : Nat) (d : D) : Bool := decide (d.rs.length ≤ n)
theorem rowQ_r (n : Nat) (l : List D) : (rowQ n (.r l) = true) = (l.length ≤ n) := by simp only [rowQ, decide_eq_true_eq]; rfl
def gCl (n : Nat) : List D → Option (List D)
  | [a] => if rowQ n a then some [a] else none
  | _ => none
def clT (n : Nat) : Tree := (.amb (.tok 0) .false (.leaf [(.lit (.r []))]) (.need [(.le (.add (.lit (.i 0)) (.len (.tok 0))) (.lit (.i (n : Nat))))] (.leaf [(.app (.row []) (.tok 0))])))
theorem clT_ok {S : Nat → List D → Option (List D)} {l : List D} {R : List D → Prop} {B : Nat → List D → Prop} {n : Nat} (hl : l.length ≤ n) (hR : R [.r l]) : (clT n).go S R [.r l] B := by
  refine ⟨fun h => ?_, fun _ => ?_⟩
  · have : l = [] := h rfl
    subst this
    exact hR
  · rw [q00]
    refine ⟨by simp only [q00, go_br, q02, q04, allSay, X.says, X.ev, X.evs, evl, tblS, List.getD_cons_zero, List.getD_cons_succ, List.getElem?_cons_zero, List.getElem?_cons_succ, tt_b, int_i, str_s, rs_r, Option.isSome_some, Option.getD_some, decide_eq_true_eq, decide_eq_false_iff_not, dS_eS, dC_eC, dU_eU, dW_eW, dY_eY, eC_0, eC_1, eU_0, eU_1, eW_0, eW_1, eW_2, eY_0, eY_1, eS_0, eS_1, eS_2, eS_3, eS_4, eS_5, List.length_map, i_inj, b_inj, s_inj, eC_eq, eU_eq, eW_eq, eY_eq, eS_eq, rng64, List.take_succ_cons, List.take_zero, List.nil_append, List.cons_append, decide_true, decide_false, Bool.or_true, true_and, and_true]; omega, ?_⟩
    simpa [q02, X.evs, X.ev, evl, D.rs] using hR
theorem ok_slices_Clone_Cell : FOk q0q (gCl 8796093021952) := fok_slices_Clone_Cell fun ds outs hw hg => by
  obtain ⟨d, r, rfl, hd, rfl⟩ := hw
  obtain ⟨l, te, rfl, -⟩ := hd.row
  simp only [gCl, rowQ_r, Option.ite_none_right_eq_some, Option.some.injEq] at hg
  obtain ⟨h1, rfl⟩ := hg
  exact clT_ok h1 rfl
theorem ok_slices_Clone_Symbol : FOk q0i (gCl 5864062014634) := fok_slices_Clone_Symbol fun ds outs hw hg => by
  obtain ⟨d, r, rfl, hd, rfl⟩ := hw
  obtain ⟨l, te, rfl, -⟩ := hd.row
  simp only [gCl, rowQ_r, Option.ite_none_right_eq_some, Option.some.injEq] at hg
  obtain ⟨h1, rfl⟩ := hg
  exact clT_ok h1 rfl
theorem ok_slices_Clone_Undo : FOk q0s (gCl 5864062014634) := fok_slices_Clone_Undo fun ds outs hw hg => by
  obtain ⟨d, r, rfl, hd, rfl⟩ := hw
  obtain ⟨l, te, rfl, -⟩ := hd.row
  simp only [gCl, rowQ_r, Option.ite_none_right_eq_some, Option.some.injEq] at hg
  obtain ⟨h1, rfl⟩ := hg
  exact clT_ok h1 rfl
theorem ok_slices_Clone_Wake : FOk q0p (gCl 3518437208780) := fok_slices_Clone_Wake fun ds outs hw hg => by
  obtain ⟨d, r, rfl, hd, rfl⟩ := hw
  obtain ⟨l, te, rfl, -⟩ := hd.row
  simp only [gCl, rowQ_r, Option.ite_none_right_eq_some, Option.some.injEq] at hg
  obtain ⟨h1, rfl⟩ := hg
  exact clT_ok h1 rfl

def clQ (s : So) : Bool := decide (s.cs.length ≤ 8796093021952) && (decide (s.ys.length ≤ 5864062014634) && (decide (s.tr.length ≤ 5864062014634) && decide (s.wk.length ≤ 3518437208780)))
def gClone : List D → Option (List D)
  | [s] => if clQ (dS s) then some [eS (dS s)] else none
  | _ => none
theorem clQ_of {s : So} (hs : s.ok) : clQ s = true := by
  simp only [clQ, Bool.and_eq_true, decide_eq_true_eq]
  exact ⟨hs.cs.1, hs.ys.1, hs.tr.1, hs.wk.1⟩
theorem ok_cells_Clone : FOk q17 gClone := fok_cells_Clone ok_slices_Clone_Cell ok_slices_Clone_Symbol ok_slices_Clone_Undo ok_slices_Clone_Wake fun ds outs hw hg => by
  obtain ⟨d, r, rfl, hd, rfl⟩ := hw
  obtain ⟨s, rfl, hs⟩ := wfS hd
  simp only [gClone, dS_eS, Option.ite_none_right_eq_some, Option.some.injEq] at hg
  obtain ⟨hq, rfl⟩ := hg
  simp only [clQ, Bool.and_eq_true, decide_eq_true_eq] at hq
  obtain ⟨h1, h2, h3, h4⟩ := hq
  simp only [q2d, q00, go_br, q02, q04, allSay, X.says, X.ev, X.evs, evl, tblS, List.getD_cons_zero, List.getD_cons_succ, List.getElem?_cons_zero, List.getElem?_cons_succ, tt_b, int_i, str_s, rs_r, Option.isSome_some, Option.getD_some, decide_eq_true_eq, decide_eq_false_iff_not, dS_eS, dC_eC, dU_eU, dW_eW, dY_eY, eC_0, eC_1, eU_0, eU_1, eW_0, eW_1, eW_2, eY_0, eY_1, eS_0, eS_1, eS_2, eS_3, eS_4, eS_5, List.length_map, i_inj, b_inj, s_inj, eC_eq, eU_eq, eW_eq, eY_eq, eS_eq, rng64, List.take_succ_cons, List.take_zero, List.nil_append, List.cons_append, decide_true, decide_false, Bool.or_true, true_and, and_true, gCl, rowQ_r, h1, h2, h3, h4, if_true]
  simp [eS, D.fs, D.fld]

def gSame : List D → Option (List D)
  | [a, b] => some [.b (decide (a = b))]
  | _ => none
theorem ok_cells_Same : FOk q1a gSame := fok_cells_Same ok_slices_Equal_Cell ok_slices_Equal_Symbol ok_slices_Equal_Undo ok_slices_Equal_Wake fun ds outs hw hg => by
  obtain ⟨d, r, rfl, hd, e, r', rfl, he, rfl⟩ := hw
  obtain ⟨s, rfl, hs⟩ := wfS hd
  obtain ⟨t, rfl, ht⟩ := wfS he
  simp only [gSame, Option.some.injEq] at hg
  subst hg
  simp only [q2m, q00, go_br, q02, q04, allSay, X.says, X.ev, X.evs, evl, tblS, List.getD_cons_zero, List.getD_cons_succ, List.getElem?_cons_zero, List.getElem?_cons_succ, tt_b, int_i, str_s, rs_r, Option.isSome_some, Option.getD_some, decide_eq_true_eq, decide_eq_false_iff_not, dS_eS, dC_eC, dU_eU, dW_eW, dY_eY, eC_0, eC_1, eU_0, eU_1, eW_0, eW_1, eW_2, eY_0, eY_1, eS_0, eS_1, eS_2, eS_3, eS_4, eS_5, List.length_map, i_inj, b_inj, s_inj, eC_eq, eU_eq, eW_eq, eY_eq, eS_eq, rng64, List.take_succ_cons, List.take_zero, List.nil_append, List.cons_append, decide_true, decide_false, Bool.or_true, true_and, and_true, gEq]
  have e0 : (s = t) = (s.cs.map eC = t.cs.map eC ∧ s.ys.map eY = t.ys.map eY ∧ s.tr.map eU = t.tr.map eU ∧ s.wk.map eW = t.wk.map eW ∧ s.ser = t.ser ∧ s.mx = t.mx) := by
    rw [← eS_eq]
    simp [eS]
  simp only [e0, r_inj]
  by_cases h1 : s.cs.map eC = t.cs.map eC <;> by_cases h2 : s.ys.map eY = t.ys.map eY <;> by_cases h3 : s.tr.map eU = t.tr.map eU <;> by_cases h4 : s.wk.map eW = t.wk.map eW <;> by_cases h5 : s.ser = t.ser <;> by_cases h6 : s.mx = t.mx <;> simp [h1, h2, h3, h4, h5, h6]
end Go.Proofs.Ytmebmpgffhajbaa


namespace Go.Proofs.Ytmebmpgffhajbaa
open Go.RowKit
set_option linter.unusedVariables false
set_option maxRecDepth 100000

def g_law34_cell : List D → Option (List D) := denF [] 60 q2p
theorem ok_law34_cell_c : FOk q0x g_law34_cell := fok_law34_cell  fun ds outs hw hg => q10 hg
def g_law34_six : List D → Option (List D) := denF [(q0x, g_law34_cell)] 60 q2v
theorem ok_law34_six_c : FOk q1b g_law34_six := fok_law34_six ok_law34_cell_c fun ds outs hw hg => q10 hg
def g_cells_validSymbols : List D → Option (List D) := denF [] 60 q1d
theorem ok_cells_validSymbols_c : FOk q0d g_cells_validSymbols := q26  fun ds outs hw hg => q10 hg
def g_cells_arity : List D → Option (List D) := denF [] 60 q1o
theorem ok_cells_arity_c : FOk q0h g_cells_arity := fok_cells_arity  fun ds outs hw hg => q10 hg
def g_cells_tag : List D → Option (List D) := denF [] 60 q1w
theorem q1x : FOk q0a g_cells_tag := fok_cells_tag  fun ds outs hw hg => q10 hg
def g_cells_group : List D → Option (List D) := denF [(q0a, g_cells_tag)] 60 q1n
theorem ok_cells_group_c : FOk q0g g_cells_group := fok_cells_group q1x fun ds outs hw hg => q10 hg
def g_cells_ValidCell : List D → Option (List D) := denF [(q0h, g_cells_arity), (q0a, g_cells_tag)] 60 q1i
theorem q1g : FOk q06 g_cells_ValidCell := q2u ok_cells_arity_c q1x fun ds outs hw hg => q10 hg
def g_cells_fits : List D → Option (List D) := denF [(q0h, g_cells_arity), (q0a, g_cells_tag), (q0g, g_cells_group), (q06, g_cells_ValidCell)] 60 q1q
theorem ok_cells_fits_c : FOk q0z g_cells_fits := fok_cells_fits ok_cells_arity_c q1x ok_cells_group_c q1g fun ds outs hw hg => q10 hg
def g_cells_acyclic : List D → Option (List D) := denF [] 60 q1j
theorem ok_cells_acyclic_c : FOk q0n g_cells_acyclic := fok_cells_acyclic  fun ds outs hw hg => q10 hg
def g_cells_validUndo : List D → Option (List D) := denF [(q0a, g_cells_tag), (q0g, g_cells_group), (q06, g_cells_ValidCell)] 60 q1h
theorem ok_cells_validUndo_c : FOk q0f g_cells_validUndo := q2r q1x ok_cells_group_c q1g fun ds outs hw hg => q10 hg
def g_cells_Valid : List D → Option (List D) := denF [(q0d, g_cells_validSymbols), (q0z, g_cells_fits), (q0n, g_cells_acyclic), (q0f, g_cells_validUndo), (q06, g_cells_ValidCell)] 60 q1p
theorem ok_cells_Valid_c : FOk q0k g_cells_Valid := fok_cells_Valid ok_cells_validSymbols_c ok_cells_fits_c ok_cells_acyclic_c ok_cells_validUndo_c q1g fun ds outs hw hg => q10 hg
def g_gc_Valid : List D → Option (List D) := denF [(q0k, g_cells_Valid), (q06, g_cells_ValidCell)] 60 q29
theorem ok_gc_Valid_c : FOk q0m g_gc_Valid := fok_gc_Valid ok_cells_Valid_c q1g fun ds outs hw hg => q10 hg
def g_gc_marks_has : List D → Option (List D) := denF [] 60 q1m
theorem q20 : FOk q09 g_gc_marks_has := fok_gc_marks_has  fun ds outs hw hg => q10 hg
def g_gc_mark_1 : List D → Option (List D) := denF [(q09, g_gc_marks_has)] 60 q1v
theorem ok_gc_mark_1_c : FOk q0e g_gc_mark_1 := fok_gc_mark_1 q20 fun ds outs hw hg => q10 hg
def g_gc_mark : List D → Option (List D) := denF [(q0e, g_gc_mark_1)] 60 q2n
theorem ok_gc_mark_c : FOk q11 g_gc_mark := fok_gc_mark ok_gc_mark_1_c fun ds outs hw hg => q10 hg
def g_gc_Live : List D → Option (List D) := denF [(q0m, g_gc_Valid), (q11, g_gc_mark), (q09, g_gc_marks_has)] 60 q2o
theorem ok_gc_Live_c : FOk q12 g_gc_Live := fok_gc_Live ok_gc_Valid_c ok_gc_mark_c q20 fun ds outs hw hg => q10 hg
def g_gc_Collect_1 : List D → Option (List D) := denF [] 60 q1l
theorem ok_gc_Collect_1_c : FOk q0y g_gc_Collect_1 := fok_gc_Collect_1  fun ds outs hw hg => q10 hg
def g_gc_Collect : List D → Option (List D) := denF [(q0y, g_gc_Collect_1), (q0m, g_gc_Valid), (q11, g_gc_mark), (q09, g_gc_marks_has)] 60 q1s
theorem ok_gc_Collect_c : FOk q0u g_gc_Collect := fok_gc_Collect ok_gc_Collect_1_c ok_gc_Valid_c ok_gc_mark_c q20 fun ds outs hw hg => q10 hg
def g_ref30_Same : List D → Option (List D) := denF [] 60 q2l
theorem ok_ref30_Same_c : FOk q13 g_ref30_Same := fok_ref30_Same  fun ds outs hw hg => q10 hg
def g_ref34_Same : List D → Option (List D) := denF [] 60 q1r
theorem ok_ref34_Same_c : FOk q0v g_ref34_Same := fok_ref34_Same  fun ds outs hw hg => q10 hg
def g_law34_gives : List D → Option (List D) := denF [(q12, g_gc_Live), (q0u, g_gc_Collect), (q13, g_ref30_Same), (q0v, g_ref34_Same)] 60 q2c
theorem ok_law34_gives_c : FOk q14 g_law34_gives := fok_law34_gives ok_gc_Live_c ok_gc_Collect_c ok_ref30_Same_c ok_ref34_Same_c fun ds outs hw hg => q10 hg
end Go.Proofs.Ytmebmpgffhajbaa


namespace Go.Proofs.Ytmebmpgffhajbaa
open Go.RowKit
set_option linter.unusedVariables false
set_option maxRecDepth 100000

end Go.Proofs.Ytmebmpgffhajbaa


namespace Go.Proofs.Ytmebmpgffhajbaa
open Go.RowKit
set_option linter.unusedVariables false
set_option linter.unusedSimpArgs false

end Go.Proofs.Ytmebmpgffhajbaa


namespace Go.Proofs.Ytmebmpgffhajbaa
open Go.RowKit
set_option linter.unusedVariables false
set_option linter.unusedSimpArgs false

end Go.Proofs.Ytmebmpgffhajbaa


namespace Go.Proofs.Ytmebmpgffhajbaa
open Go.RowKit
set_option linter.unusedVariables false
set_option maxRecDepth 100000

end Go.Proofs.Ytmebmpgffhajbaa


namespace Go.Proofs.Ytmebmpgffhajbaa
open Go.RowKit
set_option linter.unusedVariables false
set_option linter.unusedSimpArgs false

structure VS (s : So) : Prop where
  tag : ∀ i : Int, inS s i = true → 0 ≤ (cellAt s i).t ∧ (cellAt s i).t ≤ 5
theorem vcR_tag {s : So} {c : Ce} (h : vcR s c = true) : c.t = 0 ∨ c.t = 1 ∨ c.t = 2 ∨ c.t = 3 ∨ c.t = 5 := by
  unfold vcR at h
  by_cases h0 : c.t = 0
  · exact .inl h0
  · by_cases h1 : c.t = 1
    · exact .inr (.inl h1)
    · by_cases h2 : c.t = 2
      · exact .inr (.inr (.inl h2))
      · by_cases h3 : c.t = 3
        · exact .inr (.inr (.inr (.inl h3)))
        · by_cases h5 : c.t = 5
          · exact .inr (.inr (.inr (.inr h5)))
          · simp [h0, h1, h2, h3, h5] at h
theorem vcP_tag {s : So} {c : Ce} (h : vcP s c = true) : c.t = 0 ∨ c.t = 1 ∨ c.t = 2 ∨ c.t = 3 ∨ c.t = 5 := by
  unfold vcP at h
  by_cases h0 : c.t = 0
  · exact .inl h0
  · by_cases h1 : c.t = 1
    · exact .inr (.inl h1)
    · by_cases h2 : c.t = 2
      · exact .inr (.inr (.inl h2))
      · by_cases h3 : c.t = 3
        · exact .inr (.inr (.inr (.inl h3)))
        · by_cases h5 : c.t = 5
          · exact .inr (.inr (.inr (.inr h5)))
          · simp [h0, h1, h2, h3, h5] at h
theorem validR_vs {s : So} (h : validR s = true) : VS s := by
  simp only [validR, Bool.and_eq_true] at h
  refine ⟨fun i hi => ?_⟩
  have h1 := inS_iff.1 hi
  have hk := all_of h.2.1 (k := i.toNat) (by omega)
  rw [show ((i.toNat : Nat) : Int) = i by omega] at hk
  unfold cellR at hk
  by_cases h4 : (cellAt s i).t = 4
  · omega
  · rw [if_neg h4] at hk
    simp only [Bool.and_eq_true] at hk
    have := vcR_tag hk.1
    omega
theorem validP_vs {s : So} (h : validP s = true) : VS s := by
  simp only [validP, Bool.and_eq_true] at h
  refine ⟨fun i hi => ?_⟩
  have h1 := inS_iff.1 hi
  have hk := all_of h.2.1 (k := i.toNat) (by omega)
  rw [show ((i.toNat : Nat) : Int) = i by omega] at hk
  unfold fitsP at hk
  by_cases h4 : (cellAt s i).t = 4
  · omega
  · rw [if_neg h4] at hk
    by_cases h5 : (cellAt s i).t = 5
    · omega
    · rw [if_neg h5] at hk
      have := vcP_tag hk
      omega
theorem VS.tag_in {s : So} (h : VS s) (n : Int) : decide (0 ≤ tagS s n) = inS s n := by
  cases hi : inS s n with
  | true =>
    rw [tagS_in hi]
    exact decide_eq_true (h.tag n hi).1
  | false =>
    rw [tagS_out hi]
    decide
theorem VS.vc {s : So} (h : VS s) (c : Ce) : vcP s c = vcR s c := by
  unfold vcP vcR
  rw [h.tag_in]
theorem VS.old {s : So} (h : VS s) (u : Un) : oldP s u = oldR s u := by
  simp only [oldP, oldR, oldB, h.tag_in, h.vc]
theorem VS.cell {s : So} (h : VS s) {i : Int} (hi : inS s i = true) : cellR s i = (fitsP s i && endsB s i) := by
  have h1 := inS_iff.1 hi
  have ht := tagS_in hi
  unfold cellR fitsP
  by_cases h4 : (cellAt s i).t = 4
  · rw [if_pos h4, if_pos h4]
    have he : endsB s i = true := (En.st (fun hn => by have := hn.1; omega)).ends
    rw [he, Bool.and_true]
    by_cases ha : 1 ≤ arS s (cellAt s i).n
    · rw [decide_eq_true ha, Bool.true_and, Bool.true_and]
      generalize harr : arS s (cellAt s i).n = ar at ha
      rw [Bool.eq_iff_iff]
      simp only [Bool.and_eq_true, List.all_eq_true, List.mem_range, Bool.not_eq_true', decide_eq_false_iff_not, decide_eq_true_eq]
      constructor
      · rintro ⟨q1, q2⟩ j hj
        refine ⟨?_, q2 j hj⟩
        have hin : inS s (i + ((j : Int) + 1)) = true := by
          have := inS_iff.1 q1
          exact inS_iff.2 ⟨by omega, by omega⟩
        rw [tagS_in hin]
        exact (h.tag _ hin).1
      · intro q
        refine ⟨?_, fun j hj => (q j hj).2⟩
        have h2 := (q (ar.toNat - 1) (by omega)).1
        have h3 := h.tag_in (i + (((ar.toNat - 1 : Nat) : Int) + 1))
        rw [decide_eq_true h2] at h3
        have e : i + (((ar.toNat - 1 : Nat) : Int) + 1) = i + ar := by omega
        rw [e] at h3
        exact h3.symm
    · rw [decide_eq_false ha]
      rfl
  · rw [if_neg h4, if_neg h4]
    by_cases h5 : (cellAt s i).t = 5
    · rw [if_pos h5]
      have hd : decide ((cellAt s i).t = 5) = true := decide_eq_true h5
      rw [hd]
      by_cases hn : (cellAt s i).n = i
      · have hv : vcR s (cellAt s i) = true := by
          unfold vcR
          simp [h5, hn, ht]
        rw [hv, decide_eq_true hn]
        simp [Bool.and_comm]
      · rw [decide_eq_false hn]
        simp
    · rw [if_neg h5, decide_eq_false h5, h.vc]
      simp
theorem all_congr {n : Nat} {P Q : Nat → Bool} (h : ∀ j, j < n → P j = Q j) : (List.range n).all P = (List.range n).all Q := by
  rw [Bool.eq_iff_iff, List.all_eq_true, List.all_eq_true]
  exact ⟨fun q j hj => (h j (List.mem_range.1 hj)) ▸ q j hj, fun q j hj => (h j (List.mem_range.1 hj)).symm ▸ q j hj⟩
theorem all_and {n : Nat} {P Q : Nat → Bool} : ((List.range n).all fun j => P j && Q j) = ((List.range n).all P && (List.range n).all Q) := by
  rw [Bool.eq_iff_iff]
  simp only [List.all_eq_true, Bool.and_eq_true]
  exact ⟨fun q => ⟨fun j hj => (q j hj).1, fun j hj => (q j hj).2⟩, fun q j hj => ⟨q.1 j hj, q.2 j hj⟩⟩
theorem VS.valid {s : So} (h : VS s) : validP s = validR s := by
  have e1 : ((List.range s.cs.length).all fun i => cellR s (i : Nat)) = ((List.range s.cs.length).all (fun i => fitsP s (i : Nat)) && acyP s) := by
    unfold acyP
    rw [← all_and]
    exact all_congr fun j hj => h.cell (inS_iff.2 ⟨by omega, by omega⟩)
  have e2 : ((List.range s.tr.length).all fun i => oldP s (s.tr.getD i default)) = (List.range s.tr.length).all fun i => oldR s (s.tr.getD i default) := all_congr fun j _ => h.old _
  have e3 : ((List.range s.wk.length).all fun i => wkB vcP s (s.wk.getD i default)) = (List.range s.wk.length).all fun i => wkB vcR s (s.wk.getD i default) := all_congr fun j _ => by
    unfold wkB
    rw [h.vc, h.vc]
  unfold validP validR
  rw [e1, e2, e3, Bool.and_assoc]
theorem valid_eq (s : So) : validP s = validR s := by
  cases hP : validP s with
  | true => rw [← (validP_vs hP).valid, hP]
  | false =>
    cases hR : validR s with
    | false => rfl
    | true => rw [(validR_vs hR).valid, hR] at hP; cases hP

end Go.Proofs.Ytmebmpgffhajbaa


namespace Go.Proofs.Ytmebmpgffhajbaa
open Go.RowKit
set_option linter.unusedVariables false
set_option linter.unusedSimpArgs false

structure Ro where
  cs : List Ce
  tp : List Int
  ms : List Int
def eR (r : Ro) : D := .a [.r (r.cs.map eC), .r (r.tp.map D.i), .r (r.ms.map D.i)]
def dR (d : D) : Ro := ⟨(d.fld 0).rs.map dC, (d.fld 1).rs.map D.int, (d.fld 2).rs.map D.int⟩
theorem dR_eR (r : Ro) : dR (eR r) = r := by
  show Ro.mk ((r.cs.map eC).map dC) ((r.tp.map D.i).map D.int) ((r.ms.map D.i).map D.int) = r
  rw [map_id' dC_eC, map_id' fun _ => rfl, map_id' fun _ => rfl]
theorem eR_inj {a b : Ro} (h : eR a = eR b) : a = b := by rw [← dR_eR a, h, dR_eR b]
theorem eR_0 (r : Ro) : (eR r).fld 0 = .r (r.cs.map eC) := rfl
theorem eR_1 (r : Ro) : (eR r).fld 1 = .r (r.tp.map D.i) := rfl
theorem eR_2 (r : Ro) : (eR r).fld 2 = .r (r.ms.map D.i) := rfl
instance : DecidableEq Ro := fun a b => if h : eR a = eR b then .isTrue (eR_inj h) else .isFalse fun e => h (e ▸ rfl)
structure Ro.ok (r : Ro) : Prop where
  cs : r.cs.length ≤ 8796093021952 ∧ ∀ c ∈ r.cs, c.ok
  tp : r.tp.length ≤ 17592186043904 ∧ ∀ c ∈ r.tp, i64 c
  ms : r.ms.length ≤ 17592186043904 ∧ ∀ c ∈ r.ms, i64 c
theorem wfIs {d : D} (h : Wf d (.row 3)) : ∃ l : List Int, d = .r (l.map D.i) ∧ l.length ≤ 17592186043904 ∧ ∀ c ∈ l, i64 c := by
  obtain ⟨l, rfl, h1, h2⟩ := h.row_of (te := .int .i64) rfl
  obtain ⟨m, rfl, h3⟩ := of_all (e := D.i) (P := i64) fun x hx => wfI (h2 x hx)
  have e : LM (.int .i64) = 17592186043904 := by kernel_rfl
  rw [e, List.length_map] at h1
  exact ⟨m, rfl, h1, h3⟩
theorem wfR {d : D} (h : Wf d T_Roots) : ∃ r, d = eR r ∧ r.ok := by
  obtain ⟨ds, rfl, hl⟩ := h.st_of (fs := [T_Cells, .row 3, .row 3]) rfl
  obtain ⟨d0, r, rfl, h0, hl⟩ := wfL_cons hl
  obtain ⟨d1, d2, rfl, h1, h2⟩ := wfL2 hl
  obtain ⟨a, rfl, q0⟩ := wfCs h0
  obtain ⟨b, rfl, q1⟩ := wfIs h1
  obtain ⟨c, rfl, q2⟩ := wfIs h2
  exact ⟨⟨a, b, c⟩, rfl, q0, q1, q2⟩
theorem sr_of {ds : List D} (hw : WfA [.val T_Store, .val T_Roots] ds) : ∃ s r, ds = [eS s, eR r] ∧ s.ok ∧ r.ok := by
  obtain ⟨d, r, rfl, hd, e, r', rfl, he, rfl⟩ := hw
  obtain ⟨s, rfl, hs⟩ := wfS hd
  obtain ⟨r, rfl, hr⟩ := wfR he
  exact ⟨s, r, rfl, hs, hr⟩

def inN (n : Nat) (x : Int) : Bool := decide (0 ≤ x) && decide (x ≤ n)
def okR (v : So → Bool) (vc : So → Ce → Bool) (s : So) (r : Ro) : Bool := v s && ((List.range r.cs.length).all (fun i => vc s (r.cs.getD i default)) && ((List.range r.tp.length).all (fun i => inN s.cs.length (r.tp.getD i default)) && (List.range r.ms.length).all fun i => inN s.tr.length (r.ms.getD i default)))
def gSRb (f : So → Ro → Bool) : List D → Option (List D)
  | [s, r] => some [.b (f (dS s) (dR r))]
  | _ => none
theorem inN_not {n : Nat} {x : Int} : (decide (x < 0) || decide ((n : Int) < x)) = !inN n x := by
  unfold inN
  by_cases h1 : x < 0
  · have : ¬ 0 ≤ x := by omega
    simp [h1, this]
  · by_cases h2 : (n : Int) < x
    · have : ¬ x ≤ (n : Int) := by omega
      simp [h2, this]
    · have a1 : 0 ≤ x := by omega
      have a2 : x ≤ (n : Int) := by omega
      simp [h1, h2, a1, a2]
theorem get_i {l : List Int} {k : Nat} (h : k < l.length) : (D.r (l.map D.i)).get (k : Int) = .i (l.getD k default) := get_n D.i h

theorem ok_gc_Valid : FOk q0m (gSRb (okR validP vcP)) := fok_gc_Valid ok_cells_Valid q1k fun ds outs hw hg => by
  obtain ⟨s, r, rfl, hs, hr⟩ := sr_of hw
  simp only [gSRb, dS_eS, dR_eR, Option.some.injEq] at hg
  subst hg
  have hl := hs.cs.1
  have hl2 := hs.tr.1
  have h1 := hr.cs.1
  have h2 := hr.tp.1
  have h3 := hr.ms.1
  rw [q29, q00]
  refine ⟨by simp only [q00, go_br, q02, q04, allSay, X.says, X.ev, X.evs, evl, tblS, List.getD_cons_zero, List.getD_cons_succ, List.getElem?_cons_zero, List.getElem?_cons_succ, tt_b, int_i, str_s, rs_r, Option.isSome_some, Option.getD_some, decide_eq_true_eq, decide_eq_false_iff_not, dS_eS, dC_eC, dU_eU, dW_eW, dY_eY, eC_0, eC_1, eU_0, eU_1, eW_0, eW_1, eW_2, eY_0, eY_1, eS_0, eS_1, eS_2, eS_3, eS_4, eS_5, List.length_map, i_inj, b_inj, s_inj, eC_eq, eU_eq, eW_eq, eY_eq, eS_eq, rng64, List.take_succ_cons, List.take_zero, List.nil_append, List.cons_append, decide_true, decide_false, Bool.or_true, true_and, and_true, gSb], ?_⟩
  rw [go_br]
  refine ⟨fun hx => ?_, fun hx => ?_⟩
  · have hh : validP s = false := by simpa [X.ev, X.evs, evl, tblS, gSb, dS_eS, D.tt] using hx
    simp [q02, X.evs, X.ev, okR, hh]
  have hh : validP s = true := by simpa [X.ev, X.evs, evl, tblS, gSb, dS_eS, D.tt] using hx
  refine scan_ok r.cs.length (fun i => vcP s (r.cs.getD i default)) (v0 := .b false) rfl fun k B' hk hP hB _ => ?_
  rw [go_br]
  refine ⟨fun hlt => ?_, fun hlt => ?_⟩
  · have hkl : k < r.cs.length := by simpa [X.ev, evl, eR_0, D.int, D.rs, D.tt] using hlt
    simp only [q00, go_br, q02, q04, allSay, X.says, X.ev, X.evs, evl, tblS, List.getD_cons_zero, List.getD_cons_succ, List.getElem?_cons_zero, List.getElem?_cons_succ, tt_b, int_i, str_s, rs_r, Option.isSome_some, Option.getD_some, decide_eq_true_eq, decide_eq_false_iff_not, dS_eS, dC_eC, dU_eU, dW_eW, dY_eY, eC_0, eC_1, eU_0, eU_1, eW_0, eW_1, eW_2, eY_0, eY_1, eS_0, eS_1, eS_2, eS_3, eS_4, eS_5, List.length_map, i_inj, b_inj, s_inj, eC_eq, eU_eq, eW_eq, eY_eq, eS_eq, rng64, List.take_succ_cons, List.take_zero, List.nil_append, List.cons_append, decide_true, decide_false, Bool.or_true, true_and, and_true, gSCb, eR_0, get_n eC hkl, rs_r]
    refine ⟨⟨by omega, by omega⟩, fun hb => ?_, fun hb => ⟨⟨by omega, by omega⟩, ?_⟩⟩
    · have := all_not (P := fun i => vcP s (r.cs.getD i default)) hkl (by simpa only [Bool.not_eq_true'] using hb)
      simp only [okR, this, Bool.false_and, Bool.and_false]
    · exact hB hkl (by simpa only [Bool.not_eq_false'] using hb)
  have hc : (List.range r.cs.length).all (fun i => vcP s (r.cs.getD i default)) = true := by
    have : k = r.cs.length := by
      have : ¬ (k < r.cs.length) := by simpa [X.ev, evl, eR_0, D.int, D.rs, D.tt] using hlt
      omega
    subst this
    exact all_yes hP
  refine scan_ok r.tp.length (fun i => inN s.cs.length (r.tp.getD i default)) (v0 := .b false) rfl fun k B' hk hP hB _ => ?_
  rw [go_br]
  refine ⟨fun hlt => ?_, fun hlt => ?_⟩
  · have hkl : k < r.tp.length := by simpa [X.ev, evl, eR_1, D.int, D.rs, D.tt] using hlt
    simp only [q00, go_br, q02, q04, allSay, X.says, X.ev, X.evs, evl, tblS, List.getD_cons_zero, List.getD_cons_succ, List.getElem?_cons_zero, List.getElem?_cons_succ, tt_b, int_i, str_s, rs_r, Option.isSome_some, Option.getD_some, decide_eq_true_eq, decide_eq_false_iff_not, dS_eS, dC_eC, dU_eU, dW_eW, dY_eY, eC_0, eC_1, eU_0, eU_1, eW_0, eW_1, eW_2, eY_0, eY_1, eS_0, eS_1, eS_2, eS_3, eS_4, eS_5, List.length_map, i_inj, b_inj, s_inj, eC_eq, eU_eq, eW_eq, eY_eq, eS_eq, rng64, List.take_succ_cons, List.take_zero, List.nil_append, List.cons_append, decide_true, decide_false, Bool.or_true, true_and, and_true, eR_1, get_i hkl, rs_r, inN_not]
    refine ⟨⟨by omega, by omega⟩, fun hb => ?_, fun hb => ⟨⟨by omega, by omega⟩, ?_⟩⟩
    · have := all_not (P := fun i => inN s.cs.length (r.tp.getD i default)) hkl (by simpa only [Bool.not_eq_true'] using hb)
      simp only [okR, this, Bool.false_and, Bool.and_false]
    · exact hB hkl (by simpa only [Bool.not_eq_false'] using hb)
  have hc2 : (List.range r.tp.length).all (fun i => inN s.cs.length (r.tp.getD i default)) = true := by
    have : k = r.tp.length := by
      have : ¬ (k < r.tp.length) := by simpa [X.ev, evl, eR_1, D.int, D.rs, D.tt] using hlt
      omega
    subst this
    exact all_yes hP
  refine scan_ok r.ms.length (fun i => inN s.tr.length (r.ms.getD i default)) (v0 := .b false) rfl fun k B' hk hP hB _ => ?_
  rw [go_br]
  refine ⟨fun hlt => ?_, fun hlt => ?_⟩
  · have hkl : k < r.ms.length := by simpa [X.ev, evl, eR_2, D.int, D.rs, D.tt] using hlt
    simp only [q00, go_br, q02, q04, allSay, X.says, X.ev, X.evs, evl, tblS, List.getD_cons_zero, List.getD_cons_succ, List.getElem?_cons_zero, List.getElem?_cons_succ, tt_b, int_i, str_s, rs_r, Option.isSome_some, Option.getD_some, decide_eq_true_eq, decide_eq_false_iff_not, dS_eS, dC_eC, dU_eU, dW_eW, dY_eY, eC_0, eC_1, eU_0, eU_1, eW_0, eW_1, eW_2, eY_0, eY_1, eS_0, eS_1, eS_2, eS_3, eS_4, eS_5, List.length_map, i_inj, b_inj, s_inj, eC_eq, eU_eq, eW_eq, eY_eq, eS_eq, rng64, List.take_succ_cons, List.take_zero, List.nil_append, List.cons_append, decide_true, decide_false, Bool.or_true, true_and, and_true, eR_2, get_i hkl, rs_r, inN_not]
    refine ⟨⟨by omega, by omega⟩, fun hb => ?_, fun hb => ⟨⟨by omega, by omega⟩, ?_⟩⟩
    · have := all_not (P := fun i => inN s.tr.length (r.ms.getD i default)) hkl (by simpa only [Bool.not_eq_true'] using hb)
      simp only [okR, this, Bool.false_and, Bool.and_false]
    · exact hB hkl (by simpa only [Bool.not_eq_false'] using hb)
  have hc3 : (List.range r.ms.length).all (fun i => inN s.tr.length (r.ms.getD i default)) = true := by
    have : k = r.ms.length := by
      have : ¬ (k < r.ms.length) := by simpa [X.ev, evl, eR_2, D.int, D.rs, D.tt] using hlt
      omega
    subst this
    exact all_yes hP
  simp only [q02, X.evs, X.ev, okR, hh, hc, hc2, hc3, Bool.and_true]
theorem okR_eq {s : So} {r : Ro} : okR validP vcP s r = okR validR vcR s r := by
  unfold okR
  rw [valid_eq]
  cases h : validR s with
  | false => rfl
  | true =>
    have hv := validR_vs h
    simp only [hv.vc]

def gRClone : List D → Option (List D)
  | [r] => some [eR (dR r)]
  | _ => none
theorem ok_ref34_Clone : FOk q15 gRClone := fok_ref34_Clone fun ds outs hw hg => by
  obtain ⟨d, r, rfl, hd, rfl⟩ := hw
  obtain ⟨r, rfl, hr⟩ := wfR hd
  simp only [gRClone, dR_eR, Option.some.injEq] at hg
  subst hg
  have h1 := hr.cs.1
  have h2 := hr.tp.1
  have h3 := hr.ms.1
  simp [q2b, q00, go_br, q02, q04, allSay, X.says, X.ev, X.evs, evl, tblS, List.getD_cons_zero, List.getD_cons_succ, List.getElem?_cons_zero, List.getElem?_cons_succ, tt_b, int_i, str_s, rs_r, Option.isSome_some, Option.getD_some, decide_eq_true_eq, decide_eq_false_iff_not, dS_eS, dC_eC, dU_eU, dW_eW, dY_eY, eC_0, eC_1, eU_0, eU_1, eW_0, eW_1, eW_2, eY_0, eY_1, eS_0, eS_1, eS_2, eS_3, eS_4, eS_5, List.length_map, i_inj, b_inj, s_inj, eC_eq, eU_eq, eW_eq, eY_eq, eS_eq, rng64, List.take_succ_cons, List.take_zero, List.nil_append, List.cons_append, decide_true, decide_false, Bool.or_true, true_and, and_true, eR_0, eR_1, eR_2]
  exact ⟨⟨by omega, by omega, by omega⟩, rfl⟩

theorem lists_eq {l m : List Int} (hl : l.length = m.length) (h : ∀ j, j < l.length → l.getD j default = m.getD j default) : l = m := by
  refine List.ext_getElem hl fun j h1 h2 => ?_
  have := h j h1
  simpa [List.getD_eq_getElem?_getD, h1, h2] using this
theorem celists_eq {l m : List Ce} (hl : l.length = m.length) (h : ∀ j, j < l.length → l.getD j default = m.getD j default) : l = m := by
  refine List.ext_getElem hl fun j h1 h2 => ?_
  have := h j h1
  simpa [List.getD_eq_getElem?_getD, h1, h2] using this
def gRSame : List D → Option (List D)
  | [a, b] => some [.b (decide (dR a = dR b))]
  | _ => none
theorem ok_ref34_Same : FOk q0v gRSame := fok_ref34_Same fun ds outs hw hg => by
  obtain ⟨d, r, rfl, hd, e, r', rfl, he, rfl⟩ := hw
  obtain ⟨a, rfl, ha⟩ := wfR hd
  obtain ⟨b, rfl, hb⟩ := wfR he
  simp only [gRSame, dR_eR, Option.some.injEq] at hg
  subst hg
  have h1 := ha.cs.1
  have h2 := ha.tp.1
  have h3 := ha.ms.1
  rw [q1r, go_br]
  refine ⟨fun hx => ?_, fun hx => ?_⟩
  · have : ¬ a = b := fun e => by
      subst e
      simp [X.ev, evl, eR_0, eR_1, eR_2, D.rs, D.tt] at hx
    simp [q02, X.evs, X.ev, this]
  have hlen : a.cs.length = b.cs.length ∧ a.tp.length = b.tp.length ∧ a.ms.length = b.ms.length := by
    simp [X.ev, evl, eR_0, eR_1, eR_2, D.rs, D.tt] at hx
    omega
  obtain ⟨l1, l2, l3⟩ := hlen
  refine scan_ok a.cs.length (fun j => decide (a.cs.getD j default = b.cs.getD j default)) (v0 := .b false) rfl fun k B' hk hP hB _ => ?_
  rw [go_br]
  refine ⟨fun hlt => ?_, fun hlt => ?_⟩
  · have hkl : k < a.cs.length := by simpa [X.ev, evl, eR_0, D.int, D.rs, D.tt] using hlt
    have hkl2 : k < b.cs.length := by omega
    simp only [q00, go_br, q02, q04, allSay, X.says, X.ev, X.evs, evl, tblS, List.getD_cons_zero, List.getD_cons_succ, List.getElem?_cons_zero, List.getElem?_cons_succ, tt_b, int_i, str_s, rs_r, Option.isSome_some, Option.getD_some, decide_eq_true_eq, decide_eq_false_iff_not, dS_eS, dC_eC, dU_eU, dW_eW, dY_eY, eC_0, eC_1, eU_0, eU_1, eW_0, eW_1, eW_2, eY_0, eY_1, eS_0, eS_1, eS_2, eS_3, eS_4, eS_5, List.length_map, i_inj, b_inj, s_inj, eC_eq, eU_eq, eW_eq, eY_eq, eS_eq, rng64, List.take_succ_cons, List.take_zero, List.nil_append, List.cons_append, decide_true, decide_false, Bool.or_true, true_and, and_true, eR_0, get_n eC hkl, get_n eC hkl2, rs_r]
    refine ⟨⟨by omega, by omega, by omega, by omega⟩, fun hb => ?_, fun hb => ⟨⟨by omega, by omega⟩, ?_⟩⟩
    · have : ¬ a = b := fun e => by subst e; simp at hb
      simp [this]
    · exact hB hkl (by simpa using hb)
  have e1 : a.cs = b.cs := by
    have : k = a.cs.length := by
      have : ¬ (k < a.cs.length) := by simpa [X.ev, evl, eR_0, D.int, D.rs, D.tt] using hlt
      omega
    subst this
    exact celists_eq l1 fun j hj => by simpa using hP j hj
  refine scan_ok a.tp.length (fun j => decide (a.tp.getD j default = b.tp.getD j default)) (v0 := .b false) rfl fun k B' hk hP hB _ => ?_
  rw [go_br]
  refine ⟨fun hlt => ?_, fun hlt => ?_⟩
  · have hkl : k < a.tp.length := by simpa [X.ev, evl, eR_1, D.int, D.rs, D.tt] using hlt
    have hkl2 : k < b.tp.length := by omega
    simp only [q00, go_br, q02, q04, allSay, X.says, X.ev, X.evs, evl, tblS, List.getD_cons_zero, List.getD_cons_succ, List.getElem?_cons_zero, List.getElem?_cons_succ, tt_b, int_i, str_s, rs_r, Option.isSome_some, Option.getD_some, decide_eq_true_eq, decide_eq_false_iff_not, dS_eS, dC_eC, dU_eU, dW_eW, dY_eY, eC_0, eC_1, eU_0, eU_1, eW_0, eW_1, eW_2, eY_0, eY_1, eS_0, eS_1, eS_2, eS_3, eS_4, eS_5, List.length_map, i_inj, b_inj, s_inj, eC_eq, eU_eq, eW_eq, eY_eq, eS_eq, rng64, List.take_succ_cons, List.take_zero, List.nil_append, List.cons_append, decide_true, decide_false, Bool.or_true, true_and, and_true, eR_1, get_i hkl, get_i hkl2, rs_r]
    refine ⟨⟨by omega, by omega, by omega, by omega⟩, fun hb => ?_, fun hb => ⟨⟨by omega, by omega⟩, ?_⟩⟩
    · have : ¬ a = b := fun e => by subst e; simp at hb
      simp [this]
    · exact hB hkl (by simpa using hb)
  have e2 : a.tp = b.tp := by
    have : k = a.tp.length := by
      have : ¬ (k < a.tp.length) := by simpa [X.ev, evl, eR_1, D.int, D.rs, D.tt] using hlt
      omega
    subst this
    exact lists_eq l2 fun j hj => by simpa using hP j hj
  refine scan_ok a.ms.length (fun j => decide (a.ms.getD j default = b.ms.getD j default)) (v0 := .b false) rfl fun k B' hk hP hB _ => ?_
  rw [go_br]
  refine ⟨fun hlt => ?_, fun hlt => ?_⟩
  · have hkl : k < a.ms.length := by simpa [X.ev, evl, eR_2, D.int, D.rs, D.tt] using hlt
    have hkl2 : k < b.ms.length := by omega
    simp only [q00, go_br, q02, q04, allSay, X.says, X.ev, X.evs, evl, tblS, List.getD_cons_zero, List.getD_cons_succ, List.getElem?_cons_zero, List.getElem?_cons_succ, tt_b, int_i, str_s, rs_r, Option.isSome_some, Option.getD_some, decide_eq_true_eq, decide_eq_false_iff_not, dS_eS, dC_eC, dU_eU, dW_eW, dY_eY, eC_0, eC_1, eU_0, eU_1, eW_0, eW_1, eW_2, eY_0, eY_1, eS_0, eS_1, eS_2, eS_3, eS_4, eS_5, List.length_map, i_inj, b_inj, s_inj, eC_eq, eU_eq, eW_eq, eY_eq, eS_eq, rng64, List.take_succ_cons, List.take_zero, List.nil_append, List.cons_append, decide_true, decide_false, Bool.or_true, true_and, and_true, eR_2, get_i hkl, get_i hkl2, rs_r]
    refine ⟨⟨by omega, by omega, by omega, by omega⟩, fun hb => ?_, fun hb => ⟨⟨by omega, by omega⟩, ?_⟩⟩
    · have : ¬ a = b := fun e => by subst e; simp at hb
      simp [this]
    · exact hB hkl (by simpa using hb)
  have e3 : a.ms = b.ms := by
    have : k = a.ms.length := by
      have : ¬ (k < a.ms.length) := by simpa [X.ev, evl, eR_2, D.int, D.rs, D.tt] using hlt
      omega
    subst this
    exact lists_eq l3 fun j hj => by simpa using hP j hj
  have : a = b := by
    cases a; cases b
    cases e1; cases e2; cases e3
    rfl
  simp [q02, X.evs, X.ev, this]

def smallB (s : So) (r : Ro) : Bool := decide (s.cs.length ≤ 300) && (decide (s.ys.length ≤ 100) && (decide (s.tr.length ≤ 300) && (decide (s.wk.length ≤ 50) && (decide (r.cs.length ≤ 50) && (decide (r.tp.length ≤ 50) && decide (r.ms.length ≤ 50))))))
theorem ok_law34_small : FOk q18 (gSRb smallB) := fok_law34_small fun ds outs hw hg => by
  obtain ⟨s, r, rfl, hs, hr⟩ := sr_of hw
  simp only [gSRb, dS_eS, dR_eR, Option.some.injEq] at hg
  subst hg
  have e : ∀ (a b : Nat), decide ((a : Int) ≤ (b : Nat)) = decide (a ≤ b) := fun a b => by
    by_cases h : a ≤ b
    · rw [decide_eq_true h, decide_eq_true (show (a : Int) ≤ (b : Nat) by omega)]
    · rw [decide_eq_false h, decide_eq_false (show ¬ (a : Int) ≤ (b : Nat) by omega)]
  have e300 : ∀ a : Nat, decide ((a : Int) ≤ 300) = decide (a ≤ 300) := fun a => e a 300
  have e100 : ∀ a : Nat, decide ((a : Int) ≤ 100) = decide (a ≤ 100) := fun a => e a 100
  have e50 : ∀ a : Nat, decide ((a : Int) ≤ 50) = decide (a ≤ 50) := fun a => e a 50
  simp only [q2a, q00, go_br, q02, q04, allSay, X.says, X.ev, X.evs, evl, tblS, List.getD_cons_zero, List.getD_cons_succ, List.getElem?_cons_zero, List.getElem?_cons_succ, tt_b, int_i, str_s, rs_r, Option.isSome_some, Option.getD_some, decide_eq_true_eq, decide_eq_false_iff_not, dS_eS, dC_eC, dU_eU, dW_eW, dY_eY, eC_0, eC_1, eU_0, eU_1, eW_0, eW_1, eW_2, eY_0, eY_1, eS_0, eS_1, eS_2, eS_3, eS_4, eS_5, List.length_map, i_inj, b_inj, s_inj, eC_eq, eU_eq, eW_eq, eY_eq, eS_eq, rng64, List.take_succ_cons, List.take_zero, List.nil_append, List.cons_append, decide_true, decide_false, Bool.or_true, true_and, and_true, eR_0, eR_1, eR_2, rs_r, e300, e100, e50, smallB, Bool.and_assoc]
end Go.Proofs.Ytmebmpgffhajbaa


namespace Go.Proofs.Ytmebmpgffhajbaa
open Go.RowKit
set_option linter.unusedVariables false
set_option linter.unusedSimpArgs false

abbrev eN (n : Nat) : D := .i (n : Int)
def dN (d : D) : Nat := d.int.toNat
theorem dN_eN (n : Nat) : dN (eN n) = n := by simp [dN, eN, D.int]
theorem mN (W : List Nat) : (W.map eN).map dN = W := map_id' dN_eN W
theorem wf64 {d : D} (h : Wf d (.int .u64)) : ∃ n : Nat, d = eN n ∧ n < 18446744073709551616 := by
  obtain ⟨n, rfl, hn⟩ := h.int
  simp only [rngB, Bool.and_eq_true, decide_eq_true_eq] at hn
  exact ⟨n.toNat, by rw [eN, Int.toNat_of_nonneg hn.1], by omega⟩
theorem wf64s {d : D} (h : Wf d (.row 94)) : ∃ W : List Nat, d = .r (W.map eN) ∧ W.length ≤ 17592186043904 ∧ ∀ x ∈ W, x < 18446744073709551616 := by
  obtain ⟨l, rfl, h1, h2⟩ := h.row_of (te := .int .u64) rfl
  obtain ⟨m, rfl, h3⟩ := of_all (e := eN) (P := fun x => x < 18446744073709551616) fun x hx => wf64 (h2 x hx)
  have e : LM (.int .u64) = 17592186043904 := by kernel_rfl
  rw [e, List.length_map] at h1
  exact ⟨m, rfl, h1, h3⟩

def bitW (W : List Nat) (i : Nat) : Bool := (W.getD (i / 64) 0).testBit (i % 64)
def setW (W : List Nat) (i : Nat) : List Nat := W.set (i / 64) (W.getD (i / 64) 0 ||| 2 ^ (i % 64))

theorem fdN (n k : Nat) : Int.fdiv (n : Int) (2 ^ k) = ((n / 2 ^ k : Nat) : Int) := by
  rw [Int.fdiv_eq_ediv_of_nonneg _ (by exact_mod_cast Nat.zero_le _)]
  norm_cast
theorem f8 (n k : Nat) : fnD 8 [.i (n : Int), .i (k : Int)] = eN (n / 2 ^ k) := by
  show D.i ((n : Int).fdiv (2 ^ (k : Int).toNat)) = _
  rw [Int.toNat_natCast, fdN]
theorem f13 (n k : Nat) : fnD 13 [.i (n : Int), .i (k : Int)] = eN (n &&& k) := by
  show D.i ((((n : Int).toNat &&& (k : Int).toNat : Nat)) : Int) = _
  rw [Int.toNat_natCast, Int.toNat_natCast]
theorem f14 (n k : Nat) : fnD 14 [.i (n : Int), .i (k : Int)] = eN (n ||| k) := by
  show D.i ((((n : Int).toNat ||| (k : Int).toNat : Nat)) : Int) = _
  rw [Int.toNat_natCast, Int.toNat_natCast]
theorem f15 {k : Nat} (h : k < 64) : fnD 15 [.i 1, .i (k : Int)] = eN (2 ^ k) := by
  show D.i ((1 * 2 ^ (k : Int).toNat) % 18446744073709551616) = _
  rw [Int.toNat_natCast, Int.one_mul]
  have h1 : (2 : Nat) ^ k < 18446744073709551616 := (Nat.pow_lt_pow_right (a := 2) (by omega) h : 2 ^ k < 2 ^ 64)
  have h2 : ((2 : Int) ^ k) = ((2 ^ k : Nat) : Int) := by norm_cast
  rw [h2]
  generalize (2 : Nat) ^ k = m at *
  rw [show (m : Int) % 18446744073709551616 = m by omega]
theorem f8_6 (n : Nat) : fnD 8 [.i (n : Int), .i 6] = eN (n / 64) := f8 n 6
theorem f13_63 (n : Nat) : fnD 13 [.i (n : Int), .i 63] = eN (n % 64) := by
  rw [show (63 : Int) = ((63 : Nat) : Int) from rfl, f13, show (63 : Nat) = 2 ^ 6 - 1 from rfl, Nat.and_two_pow_sub_one_eq_mod]
theorem f13_1 (n : Nat) : fnD 13 [.i (n : Int), .i 1] = eN (n % 2) := by
  rw [show (1 : Int) = ((1 : Nat) : Int) from rfl, f13, show (1 : Nat) = 2 ^ 1 - 1 from rfl, Nat.and_two_pow_sub_one_eq_mod]
theorem f0 (m k z : D) : fnD 0 [m, k, z] = (mfind k m.ms).getD z := rfl

def gHas : List D → Option (List D)
  | [.r w, .i at'] => if decide (0 ≤ at') && decide (at'.toNat / 64 < w.length) then some [.b (bitW (w.map dN) at'.toNat)] else none
  | _ => none
theorem q2k : FOk q09 gHas := fok_gc_marks_has fun ds outs hw hg => by
  obtain ⟨d, r, rfl, hd, e, r', rfl, he, rfl⟩ := hw
  obtain ⟨W, rfl, hl, hW⟩ := wf64s hd
  obtain ⟨i, rfl, hi⟩ := wfI he
  simp only [gHas, mN, Bool.and_eq_true, decide_eq_true_eq, Option.ite_none_right_eq_some, Option.some.injEq, List.length_map] at hg
  obtain ⟨⟨h0, h1⟩, rfl⟩ := hg
  obtain ⟨a, rfl⟩ := Int.eq_ofNat_of_zero_le h0
  rw [Int.toNat_natCast] at h1 ⊢
  have hget : (D.r (W.map eN)).get (((a / 64 : Nat)) : Int) = eN (W.getD (a / 64) 0) := get_n eN h1
  have hw : W.getD (a / 64) 0 < 18446744073709551616 := by
    rw [List.getD_eq_getElem?_getD, List.getElem?_eq_getElem h1]
    exact hW _ (List.getElem_mem h1)
  have hq : W.getD (a / 64) 0 / 2 ^ (a % 64) ≤ W.getD (a / 64) 0 := Nat.div_le_self _ _
  have h64 : a % 64 < 64 := Nat.mod_lt _ (by omega)
  have hb : decide (eN (W.getD (a / 64) 0 / 2 ^ (a % 64) % 2) = .i 1) = bitW W a := by
    unfold bitW
    rw [Nat.testBit_eq_decide_div_mod_eq]
    unfold eN
    congr 1
    simp only [D.i.injEq, eq_iff_iff]
    omega
  have hadiv : a / 64 ≤ a := Nat.div_le_self _ _
  have hlen : (W.length : Int) > ((a / 64 : Nat) : Int) := by omega
  simp only [q1m, q00, go_br, q02, q04, allSay, X.says, X.ev, X.evs, evl, tblS, List.getD_cons_zero, List.getD_cons_succ, List.getElem?_cons_zero, List.getElem?_cons_succ, tt_b, int_i, str_s, rs_r, Option.isSome_some, Option.getD_some, decide_eq_true_eq, decide_eq_false_iff_not, dS_eS, dC_eC, dU_eU, dW_eW, dY_eY, eC_0, eC_1, eU_0, eU_1, eW_0, eW_1, eW_2, eY_0, eY_1, eS_0, eS_1, eS_2, eS_3, eS_4, eS_5, List.length_map, i_inj, b_inj, s_inj, eC_eq, eU_eq, eW_eq, eY_eq, eS_eq, rng64, List.take_succ_cons, List.take_zero, List.nil_append, List.cons_append, decide_true, decide_false, Bool.or_true, true_and, and_true, f8_6, f13_63, hget, f8, f13_1, hb]
  simp only [rngB, Bool.and_eq_true, decide_eq_true_eq]
  simp only [i_inj] at hb
  generalize W.getD (a / 64) 0 / 2 ^ (a % 64) = q at *
  refine ⟨⟨by omega, by omega, by omega, by omega, by omega, by omega, by omega, by omega⟩, by rw [hb]⟩

def gVis : List D → Option (List D)
  | [.i at', .r w, .r t, s, m] => if decide (0 ≤ at') && (decide (at' < (dS s).cs.length) && (decide (at'.toNat / 64 < w.length) && decide (t.length + 1 + ((mfind (.i at') m.ms).getD (.r [])).rs.length ≤ 8796093021952))) then
      some (if bitW (w.map dN) at'.toNat then [.r w, .r t] else [.r ((setW (w.map dN) at'.toNat).map eN), .r (t ++ [eC (cellAt (dS s) at')] ++ ((mfind (.i at') m.ms).getD (.r [])).rs)]) else none
  | _ => none
theorem ok_gc_mark_1 : FOk q0e gVis := fok_gc_mark_1 q2k fun ds outs hw hg => by
  obtain ⟨d, r, rfl, hd, dw, r, rfl, hdw, dt, r, rfl, hdt, dss, r, rfl, hds, dm, r, rfl, hdm, rfl⟩ := hw
  obtain ⟨i, rfl, hi⟩ := wfI hd
  obtain ⟨W, rfl, hl, hW⟩ := wf64s hdw
  obtain ⟨T, rfl, hT, hTc⟩ := wfCs hdt
  obtain ⟨s, rfl, hs⟩ := wfS hds
  simp only [gVis, mN, dS_eS, Bool.and_eq_true, decide_eq_true_eq, Option.ite_none_right_eq_some, Option.some.injEq, List.length_map] at hg
  obtain ⟨⟨h0, h1, h2, h3⟩, rfl⟩ := hg
  obtain ⟨a, rfl⟩ := Int.eq_ofNat_of_zero_le h0
  rw [Int.toNat_natCast] at h2
  rw [Int.toNat_natCast]
  have hin : inS s (a : Nat) = true := inS_iff.2 ⟨by omega, h1⟩
  have hhas : gHas [.r (W.map eN), .i (a : Int)] = some [.b (bitW W a)] := by
    simp only [gHas, mN, h2, Int.toNat_natCast, List.length_map, decide_true, Bool.and_true, show decide ((0 : Int) ≤ (a : Int)) = true from decide_eq_true (by omega), if_true]
  have hget : (D.r (W.map eN)).get (((a / 64 : Nat)) : Int) = eN (W.getD (a / 64) 0) := get_n eN h2
  have hw : W.getD (a / 64) 0 < 18446744073709551616 := by
    rw [List.getD_eq_getElem?_getD, List.getElem?_eq_getElem h2]
    exact hW _ (List.getElem_mem h2)
  have h64 : a % 64 < 64 := Nat.mod_lt _ (by omega)
  have hp : 0 < 2 ^ (a % 64) := Nat.pow_pos (by omega)
  have hset : ∀ v : Nat, (W.map eN).set (a / 64) (eN v) = (W.set (a / 64) v).map eN := fun v => by rw [List.map_set]
  have hcell := cell_get hin
  rw [q1v, q00]
  refine ⟨by simp only [allSay, X.says, X.ev, X.evs, evl, tblS, List.getD_cons_zero, List.getD_cons_succ, List.getElem?_cons_zero, hhas, tt_b, Option.isSome_some]; trivial, ?_⟩
  rw [go_br]
  simp only [X.ev, X.evs, evl, tblS, List.getD_cons_zero, List.getD_cons_succ, List.getElem?_cons_zero, hhas, tt_b, Option.getD_some]
  refine ⟨fun hb => ?_, fun hb => ?_⟩
  · have hb : bitW W a = false := by simpa using hb
    simp only [hb, Bool.false_eq_true, if_false]
    have hset' := hset (W.getD (a / 64) 0 ||| 2 ^ (a % 64))
    simp only [q00, go_br, q02, q04, allSay, X.says, X.ev, X.evs, evl, tblS, List.getD_cons_zero, List.getD_cons_succ, List.getElem?_cons_zero, List.getElem?_cons_succ, tt_b, int_i, str_s, rs_r, Option.isSome_some, Option.getD_some, decide_eq_true_eq, decide_eq_false_iff_not, dS_eS, dC_eC, dU_eU, dW_eW, dY_eY, eC_0, eC_1, eU_0, eU_1, eW_0, eW_1, eW_2, eY_0, eY_1, eS_0, eS_1, eS_2, eS_3, eS_4, eS_5, List.length_map, i_inj, b_inj, s_inj, eC_eq, eU_eq, eW_eq, eY_eq, eS_eq, rng64, List.take_succ_cons, List.take_zero, List.nil_append, List.cons_append, decide_true, decide_false, Bool.or_true, true_and, and_true, f8_6, f13_63, hget, f15 h64, f14, f0, hcell, Int.toNat_natCast, hset', rs_r, List.length_append, List.length_cons, List.length_nil]
    refine ⟨⟨by omega, by omega, by omega, by omega, by omega, by omega, by omega, by omega, by omega, by omega⟩, ⟨by omega, by omega, by omega, by omega⟩, ?_⟩
    rfl
  · have hb : bitW W a = true := by simpa using hb
    simp only [hb, if_true, q02, X.evs, X.ev, evl, List.getD_cons_zero, List.getD_cons_succ]
end Go.Proofs.Ytmebmpgffhajbaa


namespace Go.Proofs.Ytmebmpgffhajbaa
open Go.RowKit
set_option linter.unusedVariables false
set_option linter.unusedSimpArgs false

def cntS (s : So) (c : Ce) : Nat := if c.t = 0 then 1 else if c.t = 3 then (s.ys.getD (cellAt s c.n).n.toNat default).ar.toNat + 1 else if c.t = 5 then 3 else 0
def tgS (s : So) (c : Ce) : List Nat := (List.range (cntS s c)).map (c.n.toNat + ·)
def oldsS (s : So) (a : Nat) : List Ce := (s.tr.filter fun u => decide (u.at' = (a : Int))).map (·.old)
def rootsC (s : So) (r : Ro) : List Ce := r.cs ++ s.wk.flatMap fun w => [w.att, w.val]
structure Gce (s : So) (c : Ce) : Prop where
  b : c.t = 0 ∨ c.t = 3 ∨ c.t = 5 → 0 ≤ c.n ∧ c.n + cntS s c ≤ s.cs.length
  y : c.t = 3 → 0 ≤ (cellAt s c.n).n ∧ (cellAt s c.n).n < s.ys.length ∧ 0 ≤ (s.ys.getD (cellAt s c.n).n.toNat default).ar
structure VG (s : So) (r : Ro) : Prop where
  cell : ∀ i : Nat, i < s.cs.length → Gce s (cellAt s (i : Nat))
  old : ∀ u ∈ s.tr, 0 ≤ u.at' ∧ u.at' < s.cs.length ∧ Gce s u.old
  root : ∀ c ∈ rootsC s r, Gce s c

theorem tg_lt {s : So} {c : Ce} (h : Gce s c) {x : Nat} (hx : x ∈ tgS s c) : x < s.cs.length := by
  unfold tgS at hx
  obtain ⟨i, hi, rfl⟩ := List.mem_map.1 hx
  have hi := List.mem_range.1 hi
  have ht : c.t = 0 ∨ c.t = 3 ∨ c.t = 5 := by
    unfold cntS at hi
    split at hi
    · exact .inl ‹_›
    · split at hi
      · exact .inr (.inl ‹_›)
      · split at hi
        · exact .inr (.inr ‹_›)
        · omega
  obtain ⟨h1, h2⟩ := h.b ht
  omega
theorem tg_mem {s : So} {c : Ce} {x : Nat} : x ∈ tgS s c ↔ ∃ j, j < cntS s c ∧ x = c.n.toNat + j := by
  unfold tgS
  rw [List.mem_map]
  exact ⟨fun ⟨j, h, e⟩ => ⟨j, List.mem_range.1 h, e.symm⟩, fun ⟨j, h, e⟩ => ⟨j, List.mem_range.2 h, e.symm⟩⟩

inductive Rch (s : So) (r : Ro) : Nat → Prop
  | root {c : Ce} {x : Nat} : c ∈ rootsC s r → x ∈ tgS s c → Rch s r x
  | cell {y x : Nat} : Rch s r y → x ∈ tgS s (cellAt s (y : Nat)) → Rch s r x
  | old {y x : Nat} {c : Ce} : Rch s r y → c ∈ oldsS s y → x ∈ tgS s c → Rch s r x

theorem olds_good {s : So} {r : Ro} (h : VG s r) {y : Nat} {c : Ce} (hc : c ∈ oldsS s y) : Gce s c := by
  obtain ⟨u, hu, rfl⟩ := List.mem_map.1 hc
  exact (h.old u (List.mem_filter.1 hu).1).2.2
theorem Rch.lt {s : So} {r : Ro} (h : VG s r) {x : Nat} (hx : Rch s r x) : x < s.cs.length := by
  induction hx with
  | root hc hx => exact tg_lt (h.root _ hc) hx
  | cell _ hx ih => exact tg_lt (h.cell _ ih) hx
  | old _ hc hx ih => exact tg_lt (olds_good h hc) hx
theorem Rch.of_closed {s : So} {r : Ro} {P : Nat → Prop} (h0 : ∀ c ∈ rootsC s r, ∀ x ∈ tgS s c, P x) (h1 : ∀ y, P y → ∀ x ∈ tgS s (cellAt s (y : Nat)), P x) (h2 : ∀ y, P y → ∀ c ∈ oldsS s y, ∀ x ∈ tgS s c, P x) {x : Nat} (hx : Rch s r x) : P x := by
  induction hx with
  | root hc hx => exact h0 _ hc _ hx
  | cell _ hx ih => exact h1 _ ih _ hx
  | old _ hc hx ih => exact h2 _ ih _ hc _ hx

noncomputable def Mk (s : So) (r : Ro) (i : Nat) : Bool := @decide (Rch s r i) (Classical.propDecidable _)
theorem Mk_iff {s : So} {r : Ro} {i : Nat} : Mk s r i = true ↔ Rch s r i := by
  unfold Mk
  exact @decide_eq_true_iff _ (Classical.propDecidable _)

def wbits (f : Nat → Bool) (k : Nat) : Nat → Nat
  | 0 => 0
  | j + 1 => wbits f k j + if f (k * 64 + j) then 2 ^ j else 0
def wordsOf (len : Nat) (f : Nat → Bool) : List Nat := (List.range len).map fun k => wbits f k 64
theorem wbits_lt (f : Nat → Bool) (k m : Nat) : wbits f k m < 2 ^ m := by
  induction m with
  | zero => simp [wbits]
  | succ m ih =>
    unfold wbits
    rw [Nat.pow_succ]
    split <;> omega
theorem wbits_bit (f : Nat → Bool) (k m j : Nat) : (wbits f k m).testBit j = (decide (j < m) && f (k * 64 + j)) := by
  induction m with
  | zero => simp [wbits]
  | succ m ih =>
    unfold wbits
    have hlt := wbits_lt f k m
    cases hf : f (k * 64 + m) with
    | false =>
      simp only [Bool.false_eq_true, if_false, Nat.add_zero, ih]
      by_cases h : j = m
      · subst h
        simp [hf]
      · by_cases h2 : j < m
        · simp [h2, Nat.lt_succ_of_lt h2]
        · have : ¬ j < m + 1 := by omega
          simp [h2, this]
    | true =>
      simp only [if_true]
      rw [Nat.add_comm]
      by_cases h : j = m
      · subst h
        rw [Nat.testBit_two_pow_add_eq, Nat.testBit_lt_two_pow hlt]
        simp [hf]
      · by_cases h2 : j < m
        · rw [Nat.testBit_two_pow_add_gt h2, ih]
          simp [h2, Nat.lt_succ_of_lt h2]
        · have h3 : ¬ j < m + 1 := by omega
          have h4 : 2 ^ m + wbits f k m < 2 ^ j := by
            have h5 : 2 ^ (m + 1) ≤ 2 ^ j := Nat.pow_le_pow_right (by omega) (by omega)
            rw [Nat.pow_succ] at h5
            omega
          rw [Nat.testBit_lt_two_pow h4]
          simp [h3]
theorem words_len (len : Nat) (f : Nat → Bool) : (wordsOf len f).length = len := by simp [wordsOf]
theorem words_bit {len : Nat} {f : Nat → Bool} {i : Nat} (h : i / 64 < len) : bitW (wordsOf len f) i = f i := by
  unfold bitW wordsOf
  have e : ((List.range len).map fun k => wbits f k 64).getD (i / 64) 0 = wbits f (i / 64) 64 := by
    rw [List.getD_eq_getElem?_getD, List.getElem?_map, List.getElem?_range h]
    rfl
  rw [e, wbits_bit]
  have h1 : i % 64 < 64 := Nat.mod_lt _ (by omega)
  have h2 : i / 64 * 64 + i % 64 = i := by omega
  simp [h1, h2]
theorem words_eq {W : List Nat} {len : Nat} {f : Nat → Bool} (hl : W.length = len) (hW : ∀ x ∈ W, x < 18446744073709551616) (h : ∀ i, i / 64 < len → bitW W i = f i) : W = wordsOf len f := by
  refine List.ext_getElem (by rw [hl, words_len]) fun k h1 h2 => ?_
  have hk : k < len := by omega
  have e : (wordsOf len f)[k] = wbits f k 64 := by simp [wordsOf]
  rw [e]
  refine Nat.eq_of_testBit_eq fun j => ?_
  rw [wbits_bit]
  by_cases hj : j < 64
  · have := h (k * 64 + j) (by omega)
    unfold bitW at this
    rw [show (k * 64 + j) / 64 = k by omega, show (k * 64 + j) % 64 = j by omega, List.getD_eq_getElem?_getD, List.getElem?_eq_getElem h1] at this
    simp only [Option.getD_some] at this
    rw [this]
    simp [hj]
  · have h3 := hW _ (List.getElem_mem h1)
    have h4 : W[k] < 2 ^ j := Nat.lt_of_lt_of_le h3 (Nat.pow_le_pow_right (n := 2) (by omega) (by omega) : 2 ^ 64 ≤ 2 ^ j)
    rw [Nat.testBit_lt_two_pow h4]
    simp [hj]
theorem set_bit {W : List Nat} {a i : Nat} (ha : a / 64 < W.length) : bitW (setW W a) i = (bitW W i || decide (i = a)) := by
  unfold bitW setW
  by_cases h : i / 64 = a / 64
  · rw [h]
    have e : (W.set (a / 64) (W.getD (a / 64) 0 ||| 2 ^ (a % 64))).getD (a / 64) 0 = W.getD (a / 64) 0 ||| 2 ^ (a % 64) := by
      rw [List.getD_eq_getElem?_getD, List.getElem?_set_self ha]
      rfl
    rw [e, Nat.testBit_or, Nat.testBit_two_pow]
    congr 1
    simp only [decide_eq_decide]
    omega
  · have e : (W.set (a / 64) (W.getD (a / 64) 0 ||| 2 ^ (a % 64))).getD (i / 64) 0 = W.getD (i / 64) 0 := by
      rw [List.getD_eq_getElem?_getD, List.getElem?_set_ne (fun e => h e.symm), ← List.getD_eq_getElem?_getD]
    have : ¬ i = a := fun e => h (by rw [e])
    rw [e]
    simp [this]
theorem set_len (W : List Nat) (a : Nat) : (setW W a).length = W.length := by simp [setW]
theorem set_lt {W : List Nat} {a : Nat} (hW : ∀ x ∈ W, x < 18446744073709551616) : ∀ x ∈ setW W a, x < 18446744073709551616 := by
  intro x hx
  rcases List.mem_or_eq_of_mem_set hx with h | rfl
  · exact hW x h
  · have h1 : W.getD (a / 64) 0 < 2 ^ 64 := by
      rw [List.getD_eq_getElem?_getD]
      cases h : W[a / 64]? with
      | none => simp
      | some y => exact hW y (List.mem_of_getElem? h)
    have h2 : 2 ^ (a % 64) < 2 ^ 64 := Nat.pow_lt_pow_right (by omega) (Nat.mod_lt _ (by omega))
    exact Nat.or_lt_two_pow h1 h2
theorem bit_zero {n i : Nat} : bitW (List.replicate n 0) i = false := by
  unfold bitW
  have : (List.replicate n 0).getD (i / 64) 0 = 0 := by
    rw [List.getD_eq_getElem?_getD, List.getElem?_replicate]
    split <;> rfl
  rw [this]
  simp

theorem addK_get {k k' x : D} : ∀ {m : List D}, (((mfind k' (addK k x m)).getD (.r [])).rs) = ((mfind k' m).getD (.r [])).rs ++ if k' = k then [x] else []
  | [] => by
    by_cases h : k' = k
    · subst h
      simp [addK, mfind, D.fld, D.fs, D.rs]
    · have : ¬ D.fld (.a [k, .r [x]]) 0 = k' := fun e => h e.symm
      simp only [addK, mfind, if_neg this, if_neg h]
      simp
  | p :: m => by
    unfold addK
    split
    · rename_i hp
      by_cases h : k' = k
      · subst h
        have h1 : D.fld (.a [k', .r ((p.fld 1).rs ++ [x])]) 0 = k' := rfl
        simp only [mfind, if_pos h1, if_pos hp, if_true, Option.getD_some]
        rfl
      · have h1 : ¬ D.fld (.a [k, .r ((p.fld 1).rs ++ [x])]) 0 = k' := fun e => h e.symm
        have h2 : ¬ p.fld 0 = k' := fun e => h (e.symm.trans hp)
        simp only [mfind, if_neg h1, if_neg h2, if_neg h]
        simp
    · by_cases h : p.fld 0 = k'
      · have : ¬ k' = k := fun e => by subst e; exact absurd h ‹_›
        simp only [mfind, if_pos h, if_neg this]
        simp
      · simp only [mfind, if_neg h]
        exact addK_get
theorem grp_get (k : D) : ∀ (l m : List D), ((mfind k (l.foldl (fun m y => addK (y.fld 0) (y.fld 1) m) m)).getD (.r [])).rs = ((mfind k m).getD (.r [])).rs ++ (l.filter fun y => decide (k = y.fld 0)).map (·.fld 1)
  | [], m => by simp
  | y :: l, m => by
    rw [List.foldl_cons, grp_get k l, addK_get, List.append_assoc]
    congr 1
    by_cases h : k = y.fld 0
    · simp [h]
    · simp [h]
theorem grp_olds (s : So) (a : Nat) : ((mfind (.i (a : Int)) (fnD 16 [(eS s).fld 2]).ms).getD (.r [])).rs = (oldsS s a).map eC := by
  have e : (fnD 16 [(eS s).fld 2]).ms = (s.tr.map eU).foldl (fun m y => addK (y.fld 0) (y.fld 1) m) [] := rfl
  rw [e, grp_get]
  have h0 : ((mfind (.i (a : Int)) []).getD (.r [])).rs = [] := rfl
  rw [h0, List.nil_append]
  unfold oldsS
  induction s.tr with
  | nil => rfl
  | cons u l ih =>
    simp only [List.map_cons, List.filter_cons, eU_0, i_inj]
    by_cases h : u.at' = (a : Int)
    · simp only [h, decide_true, if_true, List.map_cons, eU_1, ih]
    · have h' : ¬ (a : Int) = u.at' := fun e => h e.symm
      simp only [h, h', decide_false, Bool.false_eq_true, if_false, ih]

def potW (s : So) (W : List Nat) : Nat := ((List.range s.cs.length).map fun i => if bitW W i then 0 else 1 + (oldsS s i).length).sum
theorem sum_upd {f g : Nat → Nat} {a d : Nat} : ∀ {n : Nat}, (∀ i, i < n → i ≠ a → f i = g i) → f a = g a + d → ((List.range n).map f).sum = ((List.range n).map g).sum + if a < n then d else 0
  | 0, _, _ => by simp
  | n + 1, h, ha => by
    rw [List.range_succ, List.map_append, List.map_append, List.sum_append, List.sum_append, sum_upd (n := n) (fun i hi hne => h i (by omega) hne) ha]
    by_cases hn : n = a
    · have e1 : (if a < n then d else 0) = 0 := if_neg (by omega)
      have e2 : (if a < n + 1 then d else 0) = d := if_pos (by omega)
      rw [e1, e2, hn]
      simp only [List.map_cons, List.map_nil, List.sum_cons, List.sum_nil, ha]
      omega
    · have := h n (by omega) hn
      simp only [List.map_cons, List.map_nil, List.sum_cons, List.sum_nil, this]
      by_cases h2 : a < n
      · rw [if_pos h2, if_pos (by omega)]
        omega
      · rw [if_neg h2, if_neg (by omega)]
        omega
theorem pot_set {s : So} {W : List Nat} {a : Nat} (ha : a < s.cs.length) (hl : a / 64 < W.length) (hb : bitW W a = false) : potW s W = potW s (setW W a) + (1 + (oldsS s a).length) := by
  unfold potW
  rw [sum_upd (a := a) (d := 1 + (oldsS s a).length) (g := fun i => if bitW (setW W a) i then 0 else 1 + (oldsS s i).length), if_pos ha]
  · intro i hi hne
    simp only [set_bit hl]
    simp [hne]
  · simp only [set_bit hl, hb]
    simp
theorem olds_le (s : So) (a : Nat) : (oldsS s a).length ≤ s.tr.length := by
  unfold oldsS
  rw [List.length_map]
  exact List.length_filter_le _ _
theorem pot_le (s : So) (W : List Nat) : potW s W ≤ s.cs.length * (1 + s.tr.length) := by
  unfold potW
  generalize s.cs.length = n
  induction n with
  | zero => simp
  | succ n ih =>
    rw [List.range_succ, List.map_append, List.sum_append, Nat.add_mul]
    simp only [List.map_cons, List.map_nil, List.sum_cons, List.sum_nil]
    have := olds_le s n
    split <;> omega

def Due (s : So) (r : Ro) (W : List Nat) (c : Ce) : Prop := c ∈ rootsC s r ∨ ∃ y : Nat, bitW W y = true ∧ (c = cellAt s (y : Nat) ∨ c ∈ oldsS s y)
structure PJ (s : So) (r : Ro) (E : Ce → Prop) (W : List Nat) (T : List Ce) (m : Nat) : Prop where
  len : W.length = s.cs.length / 64 + 1
  lt : ∀ x ∈ W, x < 18446744073709551616
  sound : ∀ i, bitW W i = true → Rch s r i
  good : ∀ c ∈ T, Gce s c ∧ ∀ x ∈ tgS s c, Rch s r x
  due : ∀ c, Due s r W c → E c ∨ c ∈ T ∨ ∀ x ∈ tgS s c, bitW W x = true
  wt : T.length + potW s W = m

theorem PJ.bound {s : So} {r : Ro} (hv : VG s r) {E : Ce → Prop} {W : List Nat} {T : List Ce} {m : Nat} (h : PJ s r E W T m) {i : Nat} (hi : i < s.cs.length) : i / 64 < W.length := by
  rw [h.len]
  omega

theorem PJ.visit {s : So} {r : Ro} (hv : VG s r) {E : Ce → Prop} {W : List Nat} {T : List Ce} {m a : Nat} (h : PJ s r E W T m) (ha : Rch s r a) (hb : bitW W a = false) :
    PJ s r E (setW W a) (T ++ [cellAt s (a : Nat)] ++ oldsS s a) m := by
  have hal := ha.lt hv
  have hl := h.bound hv hal
  refine ⟨by rw [set_len]; exact h.len, set_lt h.lt, fun i hi => ?_, fun c hc => ?_, fun c hc => ?_, ?_⟩
  · rw [set_bit hl, Bool.or_eq_true, decide_eq_true_eq] at hi
    rcases hi with hi | rfl
    · exact h.sound i hi
    · exact ha
  · rcases List.mem_append.1 hc with hc | hc
    · rcases List.mem_append.1 hc with hc | hc
      · exact h.good c hc
      · rw [List.mem_singleton] at hc
        subst hc
        exact ⟨hv.cell a hal, fun x hx => .cell ha hx⟩
    · exact ⟨olds_good hv hc, fun x hx => .old ha hc hx⟩
  · have mono : ∀ x, bitW W x = true → bitW (setW W a) x = true := fun x hx => by rw [set_bit hl, hx]; rfl
    have keep : Due s r W c → E c ∨ c ∈ T ++ [cellAt s (a : Nat)] ++ oldsS s a ∨ ∀ x ∈ tgS s c, bitW (setW W a) x = true := fun hd => by
      rcases h.due c hd with h1 | h1 | h1
      · exact .inl h1
      · exact .inr (.inl (by simp [h1]))
      · exact .inr (.inr fun x hx => mono x (h1 x hx))
    rcases hc with hc | ⟨y, hy, hc⟩
    · exact keep (.inl hc)
    · rw [set_bit hl, Bool.or_eq_true, decide_eq_true_eq] at hy
      rcases hy with hy | rfl
      · exact keep (.inr ⟨y, hy, hc⟩)
      · rcases hc with rfl | hc
        · exact .inr (.inl (by simp))
        · exact .inr (.inl (by simp [hc]))
  · have h1 := pot_set hal hl hb
    have h2 := h.wt
    simp only [List.length_append, List.length_singleton]
    omega

theorem PJ.done {s : So} {r : Ro} (hv : VG s r) {W : List Nat} {m : Nat} (h : PJ s r (fun _ => False) W [] m) : W = wordsOf (s.cs.length / 64 + 1) (Mk s r) := by
  refine words_eq h.len h.lt fun i hi => ?_
  have hdue : ∀ c, Due s r W c → ∀ x ∈ tgS s c, bitW W x = true := fun c hc => by
    rcases h.due c hc with h1 | h1 | h1
    · exact h1.elim
    · cases h1
    · exact h1
  rw [Bool.eq_iff_iff, Mk_iff]
  exact ⟨h.sound i, fun hr => Rch.of_closed (P := fun x => bitW W x = true) (fun c hc => hdue c (.inl hc)) (fun y hy => hdue _ (.inr ⟨y, hy, .inl rfl⟩)) (fun y hy c hc => hdue c (.inr ⟨y, hy, .inr hc⟩)) hr⟩
end Go.Proofs.Ytmebmpgffhajbaa


namespace Go.Proofs.Ytmebmpgffhajbaa
open Go.RowKit
set_option linter.unusedVariables false
set_option linter.unusedSimpArgs false

inductive Te where
  | mk (k n : Int) (s : ByteArray) (l : List Te)
instance : Inhabited Te := ⟨.mk 0 0 ⟨#[]⟩ []⟩
def Te.k : Te → Int | .mk k _ _ _ => k
def Te.n : Te → Int | .mk _ n _ _ => n
def Te.s : Te → ByteArray | .mk _ _ s _ => s
def Te.l : Te → List Te | .mk _ _ _ l => l

mutual
theorem Te.ind0 {P : Te → Prop} (h : ∀ k n s l, (∀ t ∈ l, P t) → P (.mk k n s l)) : ∀ t, P t
  | .mk k n s l => h k n s l (Te.inds h l)
theorem Te.inds {P : Te → Prop} (h : ∀ k n s l, (∀ t ∈ l, P t) → P (.mk k n s l)) : ∀ (l : List Te), ∀ t ∈ l, P t
  | [], _, ht => by cases ht
  | u :: l, t, ht => by
    exact (List.mem_cons.1 ht).elim (fun e => e ▸ Te.ind0 h u) fun h' => Te.inds h l t h'
end
theorem Te.ind {P : Te → Prop} (h : ∀ k n s l, (∀ t ∈ l, P t) → P (.mk k n s l)) (t : Te) : P t := Te.ind0 h t

mutual
def eT : Te → D
  | .mk k n s l => .a [.i k, .i n, .s s, .r (eTs l)]
def eTs : List Te → List D
  | [] => []
  | t :: l => eT t :: eTs l
end
mutual
def okT : Te → Prop
  | .mk k n s l => i64 k ∧ i64 n ∧ s.size ≤ LIM ∧ l.length ≤ 2513169434843 ∧ okTs l
def okTs : List Te → Prop
  | [] => True
  | t :: l => okT t ∧ okTs l
end
theorem okTs_iff : ∀ {l : List Te}, okTs l ↔ ∀ t ∈ l, okT t
  | [] => ⟨fun _ t h => (by cases h), fun _ => trivial⟩
  | t :: l => by rw [okTs, okTs_iff]; simp
theorem okT_mk {k n : Int} {s : ByteArray} {l : List Te} : okT (.mk k n s l) ↔ i64 k ∧ i64 n ∧ s.size ≤ LIM ∧ l.length ≤ 2513169434843 ∧ ∀ t ∈ l, okT t := by rw [okT, okTs_iff]
theorem okT.k {t : Te} (h : okT t) : i64 t.k := by cases t; exact (okT_mk.1 h).1
theorem okT.n {t : Te} (h : okT t) : i64 t.n := by cases t; exact (okT_mk.1 h).2.1
theorem okT.s {t : Te} (h : okT t) : t.s.size ≤ LIM := by cases t; exact (okT_mk.1 h).2.2.1
theorem okT.l {t : Te} (h : okT t) : t.l.length ≤ 2513169434843 := by cases t; exact (okT_mk.1 h).2.2.2.1
mutual
def idT : Te → Te → Bool
  | .mk k n s l, .mk k' n' s' l' => decide (k = k') && (decide (n = n') && (decide (s = s') && idTs l l'))
def idTs : List Te → List Te → Bool
  | [], [] => true
  | t :: l, u :: m => idT t u && idTs l m
  | _, _ => false
end
mutual
theorem idT_iff : ∀ (t u : Te), idT t u = true ↔ t = u
  | .mk k n s l, .mk k' n' s' l' => by simp [idT, idTs_iff l l']
theorem idTs_iff : ∀ (l m : List Te), idTs l m = true ↔ l = m
  | [], [] => by simp [idTs]
  | t :: l, u :: m => by simp [idTs, idT_iff t u, idTs_iff l m]
  | [], _ :: _ => by simp [idTs]
  | _ :: _, [] => by simp [idTs]
end
instance : DecidableEq Te := fun t u => if h : idT t u = true then .isTrue ((idT_iff t u).1 h) else .isFalse fun e => h ((idT_iff t u).2 e)
end Go.Proofs.Ytmebmpgffhajbaa


namespace Go.Proofs.Ytmebmpgffhajbaa
open Go.RowKit
set_option linter.unusedVariables false
set_option linter.unusedSimpArgs false

end Go.Proofs.Ytmebmpgffhajbaa


namespace Go.Proofs.Ytmebmpgffhajbaa
open Go.RowKit
set_option linter.unusedVariables false
set_option linter.unusedSimpArgs false

theorem vr_head {s : So} (h : validR s = true) : headB s = true := by
  simp only [validR, Bool.and_eq_true] at h
  exact h.1
theorem vr_syms {s : So} (h : validR s = true) : symsB s.ys = true := by
  have := vr_head h
  simp only [headB, Bool.and_eq_true] at this
  exact this.2.2.2.2
theorem vr_cell {s : So} (h : validR s = true) {i : Int} (hi : inS s i = true) : cellR s i = true := by
  simp only [validR, Bool.and_eq_true] at h
  have h1 := inS_iff.1 hi
  have hk := all_of h.2.1 (k := i.toNat) (by omega)
  rwa [show ((i.toNat : Nat) : Int) = i by omega] at hk
theorem vr_vc {s : So} (h : validR s = true) {i : Int} (hi : inS s i = true) (ht : (cellAt s i).t ≠ 4) : vcR s (cellAt s i) = true := by
  have := vr_cell h hi
  unfold cellR at this
  rw [if_neg ht] at this
  simp only [Bool.and_eq_true] at this
  exact this.1
theorem vc_ref {s : So} {c : Ce} (h : vcR s c = true) (ht : c.t = 0) : inS s c.n = true ∧ (cellAt s c.n).t ≠ 4 := by
  unfold vcR at h
  rw [if_pos ht] at h
  simp only [Bool.and_eq_true, Bool.not_eq_true', decide_eq_false_iff_not] at h
  rw [tagS_in h.1] at h
  exact h
theorem vr_fun {s : So} (h : validR s = true) {i : Int} (hi : inS s i = true) (ht : (cellAt s i).t = 4) : 1 ≤ arS s (cellAt s i).n ∧ arS s (cellAt s i).n ≤ 8 ∧ ∀ j : Nat, (j : Int) < arS s (cellAt s i).n → inS s (i + 1 + j) = true ∧ vcR s (cellAt s (i + 1 + j)) = true := by
  have := vr_cell h hi
  unfold cellR at this
  rw [if_pos ht] at this
  simp only [Bool.and_eq_true, decide_eq_true_eq, List.all_eq_true, List.mem_range, Bool.not_eq_true', decide_eq_false_iff_not] at this
  obtain ⟨h1, h2, h3⟩ := this
  refine ⟨h1, (symsB_ar (vr_syms h) _).2, fun j hj => ?_⟩
  have q := inS_iff.1 h2
  have q1 := inS_iff.1 hi
  have hin : inS s (i + 1 + j) = true := inS_iff.2 ⟨by omega, by omega⟩
  refine ⟨hin, vr_vc h hin ?_⟩
  have := h3 j (by omega)
  rw [show i + ((j : Int) + 1) = i + 1 + j by omega, tagS_in hin] at this
  exact this
theorem ar_rng {s : So} {n : Int} (h : 0 ≤ arS s n) : 0 ≤ n ∧ n < s.ys.length ∧ arS s n = (s.ys.getD n.toNat default).ar := by
  unfold arS at h ⊢
  split at h
  · rename_i hn
    rw [if_pos hn]
    exact ⟨hn.1, hn.2, rfl⟩
  · omega
end Go.Proofs.Ytmebmpgffhajbaa


namespace Go.Proofs.Ytmebmpgffhajbaa
open Go.RowKit
set_option linter.unusedVariables false
set_option linter.unusedSimpArgs false

theorem gce_vc {s : So} (h : validR s = true) {c : Ce} (hc : vcR s c = true) : Gce s c := by
  unfold vcR at hc
  by_cases h0 : c.t = 0
  · rw [if_pos h0] at hc
    simp only [Bool.and_eq_true] at hc
    have := inS_iff.1 hc.1
    refine ⟨fun _ => ⟨this.1, ?_⟩, fun h3 => by omega⟩
    rw [cntS, if_pos h0]
    omega
  · rw [if_neg h0] at hc
    by_cases h1 : c.t = 1
    · exact ⟨fun h => by omega, fun h => by omega⟩
    · rw [if_neg h1] at hc
      by_cases h2 : c.t = 2
      · exact ⟨fun h => by omega, fun h => by omega⟩
      · rw [if_neg h2] at hc
        by_cases h3 : c.t = 3
        · rw [if_pos h3, decide_eq_true_eq] at hc
          have hi := tag_in' (by omega) hc
          rw [tagS_in hi] at hc
          obtain ⟨a1, a2, a3⟩ := vr_fun h hi hc
          have hi' := inS_iff.1 hi
          have ha : 0 ≤ (cellAt s c.n).n ∧ (cellAt s c.n).n < s.ys.length ∧ arS s (cellAt s c.n).n = (s.ys.getD (cellAt s c.n).n.toNat default).ar := by
            unfold arS at a1 ⊢
            split at a1
            · rename_i hq
              exact ⟨hq.1, hq.2, by rw [if_pos hq]⟩
            · omega
          have h4 := inS_iff.1 (a3 ((arS s (cellAt s c.n).n).toNat - 1) (by omega)).1
          refine ⟨fun _ => ⟨hi'.1, ?_⟩, fun _ => ⟨ha.1, ha.2.1, by rw [← ha.2.2]; omega⟩⟩
          rw [cntS, if_neg h0, if_pos h3, ← ha.2.2]
          omega
        · rw [if_neg h3] at hc
          by_cases h5 : c.t = 5
          · rw [if_pos h5, decide_eq_true_eq] at hc
            have hi := tag_in' (by omega) hc
            rw [tagS_in hi] at hc
            have hcell := vr_cell h hi
            unfold cellR at hcell
            rw [if_neg (by omega)] at hcell
            simp only [Bool.and_eq_true, hc, decide_true, Bool.not_true, Bool.false_or, groupS, decide_eq_true_eq] at hcell
            have h6 := inS_iff.1 (tag_nn hcell.2.2.2.2.2.2.1)
            have hi' := inS_iff.1 hi
            refine ⟨fun _ => ⟨hi'.1, ?_⟩, fun h => by omega⟩
            rw [cntS, if_neg h0, if_neg h3, if_pos h5]
            omega
          · rw [if_neg h5] at hc
            cases hc
theorem gce_cell {s : So} (h : validR s = true) {i : Int} (hi : inS s i = true) : Gce s (cellAt s i) := by
  by_cases ht : (cellAt s i).t = 4
  · exact ⟨fun h => by omega, fun h => by omega⟩
  · exact gce_vc h (vr_vc h hi ht)
theorem vr_old {s : So} (h : validR s = true) {u : Un} (hu : u ∈ s.tr) : oldR s u = true := by
  simp only [validR, Bool.and_eq_true] at h
  obtain ⟨i, hi, rfl⟩ := List.mem_iff_getElem.1 hu
  have := all_of h.2.2.1 (k := i) hi
  simpa [List.getD_eq_getElem?_getD, hi] using this
theorem vr_wk {s : So} (h : validR s = true) {w : Wk} (hw : w ∈ s.wk) : wkB vcR s w = true := by
  simp only [validR, Bool.and_eq_true] at h
  obtain ⟨i, hi, rfl⟩ := List.mem_iff_getElem.1 hw
  have := all_of h.2.2.2 (k := i) hi
  simpa [List.getD_eq_getElem?_getD, hi] using this
theorem gce_old {s : So} (h : validR s = true) {u : Un} (hu : oldR s u = true) : inS s u.at' = true ∧ Gce s u.old := by
  unfold oldR oldB at hu
  rw [Bool.and_eq_true] at hu
  obtain ⟨hi, hu⟩ := hu
  have hi' := inS_iff.1 hi
  refine ⟨hi, ?_⟩
  by_cases h0 : u.old.t = 0
  · rw [if_pos h0, decide_eq_true_eq] at hu
    refine ⟨fun _ => ⟨by omega, ?_⟩, fun h => by omega⟩
    rw [cntS, if_pos h0]
    omega
  · rw [if_neg h0] at hu
    by_cases h5 : u.old.t = 5
    · rw [if_pos h5] at hu
      simp only [Bool.and_eq_true, groupS, decide_eq_true_eq] at hu
      have h6 := inS_iff.1 (tag_nn hu.2.1.2.2.2.1)
      refine ⟨fun _ => ⟨by omega, ?_⟩, fun h => by omega⟩
      rw [cntS, if_neg h0, if_neg (by omega), if_pos h5]
      omega
    · rw [if_neg h5] at hu
      by_cases h1 : u.old.t = 1 ∨ u.old.t = 2 ∨ u.old.t = 3
      · rw [if_pos h1] at hu
        exact gce_vc h hu
      · rw [if_neg h1] at hu
        cases hu
theorem okR_parts {s : So} {r : Ro} (h : okR validR vcR s r = true) : validR s = true ∧ (∀ c ∈ r.cs, vcR s c = true) ∧ (∀ x ∈ r.tp, 0 ≤ x ∧ x ≤ s.cs.length) ∧ ∀ x ∈ r.ms, 0 ≤ x ∧ x ≤ s.tr.length := by
  simp only [okR, Bool.and_eq_true] at h
  refine ⟨h.1, fun c hc => ?_, fun x hx => ?_, fun x hx => ?_⟩
  · obtain ⟨i, hi, rfl⟩ := List.mem_iff_getElem.1 hc
    have := all_of h.2.1 (k := i) hi
    simpa [List.getD_eq_getElem?_getD, hi] using this
  · obtain ⟨i, hi, rfl⟩ := List.mem_iff_getElem.1 hx
    have := all_of h.2.2.1 (k := i) hi
    simpa [List.getD_eq_getElem?_getD, hi, inN] using this
  · obtain ⟨i, hi, rfl⟩ := List.mem_iff_getElem.1 hx
    have := all_of h.2.2.2 (k := i) hi
    simpa [List.getD_eq_getElem?_getD, hi, inN] using this
theorem roots_mem {s : So} {r : Ro} {c : Ce} (h : c ∈ rootsC s r) : c ∈ r.cs ∨ ∃ w ∈ s.wk, c = w.att ∨ c = w.val := by
  rcases List.mem_append.1 h with h | h
  · exact .inl h
  · obtain ⟨w, hw, hc⟩ := List.mem_flatMap.1 h
    exact .inr ⟨w, hw, by simpa using hc⟩
theorem vc_root {s : So} {r : Ro} (h : okR validR vcR s r = true) {c : Ce} (hc : c ∈ rootsC s r) : vcR s c = true := by
  obtain ⟨h1, h2, -, -⟩ := okR_parts h
  rcases roots_mem hc with hc | ⟨w, hw, hc⟩
  · exact h2 c hc
  · have := vr_wk h1 hw
    simp only [wkB, Bool.and_eq_true] at this
    rcases hc with rfl | rfl
    · exact this.2.2.1
    · exact this.2.2.2
theorem vg_of {s : So} {r : Ro} (h : okR validR vcR s r = true) : VG s r := by
  obtain ⟨h1, h2, -, -⟩ := okR_parts h
  refine ⟨fun i hi => gce_cell h1 (inS_iff.2 ⟨by omega, by omega⟩), fun u hu => ?_, fun c hc => gce_vc h1 (vc_root h hc)⟩
  obtain ⟨a, b⟩ := gce_old h1 (vr_old h1 hu)
  exact ⟨(inS_iff.1 a).1, (inS_iff.1 a).2, b⟩

theorem roots_len (s : So) (r : Ro) : (rootsC s r).length = r.cs.length + 2 * s.wk.length := by
  unfold rootsC
  rw [List.length_append]
  congr 1
  induction s.wk with
  | nil => rfl
  | cons w l ih => simp only [List.flatMap_cons, List.length_append, List.length_cons, List.length_nil, ih]; omega

abbrev xPop : X := (.get (.tok 5) (.sub (.len (.tok 5)) (.lit (.i 1))))
def inT (bnd : X) : Tree := (.loop 27 6 [(.lit (.i 0)), (.tok 4), (.cut (.tok 5) (.lit (.i 0)) (.sub (.len (.tok 5)) (.lit (.i 1))))] (.br (.lt (.tok 6) bnd) (.need [(.rng .i64 (.add (.fld (.get (.tok 5) (.sub (.len (.tok 5)) (.lit (.i 1)))) 1) (.tok 6))), (.ok 0 [(.add (.fld (.get (.tok 5) (.sub (.len (.tok 5)) (.lit (.i 1)))) 1) (.tok 6)), (.tok 7), (.tok 8), (.tok 0), (.fn 16 [(.fld (.tok 0) 2)])])] (.need [(.rng .i64 (.add (.tok 6) (.lit (.i 1))))] (.back 27 [(.add (.tok 6) (.lit (.i 1))), (.call 0 0 [(.add (.fld (.get (.tok 5) (.sub (.len (.tok 5)) (.lit (.i 1)))) 1) (.tok 6)), (.tok 7), (.tok 8), (.tok 0), (.fn 16 [(.fld (.tok 0) 2)])]), (.call 0 1 [(.add (.fld (.get (.tok 5) (.sub (.len (.tok 5)) (.lit (.i 1)))) 1) (.tok 6)), (.tok 7), (.tok 8), (.tok 0), (.fn 16 [(.fld (.tok 0) 2)])])]))) (.back 16 [(.tok 7), (.tok 8)])))
theorem in_ok {s : So} {r : Ro} (hv : VG s r) {W : List Nat} {T : List Ce} {c : Ce} {m : Nat} {bnd : X} {k : Int} {R0 : List D} {R : List D → Prop} {B : Nat → List D → Prop} (hcs : s.cs.length ≤ 300) (htr : s.tr.length ≤ 300) (hm : m ≤ 1000000)
    (hP : PJ s r (fun x => x = c) W T m) (hc : Gce s c) (hcr : ∀ x ∈ tgS s c, Rch s r x) (hbnd : ∀ st : List D, bnd.ev (evl (tblS [(q0e, gVis)]) ([eS s, eR r, .i k, .r R0, .r (W.map eN), .r ((T ++ [c]).map eC)] ++ st)) = .i (cntS s c : Nat))
    (hB : ∀ W' T', PJ s r (fun _ => False) W' T' m → B 16 [.r (W'.map eN), .r (T'.map eC)]) :
    (inT bnd).go (tblS [(q0e, gVis)]) R [eS s, eR r, .i k, .r R0, .r (W.map eN), .r ((T ++ [c]).map eC)] B := by
  have hTl : ((T.map eC ++ [eC c]).length : Int) - 1 = (T.length : Nat) := by simp
  have hpop : (D.r (T.map eC ++ [eC c])).get ((T.length : Nat) : Int) = eC c := by
    show (T.map eC ++ [eC c]).getD ((T.length : Nat) : Int).toNat .u = eC c
    rw [Int.toNat_natCast, List.getD_eq_getElem?_getD, List.getElem?_append_right (by simp)]
    simp
  unfold inT
  rw [go_loop]
  refine ⟨fun st => ∃ (j : Nat) (W' : List Nat) (T' : List Ce), j ≤ cntS s c ∧ st = [.i j, .r (W'.map eN), .r (T'.map eC)] ∧ PJ s r (fun x => x = c) W' T' m ∧ ∀ i, i < j → bitW W' (c.n.toNat + i) = true, fun st => cntS s c - (st.getD 0 .u).int.toNat, ⟨0, W, T, Nat.zero_le _, ?_, hP, fun i hi => absurd hi (Nat.not_lt_zero _)⟩, ?_⟩
  · simp only [q00, go_br, q02, q04, allSay, X.says, X.ev, X.evs, evl, tblS, List.getD_cons_zero, List.getD_cons_succ, List.getElem?_cons_zero, List.getElem?_cons_succ, tt_b, int_i, str_s, rs_r, Option.isSome_some, Option.getD_some, decide_eq_true_eq, decide_eq_false_iff_not, dS_eS, dC_eC, dU_eU, dW_eW, dY_eY, eC_0, eC_1, eU_0, eU_1, eW_0, eW_1, eW_2, eY_0, eY_1, eS_0, eS_1, eS_2, eS_3, eS_4, eS_5, List.length_map, i_inj, b_inj, s_inj, eC_eq, eU_eq, eW_eq, eY_eq, eS_eq, rng64, List.take_succ_cons, List.take_zero, List.nil_append, List.cons_append, decide_true, decide_false, Bool.or_true, true_and, and_true, List.map_append, List.map_cons, List.map_nil, hTl, Int.toNat_natCast]
    have : ((T.map eC ++ [eC c]).take T.length).drop 0 = T.map eC := by
      rw [List.drop_zero, ← List.length_map (f := eC), List.take_left]
    simp [this]
  rintro st - ⟨j, W', T', hj, rfl, hP', hpre⟩
  have hb := hbnd [.i j, .r (W'.map eN), .r (T'.map eC)]
  simp only [List.map_append, List.map_cons, List.map_nil, List.cons_append, List.nil_append] at hb
  have hTlen : T'.length ≤ m := by have := hP'.wt; omega
  rw [go_br]
  simp only [X.ev, evl, List.take_succ_cons, List.take_zero, List.map_append, List.map_cons, List.map_nil, List.cons_append, List.nil_append, List.getD_cons_succ, List.getD_cons_zero, tt_b, decide_eq_true_eq, decide_eq_false_iff_not]
  simp only [evl] at hb
  rw [hb]
  simp only [int_i]
  refine ⟨fun hlt => ?_, fun hlt => ?_⟩
  · have hlt : j < cntS s c := by omega
    have hxm : c.n.toNat + j ∈ tgS s c := tg_mem.2 ⟨j, hlt, rfl⟩
    have hr := hcr _ hxm
    have ha := hr.lt hv
    have hl := hP'.bound hv ha
    have hcn : 0 ≤ c.n := by
      have ht : c.t = 0 ∨ c.t = 3 ∨ c.t = 5 := by
        unfold cntS at hlt
        split at hlt
        · exact .inl ‹_›
        · split at hlt
          · exact .inr (.inl ‹_›)
          · split at hlt
            · exact .inr (.inr ‹_›)
            · omega
      exact (hc.b ht).1
    have hadd : c.n + (j : Int) = ((c.n.toNat + j : Nat) : Int) := by omega
    have hol := olds_le s (c.n.toNat + j)
    have hgr := grp_olds s (c.n.toNat + j)
    rw [eS_2] at hgr
    have hvis : gVis [.i ((c.n.toNat + j : Nat) : Int), .r (W'.map eN), .r (T'.map eC), eS s, fnD 16 [.r (s.tr.map eU)]] = some (if bitW W' (c.n.toNat + j) then [.r (W'.map eN), .r (T'.map eC)] else [.r ((setW W' (c.n.toNat + j)).map eN), .r ((T' ++ [cellAt s ((c.n.toNat + j : Nat) : Int)] ++ oldsS s (c.n.toNat + j)).map eC)]) := by
      simp only [gVis, mN, dS_eS, hgr, List.length_map, Int.toNat_natCast]
      rw [if_pos]
      · simp only [List.map_append, List.map_cons, List.map_nil]
      · simp only [Bool.and_eq_true, decide_eq_true_eq]
        exact ⟨by omega, by omega, hl, by omega⟩
    simp only [q00, go_br, q02, q04, allSay, X.says, X.ev, X.evs, evl, tblS, List.getD_cons_zero, List.getD_cons_succ, List.getElem?_cons_zero, List.getElem?_cons_succ, tt_b, int_i, str_s, rs_r, Option.isSome_some, Option.getD_some, decide_eq_true_eq, decide_eq_false_iff_not, dS_eS, dC_eC, dU_eU, dW_eW, dY_eY, eC_0, eC_1, eU_0, eU_1, eW_0, eW_1, eW_2, eY_0, eY_1, eS_0, eS_1, eS_2, eS_3, eS_4, eS_5, List.length_map, i_inj, b_inj, s_inj, eC_eq, eU_eq, eW_eq, eY_eq, eS_eq, rng64, List.take_succ_cons, List.take_zero, List.nil_append, List.cons_append, decide_true, decide_false, Bool.or_true, true_and, and_true, List.map_append, List.map_cons, List.map_nil, hTl, hpop, hadd, hvis]
    have hi1 := hj
    have hcnt : cntS s c ≤ 300 := by
      have := tg_lt hc (tg_mem.2 ⟨cntS s c - 1, by omega, rfl⟩)
      omega
    refine ⟨⟨by omega, by omega⟩, ⟨by omega, by omega⟩, ?_⟩
    rw [updB, if_pos rfl]
    cases hbit : bitW W' (c.n.toNat + j) with
    | true =>
      simp only [if_true, Option.getD_some, List.getD_cons_zero, List.getD_cons_succ]
      refine ⟨⟨j + 1, W', T', hlt, by simp, hP', fun i hi => ?_⟩, by simp [D.int]; omega⟩
      by_cases h : i < j
      · exact hpre i h
      · obtain rfl : i = j := by omega
        exact hbit
    | false =>
      simp only [Bool.false_eq_true, if_false, Option.getD_some, List.getD_cons_zero, List.getD_cons_succ]
      refine ⟨⟨j + 1, setW W' (c.n.toNat + j), T' ++ [cellAt s ((c.n.toNat + j : Nat) : Int)] ++ oldsS s (c.n.toNat + j), hlt, by simp, hP'.visit hv hr hbit, fun i hi => ?_⟩, by simp [D.int]; omega⟩
      rw [set_bit hl]
      by_cases h : i < j
      · rw [hpre i h]; rfl
      · obtain rfl : i = j := by omega
        simp
  · have hjc : j = cntS s c := by omega
    subst hjc
    simp only [q00, go_br, q02, q04, allSay, X.says, X.ev, X.evs, evl, tblS, List.getD_cons_zero, List.getD_cons_succ, List.getElem?_cons_zero, List.getElem?_cons_succ, tt_b, int_i, str_s, rs_r, Option.isSome_some, Option.getD_some, decide_eq_true_eq, decide_eq_false_iff_not, dS_eS, dC_eC, dU_eU, dW_eW, dY_eY, eC_0, eC_1, eU_0, eU_1, eW_0, eW_1, eW_2, eY_0, eY_1, eS_0, eS_1, eS_2, eS_3, eS_4, eS_5, List.length_map, i_inj, b_inj, s_inj, eC_eq, eU_eq, eW_eq, eY_eq, eS_eq, rng64, List.take_succ_cons, List.take_zero, List.nil_append, List.cons_append, decide_true, decide_false, Bool.or_true, true_and, and_true]
    rw [updB, if_neg (by decide)]
    refine hB W' T' ⟨hP'.len, hP'.lt, hP'.sound, hP'.good, fun c' hc' => ?_, hP'.wt⟩
    rcases hP'.due c' hc' with rfl | h | h
    · refine .inr (.inr fun x hx => ?_)
      obtain ⟨i, hi, rfl⟩ := tg_mem.1 hx
      exact hpre i hi
    · exact .inr (.inl h)
    · exact .inr (.inr h)
end Go.Proofs.Ytmebmpgffhajbaa


namespace Go.Proofs.Ytmebmpgffhajbaa
open Go.RowKit
set_option linter.unusedVariables false
set_option linter.unusedSimpArgs false

noncomputable def gMark : List D → Option (List D)
  | [s, r] => if okR validR vcR (dS s) (dR r) && smallB (dS s) (dR r) then some [.r ((wordsOf ((dS s).cs.length / 64 + 1) (Mk (dS s) (dR r))).map eN)] else none
  | _ => none
theorem small_parts {s : So} {r : Ro} (h : smallB s r = true) : s.cs.length ≤ 300 ∧ s.ys.length ≤ 100 ∧ s.tr.length ≤ 300 ∧ s.wk.length ≤ 50 ∧ r.cs.length ≤ 50 ∧ r.tp.length ≤ 50 ∧ r.ms.length ≤ 50 := by
  simpa only [smallB, Bool.and_eq_true, decide_eq_true_eq] using h
def wkCs (s : So) (k : Nat) : List Ce := (s.wk.take k).flatMap fun w => [w.att, w.val]
theorem wkCs_len (s : So) (k : Nat) : (wkCs s k).length ≤ 2 * s.wk.length := by
  unfold wkCs
  have h1 : ∀ l : List Wk, (l.flatMap fun w => [w.att, w.val]).length = 2 * l.length := by
    intro l
    induction l with
    | nil => rfl
    | cons w l ih => simp only [List.flatMap_cons, List.length_append, List.length_cons, List.length_nil, ih]; omega
  rw [h1]
  have := List.length_take_le' k s.wk
  omega
theorem wkCs_succ {s : So} {k : Nat} (h : k < s.wk.length) : wkCs s (k + 1) = wkCs s k ++ [(s.wk.getD k default).att, (s.wk.getD k default).val] := by
  unfold wkCs
  rw [take_snoc h, List.flatMap_append]
  simp
theorem start_pj {s : So} {r : Ro} (hv : VG s r) : PJ s r (fun _ => False) (List.replicate (s.cs.length / 64 + 1) 0) (rootsC s r) ((rootsC s r).length + potW s (List.replicate (s.cs.length / 64 + 1) 0)) := by
  refine ⟨by simp, fun x hx => ?_, fun i hi => ?_, fun c hc => ⟨hv.root c hc, fun x hx => .root hc hx⟩, fun c hc => ?_, rfl⟩
  · rw [(List.mem_replicate.1 hx).2]; decide
  · rw [bit_zero] at hi; cases hi
  · rcases hc with hc | ⟨y, hy, -⟩
    · exact .inr (.inl hc)
    · rw [bit_zero] at hy; cases hy
theorem PJ.pop {s : So} {r : Ro} {W : List Nat} {T : List Ce} {c : Ce} {m : Nat} (h : PJ s r (fun _ => False) W (T ++ [c]) m) : PJ s r (fun x => x = c) W T (m - 1) ∧ 0 < m := by
  have hw := h.wt
  rw [List.length_append, List.length_singleton] at hw
  refine ⟨⟨h.len, h.lt, h.sound, fun x hx => h.good x (by simp [hx]), fun x hx => ?_, by omega⟩, by omega⟩
  rcases h.due x hx with h1 | h1 | h1
  · exact h1.elim
  · rcases List.mem_append.1 h1 with h1 | h1
    · exact .inr (.inl h1)
    · exact .inl (by simpa using h1)
  · exact .inr (.inr h1)
theorem PJ.drop {s : So} {r : Ro} {W : List Nat} {T : List Ce} {c : Ce} {m : Nat} (h : PJ s r (fun x => x = c) W T m) (hc : cntS s c = 0) : PJ s r (fun _ => False) W T m := by
  refine ⟨h.len, h.lt, h.sound, h.good, fun x hx => ?_, h.wt⟩
  rcases h.due x hx with rfl | h1 | h1
  · refine .inr (.inr fun y hy => ?_)
    obtain ⟨j, hj, -⟩ := tg_mem.1 hy
    omega
  · exact .inr (.inl h1)
  · exact .inr (.inr h1)

theorem ok_gc_mark : FOk q11 gMark := fok_gc_mark ok_gc_mark_1 fun ds outs hw hg => by
  obtain ⟨s, r, rfl, hs, hr⟩ := sr_of hw
  simp only [gMark, dS_eS, dR_eR, Bool.and_eq_true, Option.ite_none_right_eq_some, Option.some.injEq] at hg
  obtain ⟨⟨hok, hsm⟩, rfl⟩ := hg
  have hv := vg_of hok
  obtain ⟨z1, z2, z3, z4, z5, z6, z7⟩ := small_parts hsm
  have hdiv : s.cs.length / 64 ≤ s.cs.length := Nat.div_le_self _ _
  have hrep : ∀ n : Nat, List.replicate n (D.i 0) = (List.replicate n 0).map eN := fun n => by rw [List.map_replicate]; rfl
  have hn1 : ((s.cs.length / 64 : Nat) : Int) + 1 = ((s.cs.length / 64 + 1 : Nat) : Int) := by omega
  rw [q2n, q00]
  refine ⟨by simp only [q00, go_br, q02, q04, allSay, X.says, X.ev, X.evs, evl, tblS, List.getD_cons_zero, List.getD_cons_succ, List.getElem?_cons_zero, List.getElem?_cons_succ, tt_b, int_i, str_s, rs_r, Option.isSome_some, Option.getD_some, decide_eq_true_eq, decide_eq_false_iff_not, dS_eS, dC_eC, dU_eU, dW_eW, dY_eY, eC_0, eC_1, eU_0, eU_1, eW_0, eW_1, eW_2, eY_0, eY_1, eS_0, eS_1, eS_2, eS_3, eS_4, eS_5, List.length_map, i_inj, b_inj, s_inj, eC_eq, eU_eq, eW_eq, eY_eq, eS_eq, rng64, List.take_succ_cons, List.take_zero, List.nil_append, List.cons_append, decide_true, decide_false, Bool.or_true, true_and, and_true, f8_6]; omega, ?_⟩
  rw [q00]
  refine ⟨by simp only [q00, go_br, q02, q04, allSay, X.says, X.ev, X.evs, evl, tblS, List.getD_cons_zero, List.getD_cons_succ, List.getElem?_cons_zero, List.getElem?_cons_succ, tt_b, int_i, str_s, rs_r, Option.isSome_some, Option.getD_some, decide_eq_true_eq, decide_eq_false_iff_not, dS_eS, dC_eC, dU_eU, dW_eW, dY_eY, eC_0, eC_1, eU_0, eU_1, eW_0, eW_1, eW_2, eY_0, eY_1, eS_0, eS_1, eS_2, eS_3, eS_4, eS_5, List.length_map, i_inj, b_inj, s_inj, eC_eq, eU_eq, eW_eq, eY_eq, eS_eq, rng64, List.take_succ_cons, List.take_zero, List.nil_append, List.cons_append, decide_true, decide_false, Bool.or_true, true_and, and_true], ?_⟩
  rw [q00]
  refine ⟨by simp only [q00, go_br, q02, q04, allSay, X.says, X.ev, X.evs, evl, tblS, List.getD_cons_zero, List.getD_cons_succ, List.getElem?_cons_zero, List.getElem?_cons_succ, tt_b, int_i, str_s, rs_r, Option.isSome_some, Option.getD_some, decide_eq_true_eq, decide_eq_false_iff_not, dS_eS, dC_eC, dU_eU, dW_eW, dY_eY, eC_0, eC_1, eU_0, eU_1, eW_0, eW_1, eW_2, eY_0, eY_1, eS_0, eS_1, eS_2, eS_3, eS_4, eS_5, List.length_map, i_inj, b_inj, s_inj, eC_eq, eU_eq, eW_eq, eY_eq, eS_eq, rng64, List.take_succ_cons, List.take_zero, List.nil_append, List.cons_append, decide_true, decide_false, Bool.or_true, true_and, and_true, eR_0]; omega, ?_⟩
  -- the wakes
  rw [go_loop]
  refine ⟨fun st => ∃ k : Nat, k ≤ s.wk.length ∧ st = [.i k, .r ((r.cs ++ wkCs s k).map eC)], fun st => s.wk.length - (st.getD 0 .u).int.toNat, ⟨0, Nat.zero_le _, ?_⟩, ?_⟩
  · simp [X.evs, X.ev, evl, eR_0, D.rs, wkCs]
  rintro st - ⟨k, hk, rfl⟩
  have hwl := wkCs_len s k
  rw [go_br]
  refine ⟨fun hlt => ?_, fun hlt => ?_⟩
  · have hkl : k < s.wk.length := by simpa [X.ev, evl, eS_3, D.int, D.rs, D.tt] using hlt
    simp only [q00, go_br, q02, q04, allSay, X.says, X.ev, X.evs, evl, tblS, List.getD_cons_zero, List.getD_cons_succ, List.getElem?_cons_zero, List.getElem?_cons_succ, tt_b, int_i, str_s, rs_r, Option.isSome_some, Option.getD_some, decide_eq_true_eq, decide_eq_false_iff_not, dS_eS, dC_eC, dU_eU, dW_eW, dY_eY, eC_0, eC_1, eU_0, eU_1, eW_0, eW_1, eW_2, eY_0, eY_1, eS_0, eS_1, eS_2, eS_3, eS_4, eS_5, List.length_map, i_inj, b_inj, s_inj, eC_eq, eU_eq, eW_eq, eY_eq, eS_eq, rng64, List.take_succ_cons, List.take_zero, List.nil_append, List.cons_append, decide_true, decide_false, Bool.or_true, true_and, and_true, get_n eW hkl, List.length_append, List.map_append]
    refine ⟨⟨by omega, by omega⟩, by omega, ⟨by omega, by omega⟩, ?_⟩
    rw [updB, if_pos rfl]
    refine ⟨⟨k + 1, hkl, ?_⟩, by simp [D.int]; omega⟩
    rw [wkCs_succ hkl]
    simp
  have hkk : k = s.wk.length := by
    have : ¬ (k < s.wk.length) := by simpa [X.ev, evl, eS_3, D.int, D.rs, D.tt] using hlt
    omega
  subst hkk
  have hroots : r.cs ++ wkCs s s.wk.length = rootsC s r := by unfold wkCs rootsC; rw [List.take_length]
  rw [hroots]
  -- the stack
  rw [go_loop]
  refine ⟨fun st => ∃ (W : List Nat) (T : List Ce) (m : Nat), m ≤ 200000 ∧ st = [.r (W.map eN), .r (T.map eC)] ∧ PJ s r (fun _ => False) W T m, fun st => (st.getD 1 .u).rs.length + potW s ((st.getD 0 .u).rs.map dN), ⟨_, _, _, ?_, ?_, start_pj hv⟩, ?_⟩
  · have h1 := pot_le s (List.replicate (s.cs.length / 64 + 1) 0)
    have h2 := roots_len s r
    have h3 : s.cs.length * (1 + s.tr.length) ≤ 300 * 301 := Nat.mul_le_mul z1 (by omega)
    omega
  · simp only [q00, go_br, q02, q04, allSay, X.says, X.ev, X.evs, evl, tblS, List.getD_cons_zero, List.getD_cons_succ, List.getElem?_cons_zero, List.getElem?_cons_succ, tt_b, int_i, str_s, rs_r, Option.isSome_some, Option.getD_some, decide_eq_true_eq, decide_eq_false_iff_not, dS_eS, dC_eC, dU_eU, dW_eW, dY_eY, eC_0, eC_1, eU_0, eU_1, eW_0, eW_1, eW_2, eY_0, eY_1, eS_0, eS_1, eS_2, eS_3, eS_4, eS_5, List.length_map, i_inj, b_inj, s_inj, eC_eq, eU_eq, eW_eq, eY_eq, eS_eq, rng64, List.take_succ_cons, List.take_zero, List.nil_append, List.cons_append, decide_true, decide_false, Bool.or_true, true_and, and_true, f8_6, hn1, Int.toNat_natCast, hrep]
  rintro st - ⟨W, T, m, hm, rfl, hP⟩
  have hmu : ∀ (W' : List Nat) (T' : List Ce) (m' : Nat), PJ s r (fun _ => False) W' T' m' → m' < m → (([.r (W'.map eN), .r (T'.map eC)] : List D).getD 1 .u).rs.length + potW s ((([.r (W'.map eN), .r (T'.map eC)] : List D).getD 0 .u).rs.map dN) < (([.r (W.map eN), .r (T.map eC)] : List D).getD 1 .u).rs.length + potW s ((([.r (W.map eN), .r (T.map eC)] : List D).getD 0 .u).rs.map dN) := fun W' T' m' h' hlt => by
    simp only [List.getD_cons_zero, List.getD_cons_succ, rs_r, List.length_map, mN]
    have := h'.wt
    have := hP.wt
    omega
  rw [go_br]
  refine ⟨fun hlt => ?_, fun hlt => ?_⟩
  · have hT : 0 < T.length := by
      simp only [q00, go_br, q02, q04, allSay, X.says, X.ev, X.evs, evl, tblS, List.getD_cons_zero, List.getD_cons_succ, List.getElem?_cons_zero, List.getElem?_cons_succ, tt_b, int_i, str_s, rs_r, Option.isSome_some, Option.getD_some, decide_eq_true_eq, decide_eq_false_iff_not, dS_eS, dC_eC, dU_eU, dW_eW, dY_eY, eC_0, eC_1, eU_0, eU_1, eW_0, eW_1, eW_2, eY_0, eY_1, eS_0, eS_1, eS_2, eS_3, eS_4, eS_5, List.length_map, i_inj, b_inj, s_inj, eC_eq, eU_eq, eW_eq, eY_eq, eS_eq, rng64, List.take_succ_cons, List.take_zero, List.nil_append, List.cons_append, decide_true, decide_false, Bool.or_true, true_and, and_true] at hlt
      omega
    obtain ⟨T0, c, rfl⟩ : ∃ T0 c, T = T0 ++ [c] := ⟨T.dropLast, T.getLast (fun e => by rw [e] at hT; simp at hT), (List.dropLast_concat_getLast _).symm⟩
    obtain ⟨hP', hm0⟩ := hP.pop
    obtain ⟨hcg, hcr⟩ := hP.good c (by simp)
    have hTm : T0.length ≤ m := by have := hP'.wt; omega
    have hTl : ((T0.map eC ++ [eC c]).length : Int) - 1 = (T0.length : Nat) := by simp
    have hpop : (D.r (T0.map eC ++ [eC c])).get ((T0.length : Nat) : Int) = eC c := by
      show (T0.map eC ++ [eC c]).getD ((T0.length : Nat) : Int).toNat .u = eC c
      rw [Int.toNat_natCast, List.getD_eq_getElem?_getD, List.getElem?_append_right (by simp)]
      simp
    have hcut : ((T0.map eC ++ [eC c]).take T0.length).drop 0 = T0.map eC := by
      rw [List.drop_zero, ← List.length_map (f := eC), List.take_left]
    have hBk : ∀ (B0 : Nat → List D → Prop) W' T', PJ s r (fun _ => False) W' T' (m - 1) → updB B0 16 (fun st' => (∃ (W : List Nat) (T : List Ce) (m : Nat), m ≤ 200000 ∧ st' = [.r (W.map eN), .r (T.map eC)] ∧ PJ s r (fun _ => False) W T m) ∧ (st'.getD 1 .u).rs.length + potW s ((st'.getD 0 .u).rs.map dN) < (([.r (W.map eN), .r ((T0 ++ [c]).map eC)] : List D).getD 1 .u).rs.length + potW s ((([.r (W.map eN), .r ((T0 ++ [c]).map eC)] : List D).getD 0 .u).rs.map dN)) 16 [.r (W'.map eN), .r (T'.map eC)] := fun B0 W' T' h' => by
      rw [updB, if_pos rfl]
      exact ⟨⟨W', T', m - 1, by omega, rfl, h'⟩, hmu W' T' (m - 1) h' (by omega)⟩
    have hlen1 : (T0 ++ [c]).length = T0.length + 1 := by simp
    rw [q00]
    refine ⟨by simp only [q00, go_br, q02, q04, allSay, X.says, X.ev, X.evs, evl, tblS, List.getD_cons_zero, List.getD_cons_succ, List.getElem?_cons_zero, List.getElem?_cons_succ, tt_b, int_i, str_s, rs_r, Option.isSome_some, Option.getD_some, decide_eq_true_eq, decide_eq_false_iff_not, dS_eS, dC_eC, dU_eU, dW_eW, dY_eY, eC_0, eC_1, eU_0, eU_1, eW_0, eW_1, eW_2, eY_0, eY_1, eS_0, eS_1, eS_2, eS_3, eS_4, eS_5, List.length_map, i_inj, b_inj, s_inj, eC_eq, eU_eq, eW_eq, eY_eq, eS_eq, rng64, List.take_succ_cons, List.take_zero, List.nil_append, List.cons_append, decide_true, decide_false, Bool.or_true, true_and, and_true, List.map_append, List.map_cons, List.map_nil, hTl]; simp only [List.length_append, List.length_map, List.length_singleton]; omega, ?_⟩
    rw [q00]
    refine ⟨by simp only [q00, go_br, q02, q04, allSay, X.says, X.ev, X.evs, evl, tblS, List.getD_cons_zero, List.getD_cons_succ, List.getElem?_cons_zero, List.getElem?_cons_succ, tt_b, int_i, str_s, rs_r, Option.isSome_some, Option.getD_some, decide_eq_true_eq, decide_eq_false_iff_not, dS_eS, dC_eC, dU_eU, dW_eW, dY_eY, eC_0, eC_1, eU_0, eU_1, eW_0, eW_1, eW_2, eY_0, eY_1, eS_0, eS_1, eS_2, eS_3, eS_4, eS_5, List.length_map, i_inj, b_inj, s_inj, eC_eq, eU_eq, eW_eq, eY_eq, eS_eq, rng64, List.take_succ_cons, List.take_zero, List.nil_append, List.cons_append, decide_true, decide_false, Bool.or_true, true_and, and_true, List.map_append, List.map_cons, List.map_nil, hTl]; simp only [List.length_append, List.length_map, List.length_singleton]; omega, ?_⟩
    have hxp : ∀ rest : List D, (xPop.ev (evl (tblS [(q0e, gVis)]) ([eS s, eR r, .i ((s.wk.length : Nat) : Int), .r ((rootsC s r).map eC), .r (W.map eN), .r ((T0 ++ [c]).map eC)] ++ rest))) = eC c := fun rest => by
      simp only [q00, go_br, q02, q04, allSay, X.says, X.ev, X.evs, evl, tblS, List.getD_cons_zero, List.getD_cons_succ, List.getElem?_cons_zero, List.getElem?_cons_succ, tt_b, int_i, str_s, rs_r, Option.isSome_some, Option.getD_some, decide_eq_true_eq, decide_eq_false_iff_not, dS_eS, dC_eC, dU_eU, dW_eW, dY_eY, eC_0, eC_1, eU_0, eU_1, eW_0, eW_1, eW_2, eY_0, eY_1, eS_0, eS_1, eS_2, eS_3, eS_4, eS_5, List.length_map, i_inj, b_inj, s_inj, eC_eq, eU_eq, eW_eq, eY_eq, eS_eq, rng64, List.take_succ_cons, List.take_zero, List.nil_append, List.cons_append, decide_true, decide_false, Bool.or_true, true_and, and_true, List.map_append, List.map_cons, List.map_nil, hTl, hpop]
    have hxp0 := hxp []
    simp only [List.append_nil] at hxp0
    have key : ∀ (q : Nat) (x0 : X), x0 = .fld xPop q → x0.ev (evl (tblS [(q0e, gVis)]) [eS s, eR r, .i ((s.wk.length : Nat) : Int), .r ((rootsC s r).map eC), .r (W.map eN), .r ((T0 ++ [c]).map eC)]) = (eC c).fld q := fun q x0 h => by
      subst h
      show (xPop.ev _).fld q = _
      rw [hxp0]
    have htag : (X.ev (evl (tblS [(q0e, gVis)]) [eS s, eR r, .i ((s.wk.length : Nat) : Int), .r ((rootsC s r).map eC), .r (W.map eN), .r ((T0 ++ [c]).map eC)]) (.fld xPop 0)) = .i c.t := key 0 _ rfl
    have hbr : ∀ n : Int, (X.ev (evl (tblS [(q0e, gVis)]) [eS s, eR r, .i ((s.wk.length : Nat) : Int), .r ((rootsC s r).map eC), .r (W.map eN), .r ((T0 ++ [c]).map eC)]) (.eq (.fld xPop 0) (.lit (.i n)))).tt = decide (c.t = n) := fun n => by
      show (D.b (decide ((X.ev _ (.fld xPop 0)) = D.i n))).tt = _
      rw [htag, tt_b]
      simp
    have hinT : ∀ (bnd : X) (B0 : Nat → List D → Prop), cntS s c ≤ 300 → (∀ st : List D, bnd.ev (evl (tblS [(q0e, gVis)]) ([eS s, eR r, .i ((s.wk.length : Nat) : Int), .r ((rootsC s r).map eC), .r (W.map eN), .r ((T0 ++ [c]).map eC)] ++ st)) = .i (cntS s c : Nat)) → (∀ W' T', PJ s r (fun _ => False) W' T' (m - 1) → B0 16 [.r (W'.map eN), .r (T'.map eC)]) → (inT bnd).go (tblS [(q0e, gVis)]) (fun o => o = [.r ((wordsOf (s.cs.length / 64 + 1) (Mk s r)).map eN)]) [eS s, eR r, .i ((s.wk.length : Nat) : Int), .r ((rootsC s r).map eC), .r (W.map eN), .r ((T0 ++ [c]).map eC)] B0 := fun bnd B0 _ hb hB => in_ok hv z1 z3 (by omega) hP' hcg hcr hb hB
    simp only [List.take_succ_cons, List.take_zero, List.cons_append, List.nil_append]
    rw [go_br]
    refine ⟨fun h0 => ?_, fun h0 => ?_⟩
    · have h0 : c.t = 0 := of_decide_eq_true ((hbr 0).symm.trans h0)
      have hcnt : cntS s c = 1 := if_pos h0
      rw [q00]
      refine ⟨by simp only [q00, go_br, q02, q04, allSay, X.says, X.ev, X.evs, evl, tblS, List.getD_cons_zero, List.getD_cons_succ, List.getElem?_cons_zero, List.getElem?_cons_succ, tt_b, int_i, str_s, rs_r, Option.isSome_some, Option.getD_some, decide_eq_true_eq, decide_eq_false_iff_not, dS_eS, dC_eC, dU_eU, dW_eW, dY_eY, eC_0, eC_1, eU_0, eU_1, eW_0, eW_1, eW_2, eY_0, eY_1, eS_0, eS_1, eS_2, eS_3, eS_4, eS_5, List.length_map, i_inj, b_inj, s_inj, eC_eq, eU_eq, eW_eq, eY_eq, eS_eq, rng64, List.take_succ_cons, List.take_zero, List.nil_append, List.cons_append, decide_true, decide_false, Bool.or_true, true_and, and_true]; omega, ?_⟩
      exact hinT (.lit (.i 1)) _ (by omega) (fun st => by rw [hcnt]; rfl) (hBk _)
    · have h0 : ¬ c.t = 0 := of_decide_eq_false ((hbr 0).symm.trans h0)
      rw [go_br]
      refine ⟨fun h3 => ?_, fun h3 => ?_⟩
      · have h3 : c.t = 3 := of_decide_eq_true ((hbr 3).symm.trans h3)
        obtain ⟨b1, b2⟩ := hcg.b (.inr (.inl h3))
        obtain ⟨y1, y2, y3⟩ := hcg.y h3
        have hcnt : cntS s c = (s.ys.getD (cellAt s c.n).n.toNat default).ar.toNat + 1 := by rw [cntS, if_neg h0, if_pos h3]
        have hin : inS s c.n = true := inS_iff.2 ⟨b1, by omega⟩
        have hcell := cell_get hin
        have hsy := ar_get (s := s) ⟨y1, y2⟩
        rw [q00]
        refine ⟨?_, ?_⟩
        · simp only [q00, go_br, q02, q04, allSay, X.says, X.ev, X.evs, evl, tblS, List.getD_cons_zero, List.getD_cons_succ, List.getElem?_cons_zero, List.getElem?_cons_succ, tt_b, int_i, str_s, rs_r, Option.isSome_some, Option.getD_some, decide_eq_true_eq, decide_eq_false_iff_not, dS_eS, dC_eC, dU_eU, dW_eW, dY_eY, eC_0, eC_1, eU_0, eU_1, eW_0, eW_1, eW_2, eY_0, eY_1, eS_0, eS_1, eS_2, eS_3, eS_4, eS_5, List.length_map, i_inj, b_inj, s_inj, eC_eq, eU_eq, eW_eq, eY_eq, eS_eq, rng64, List.take_succ_cons, List.take_zero, List.nil_append, List.cons_append, decide_true, decide_false, Bool.or_true, true_and, and_true, List.map_append, List.map_cons, List.map_nil, hTl, hpop, hcell]
          omega
        rw [q00]
        refine ⟨?_, ?_⟩
        · simp only [q00, go_br, q02, q04, allSay, X.says, X.ev, X.evs, evl, tblS, List.getD_cons_zero, List.getD_cons_succ, List.getElem?_cons_zero, List.getElem?_cons_succ, tt_b, int_i, str_s, rs_r, Option.isSome_some, Option.getD_some, decide_eq_true_eq, decide_eq_false_iff_not, dS_eS, dC_eC, dU_eU, dW_eW, dY_eY, eC_0, eC_1, eU_0, eU_1, eW_0, eW_1, eW_2, eY_0, eY_1, eS_0, eS_1, eS_2, eS_3, eS_4, eS_5, List.length_map, i_inj, b_inj, s_inj, eC_eq, eU_eq, eW_eq, eY_eq, eS_eq, rng64, List.take_succ_cons, List.take_zero, List.nil_append, List.cons_append, decide_true, decide_false, Bool.or_true, true_and, and_true, List.map_append, List.map_cons, List.map_nil, hTl, hpop, hcell, hsy]
          omega
        refine hinT _ _ (by omega) (fun st => ?_) (hBk _)
        simp only [q00, go_br, q02, q04, allSay, X.says, X.ev, X.evs, evl, tblS, List.getD_cons_zero, List.getD_cons_succ, List.getElem?_cons_zero, List.getElem?_cons_succ, tt_b, int_i, str_s, rs_r, Option.isSome_some, Option.getD_some, decide_eq_true_eq, decide_eq_false_iff_not, dS_eS, dC_eC, dU_eU, dW_eW, dY_eY, eC_0, eC_1, eU_0, eU_1, eW_0, eW_1, eW_2, eY_0, eY_1, eS_0, eS_1, eS_2, eS_3, eS_4, eS_5, List.length_map, i_inj, b_inj, s_inj, eC_eq, eU_eq, eW_eq, eY_eq, eS_eq, rng64, List.take_succ_cons, List.take_zero, List.nil_append, List.cons_append, decide_true, decide_false, Bool.or_true, true_and, and_true, List.map_append, List.map_cons, List.map_nil, hTl, hpop, hcell, hsy, hcnt]
        congr 1
        omega
      · have h3 : ¬ c.t = 3 := of_decide_eq_false ((hbr 3).symm.trans h3)
        rw [go_br]
        refine ⟨fun h5 => ?_, fun h5 => ?_⟩
        · have h5 : c.t = 5 := of_decide_eq_true ((hbr 5).symm.trans h5)
          have hcnt : cntS s c = 3 := by rw [cntS, if_neg h0, if_neg h3, if_pos h5]
          rw [q00]
          refine ⟨by simp only [q00, go_br, q02, q04, allSay, X.says, X.ev, X.evs, evl, tblS, List.getD_cons_zero, List.getD_cons_succ, List.getElem?_cons_zero, List.getElem?_cons_succ, tt_b, int_i, str_s, rs_r, Option.isSome_some, Option.getD_some, decide_eq_true_eq, decide_eq_false_iff_not, dS_eS, dC_eC, dU_eU, dW_eW, dY_eY, eC_0, eC_1, eU_0, eU_1, eW_0, eW_1, eW_2, eY_0, eY_1, eS_0, eS_1, eS_2, eS_3, eS_4, eS_5, List.length_map, i_inj, b_inj, s_inj, eC_eq, eU_eq, eW_eq, eY_eq, eS_eq, rng64, List.take_succ_cons, List.take_zero, List.nil_append, List.cons_append, decide_true, decide_false, Bool.or_true, true_and, and_true]; omega, ?_⟩
          exact hinT (.lit (.i 3)) _ (by omega) (fun st => by rw [hcnt]; rfl) (hBk _)
        · have h5 : ¬ c.t = 5 := of_decide_eq_false ((hbr 5).symm.trans h5)
          have hcnt : cntS s c = 0 := by rw [cntS, if_neg h0, if_neg h3, if_neg h5]
          rw [q04]
          have he : X.evs (evl (tblS [(q0e, gVis)]) [eS s, eR r, .i ((s.wk.length : Nat) : Int), .r ((rootsC s r).map eC), .r (W.map eN), .r ((T0 ++ [c]).map eC)]) [(.tok 4), (.cut (.tok 5) (.lit (.i 0)) (.sub (.len (.tok 5)) (.lit (.i 1))))] = [.r (W.map eN), .r (T0.map eC)] := by
            simp only [q00, go_br, q02, q04, allSay, X.says, X.ev, X.evs, evl, tblS, List.getD_cons_zero, List.getD_cons_succ, List.getElem?_cons_zero, List.getElem?_cons_succ, tt_b, int_i, str_s, rs_r, Option.isSome_some, Option.getD_some, decide_eq_true_eq, decide_eq_false_iff_not, dS_eS, dC_eC, dU_eU, dW_eW, dY_eY, eC_0, eC_1, eU_0, eU_1, eW_0, eW_1, eW_2, eY_0, eY_1, eS_0, eS_1, eS_2, eS_3, eS_4, eS_5, List.length_map, i_inj, b_inj, s_inj, eC_eq, eU_eq, eW_eq, eY_eq, eS_eq, rng64, List.take_succ_cons, List.take_zero, List.nil_append, List.cons_append, decide_true, decide_false, Bool.or_true, true_and, and_true, List.map_append, List.map_cons, List.map_nil, hTl, Int.toNat_natCast, Int.toNat_zero, hcut]
          rw [he]
          exact hBk _ W T0 (hP'.drop hcnt)
  · have hT : T = [] := by
      simp only [q00, go_br, q02, q04, allSay, X.says, X.ev, X.evs, evl, tblS, List.getD_cons_zero, List.getD_cons_succ, List.getElem?_cons_zero, List.getElem?_cons_succ, tt_b, int_i, str_s, rs_r, Option.isSome_some, Option.getD_some, decide_eq_true_eq, decide_eq_false_iff_not, dS_eS, dC_eC, dU_eU, dW_eW, dY_eY, eC_0, eC_1, eU_0, eU_1, eW_0, eW_1, eW_2, eY_0, eY_1, eS_0, eS_1, eS_2, eS_3, eS_4, eS_5, List.length_map, i_inj, b_inj, s_inj, eC_eq, eU_eq, eW_eq, eY_eq, eS_eq, rng64, List.take_succ_cons, List.take_zero, List.nil_append, List.cons_append, decide_true, decide_false, Bool.or_true, true_and, and_true] at hlt
      exact List.eq_nil_of_length_eq_zero (by omega)
    subst hT
    simp only [q00, go_br, q02, q04, allSay, X.says, X.ev, X.evs, evl, tblS, List.getD_cons_zero, List.getD_cons_succ, List.getElem?_cons_zero, List.getElem?_cons_succ, tt_b, int_i, str_s, rs_r, Option.isSome_some, Option.getD_some, decide_eq_true_eq, decide_eq_false_iff_not, dS_eS, dC_eC, dU_eU, dW_eW, dY_eY, eC_0, eC_1, eU_0, eU_1, eW_0, eW_1, eW_2, eY_0, eY_1, eS_0, eS_1, eS_2, eS_3, eS_4, eS_5, List.length_map, i_inj, b_inj, s_inj, eC_eq, eU_eq, eW_eq, eY_eq, eS_eq, rng64, List.take_succ_cons, List.take_zero, List.nil_append, List.cons_append, decide_true, decide_false, Bool.or_true, true_and, and_true]
    rw [hP.done hv]
end Go.Proofs.Ytmebmpgffhajbaa


namespace Go.Proofs.Ytmebmpgffhajbaa
open Go.RowKit
set_option linter.unusedVariables false
set_option linter.unusedSimpArgs false

def bq (on : List Bool) (x : Nat) : Bool := on.getD x false
def cntF (on : List Bool) : Nat := (on.filter fun b => !b).length
def markF (s : So) : Nat → List Bool → Nat → Option (List Bool)
  | 0, on, a => if bq on a then some on else none
  | f + 1, on, a => if bq on a then some on else (List.range (cntS s (cellAt s (a : Nat)))).foldlM (fun on j => markF s f on ((cellAt s (a : Nat)).n.toNat + j)) (on.set a true)
def reachF (s : So) (f : Nat) (on : List Bool) (c : Ce) : Option (List Bool) := (List.range (cntS s c)).foldlM (fun on j => markF s f on (c.n.toNat + j)) on

structure Ext (s : So) (on on' : List Bool) : Prop where
  len : on'.length = on.length
  mono : ∀ x, bq on x = true → bq on' x = true
  clo : ∀ y, bq on' y = true → bq on y = false → ∀ x ∈ tgS s (cellAt s (y : Nat)), bq on' x = true
theorem Ext.refl (s : So) (on : List Bool) : Ext s on on := ⟨rfl, fun _ h => h, fun y h h' => by rw [h] at h'; cases h'⟩
theorem Ext.trans {s : So} {a b c : List Bool} (h : Ext s a b) (k : Ext s b c) : Ext s a c :=
  ⟨k.len.trans h.len, fun x hx => k.mono x (h.mono x hx), fun y hy hn x hx => by
    cases hb : bq b y with
    | true => exact k.mono x (h.clo y hb hn x hx)
    | false => exact k.clo y hy hb x hx⟩
def Snd (s : So) (on on' : List Bool) (l : List Nat) : Prop := ∀ G : Nat → Prop, (∀ y, G y → ∀ x ∈ tgS s (cellAt s (y : Nat)), G x) → (∀ a ∈ l, G a) → (∀ x, bq on x = true → G x) → ∀ x, bq on' x = true → G x

theorem bq_set {on : List Bool} {a x : Nat} (ha : a < on.length) : bq (on.set a true) x = (bq on x || decide (x = a)) := by
  unfold bq
  by_cases h : x = a
  · subst h
    simp [List.getD_eq_getElem?_getD, ha]
  · simp only [List.getD_eq_getElem?_getD, List.getElem?_set_ne (fun e => h e.symm)]
    simp [h]
theorem cntF_cons (b : Bool) (l : List Bool) : cntF (b :: l) = (if b then 0 else 1) + cntF l := by
  cases b <;> simp [cntF]
  omega
theorem cntF_set : ∀ {on : List Bool} {a : Nat}, a < on.length → bq on a = false → cntF on = cntF (on.set a true) + 1
  | [], a, h, _ => by simp at h
  | b :: l, 0, h, hb => by
    have hb : b = false := hb
    subst hb
    simp [cntF_cons]
    omega
  | b :: l, a + 1, h, hb => by
    have := cntF_set (on := l) (a := a) (by simpa using h) hb
    simp only [List.set_cons_succ, cntF_cons]
    omega
theorem cntF_mono : ∀ {a b : List Bool}, b.length = a.length → (∀ x, bq a x = true → bq b x = true) → cntF b ≤ cntF a
  | [], [], _, _ => Nat.le_refl _
  | x :: a, y :: b, hl, h => by
    have h1 := cntF_mono (a := a) (b := b) (by simpa using hl) fun z hz => h (z + 1) hz
    have h0 : x = true → y = true := h 0
    simp only [cntF_cons]
    cases x with
    | true => rw [h0 rfl]; simpa using h1
    | false => cases y <;> simp <;> omega
  | [], _ :: _, hl, _ => by simp at hl
  | _ :: _, [], hl, _ => by simp at hl
theorem Ext.cnt {s : So} {a b : List Bool} (h : Ext s a b) : cntF b ≤ cntF a := cntF_mono h.len h.mono

theorem foldM_snoc {f : List Bool → Nat → Option (List Bool)} {j : Nat} {on : List Bool} : (List.range (j + 1)).foldlM f on = ((List.range j).foldlM f on).bind fun on => f on j := by
  rw [List.range_succ, List.foldlM_append]
  simp only [List.foldlM_cons, List.foldlM_nil, bind, Option.bind]
  cases (List.range j).foldlM f on with
  | none => rfl
  | some x => simp [Option.bind]; cases f x j <;> rfl

theorem markF_ok {s : So} (hv : ∀ i : Nat, i < s.cs.length → Gce s (cellAt s (i : Nat))) : ∀ (f : Nat) {on : List Bool} {a : Nat}, on.length = s.cs.length → cntF on ≤ f → a < s.cs.length → ∃ on', markF s f on a = some on' ∧ Ext s on on' ∧ bq on' a = true ∧ Snd s on on' [a] := by
  intro f
  induction f with
  | zero =>
    intro on a hl hf ha
    cases hb : bq on a with
    | true => exact ⟨on, by unfold markF; rw [if_pos hb], .refl s on, hb, fun G _ _ h => h⟩
    | false =>
      have := cntF_set (by omega) hb
      omega
  | succ f ih =>
    intro on a hl hf ha
    unfold markF
    cases hb : bq on a with
    | true => exact ⟨on, by simp, .refl s on, hb, fun G _ _ h => h⟩
    | false =>
      simp only [Bool.false_eq_true, if_false]
      have hal : a < on.length := by omega
      have hc := cntF_set hal hb
      have hcell := hv a ha
      have hset : ∀ x, bq (on.set a true) x = (bq on x || decide (x = a)) := fun x => bq_set hal
      -- the addresses in turn
      have key : ∀ m, m ≤ cntS s (cellAt s (a : Nat)) → ∃ on', (List.range m).foldlM (fun on j => markF s f on ((cellAt s (a : Nat)).n.toNat + j)) (on.set a true) = some on' ∧ Ext s (on.set a true) on' ∧ (∀ i, i < m → bq on' ((cellAt s (a : Nat)).n.toNat + i) = true) ∧ Snd s (on.set a true) on' ((List.range m).map ((cellAt s (a : Nat)).n.toNat + ·)) := by
        intro m
        induction m with
        | zero => intro _; exact ⟨_, rfl, .refl s _, fun i hi => absurd hi (Nat.not_lt_zero _), fun G _ _ h => h⟩
        | succ m ihm =>
          intro hm
          obtain ⟨on1, h1, h2, h3, h4⟩ := ihm (by omega)
          have hlt := tg_lt hcell (tg_mem.2 ⟨m, by omega, rfl⟩)
          obtain ⟨on2, k1, k2, k3, k4⟩ := ih (on := on1) (a := (cellAt s (a : Nat)).n.toNat + m) (by rw [h2.len, List.length_set]; exact hl) (by have := h2.cnt; omega) hlt
          refine ⟨on2, by rw [foldM_snoc, h1]; exact k1, h2.trans k2, fun i hi => ?_, fun G hG hl hx => k4 G hG (fun z hz => ?_) (h4 G hG (fun z hz => hl z ?_) hx)⟩
          · by_cases h : i < m
            · exact k2.mono _ (h3 i h)
            · obtain rfl : i = m := by omega
              exact k3
          · rw [List.mem_singleton] at hz
            subst hz
            exact hl _ (List.mem_map.2 ⟨m, List.mem_range.2 (by omega), rfl⟩)
          · obtain ⟨i, hi, rfl⟩ := List.mem_map.1 hz
            exact List.mem_map.2 ⟨i, List.mem_range.2 (by have := List.mem_range.1 hi; omega), rfl⟩
      obtain ⟨on', h1, h2, h3, h4⟩ := key _ (Nat.le_refl _)
      refine ⟨on', h1, ⟨by rw [h2.len, List.length_set], fun x hx => h2.mono x (by rw [hset, hx]; rfl), fun y hy hn x hx => ?_⟩, h2.mono a (by rw [hset]; simp), fun G hG hl hx => h4 G hG (fun z hz => ?_) fun x hx' => ?_⟩
      · by_cases hya : y = a
        · subst hya
          obtain ⟨i, hi, rfl⟩ := tg_mem.1 hx
          exact h3 i hi
        · exact h2.clo y hy (by rw [hset, hn]; simp [hya]) x hx
      · obtain ⟨i, hi, rfl⟩ := List.mem_map.1 hz
        exact hG a (hl a (by simp)) _ (tg_mem.2 ⟨i, List.mem_range.1 hi, rfl⟩)
      · rw [hset, Bool.or_eq_true, decide_eq_true_eq] at hx'
        rcases hx' with h | rfl
        · exact hx x h
        · exact hl _ (by simp)

theorem reachF_ok {s : So} (hv : ∀ i : Nat, i < s.cs.length → Gce s (cellAt s (i : Nat))) {f : Nat} {on : List Bool} {c : Ce} (hl : on.length = s.cs.length) (hf : cntF on ≤ f) (hc : Gce s c) : ∀ m, m ≤ cntS s c → ∃ on', (List.range m).foldlM (fun on j => markF s f on (c.n.toNat + j)) on = some on' ∧ Ext s on on' ∧ (∀ i, i < m → bq on' (c.n.toNat + i) = true) ∧ Snd s on on' (tgS s c) := by
  intro m
  induction m with
  | zero => intro _; exact ⟨_, rfl, .refl s _, fun i hi => absurd hi (Nat.not_lt_zero _), fun G _ _ h => h⟩
  | succ m ihm =>
    intro hm
    obtain ⟨on1, h1, h2, h3, h4⟩ := ihm (by omega)
    have hlt := tg_lt hc (tg_mem.2 ⟨m, by omega, rfl⟩)
    obtain ⟨on2, k1, k2, k3, k4⟩ := markF_ok hv f (on := on1) (a := c.n.toNat + m) (by rw [h2.len]; exact hl) (by have := h2.cnt; omega) hlt
    refine ⟨on2, by rw [foldM_snoc, h1]; exact k1, h2.trans k2, fun i hi => ?_, fun G hG hl hx => k4 G hG (fun z hz => ?_) (h4 G hG hl hx)⟩
    · by_cases h : i < m
      · exact k2.mono _ (h3 i h)
      · obtain rfl : i = m := by omega
        exact k3
    · rw [List.mem_singleton] at hz
      subst hz
      exact hl _ (tg_mem.2 ⟨m, by omega, rfl⟩)

def eM (s : So) (on : List Bool) : D := .a [eS s, .r (on.map D.b)]
def dOn (d : D) : List Bool := (d.fld 1).rs.map D.tt
theorem dOn_eM (s : So) (on : List Bool) : dOn (eM s on) = on := by
  show (on.map D.b).map D.tt = on
  exact map_id' (fun _ => tt_b _) on
theorem eM_0 (s : So) (on : List Bool) : (eM s on).fld 0 = eS s := rfl
def Gc5 (s : So) (c : Ce) : Prop := Gce s c ∧ 0 ≤ c.t ∧ c.t ≤ 5
def VC (s : So) : Prop := ∀ i : Nat, i < s.cs.length → Gc5 s (cellAt s (i : Nat))
def QM (s : So) (on : List Bool) : Prop := VC s ∧ s.cs.length ≤ 300 ∧ on.length = s.cs.length
open Classical in
noncomputable def gMR : List D → Option (List D)
  | [d, c] => if QM (dS (d.fld 0)) (dOn d) ∧ Gc5 (dS (d.fld 0)) (dC c) then (reachF (dS (d.fld 0)) (cntF (dOn d)) (dOn d) (dC c)).map fun on => [eM (dS (d.fld 0)) on] else none
  | _ => none
theorem gMR_at {s : So} {on on' : List Bool} {c : Ce} (hv : QM s on) (hc : Gc5 s c) (h : reachF s (cntF on) on c = some on') : gMR [eM s on, eC c] = some [eM s on'] := by
  have hQ : QM (dS ((eM s on).fld 0)) (dOn (eM s on)) ∧ Gc5 (dS ((eM s on).fld 0)) (dC (eC c)) := by
    rw [eM_0, dS_eS, dOn_eM]
    exact ⟨hv, hc⟩
  simp only [gMR]
  rw [if_pos hQ, eM_0, dS_eS, dOn_eM, dC_eC, h]
  rfl
end Go.Proofs.Ytmebmpgffhajbaa


namespace Go.Proofs.Ytmebmpgffhajbaa
open Go.RowKit
set_option linter.unusedVariables false
set_option linter.unusedSimpArgs false

end Go.Proofs.Ytmebmpgffhajbaa


namespace Go.Proofs.Ytmebmpgffhajbaa
open Go.RowKit
set_option linter.unusedVariables false
set_option linter.unusedSimpArgs false

noncomputable def onOf (s : So) (r : Ro) : List Bool := (List.range s.cs.length).map (Mk s r)
theorem VC.of {s : So} (h : validR s = true) : VC s := fun i hi => by
  have hin : inS s (i : Nat) = true := inS_iff.2 ⟨by omega, by omega⟩
  exact ⟨gce_cell h hin, (validR_vs h).tag _ hin⟩
structure JS (s : So) (r : Ro) (on : List Bool) : Prop where
  len : on.length = s.cs.length
  sound : ∀ x, bq on x = true → Rch s r x
  clo : ∀ y, bq on y = true → ∀ x ∈ tgS s (cellAt s (y : Nat)), bq on x = true
theorem JS.step {s : So} {r : Ro} {on : List Bool} (hv : VC s) (h : JS s r on) {c : Ce} (hc : Gc5 s c) (hr : ∀ x ∈ tgS s c, Rch s r x) :
    ∃ on', reachF s (cntF on) on c = some on' ∧ JS s r on' ∧ (∀ x, bq on x = true → bq on' x = true) ∧ ∀ x ∈ tgS s c, bq on' x = true := by
  obtain ⟨on', h1, h2, h3, h4⟩ := reachF_ok (fun i hi => (hv i hi).1) h.len (Nat.le_refl _) hc.1 (cntS s c) (Nat.le_refl _)
  refine ⟨on', h1, ⟨h2.len.trans h.len, h4 _ (fun y hy x hx => .cell hy hx) hr h.sound, fun y hy x hx => ?_⟩, h2.mono, fun x hx => ?_⟩
  · cases hb : bq on y with
    | true => exact h2.mono x (h.clo y hb x hx)
    | false => exact h2.clo y hy hb x hx
  · obtain ⟨i, hi, rfl⟩ := tg_mem.1 hx
    exact h3 i hi
theorem JS.call {s : So} {r : Ro} {on on' : List Bool} {c : Ce} (hv : VC s) (hs : s.cs.length ≤ 300) (h : JS s r on) (hc : Gc5 s c) (hr : reachF s (cntF on) on c = some on') : gMR [eM s on, eC c] = some [eM s on'] := gMR_at ⟨hv, hs, h.len⟩ hc hr

theorem oldsS_mem {s : So} {y : Nat} {c : Ce} (h : c ∈ oldsS s y) : ∃ i, i < s.tr.length ∧ (s.tr.getD i default).at' = (y : Int) ∧ c = (s.tr.getD i default).old := by
  obtain ⟨u, hu, rfl⟩ := List.mem_map.1 h
  obtain ⟨h1, h2⟩ := List.mem_filter.1 hu
  obtain ⟨i, hi, rfl⟩ := List.mem_iff_getElem.1 h1
  have e : s.tr.getD i default = s.tr[i] := by simp [List.getD_eq_getElem?_getD, hi]
  exact ⟨i, hi, by rw [e]; simpa using h2, by rw [e]⟩

structure JD (s : So) (r : Ro) (done on : List Bool) : Prop where
  js : JS s r on
  root : ∀ c ∈ rootsC s r, ∀ x ∈ tgS s c, bq on x = true
  dl : done.length = s.tr.length
  ds : ∀ i, bq done i = true → ∀ x ∈ tgS s (s.tr.getD i default).old, bq on x = true
def Rest (s : So) (done on : List Bool) (k : Nat) : Prop := ∀ i, i < k → bq done i = true ∨ bq on (s.tr.getD i default).at'.toNat = false

theorem JD.done {s : So} {r : Ro} (hv : VG s r) {done on : List Bool} (h : JD s r done on) (hr : Rest s done on s.tr.length) : on = onOf s r := by
  refine List.ext_getElem (by rw [h.js.len, onOf, List.length_map, List.length_range]) fun i h1 h2 => ?_
  have e : (onOf s r)[i] = Mk s r i := by simp [onOf]
  have e1 : bq on i = on[i] := by simp [bq, List.getD_eq_getElem?_getD, h1]
  rw [e, ← e1, Bool.eq_iff_iff, Mk_iff]
  refine ⟨h.js.sound i, fun hi => Rch.of_closed (P := fun x => bq on x = true) h.root h.js.clo (fun y hy c hc x hx => ?_) hi⟩
  obtain ⟨j, hj, hat, rfl⟩ := oldsS_mem hc
  rcases hr j hj with hd | hd
  · exact h.ds j hd x hx
  · rw [hat, Int.toNat_natCast, hy] at hd
    cases hd

end Go.Proofs.Ytmebmpgffhajbaa


namespace Go.Proofs.Ytmebmpgffhajbaa
open Go.RowKit
set_option linter.unusedVariables false
set_option linter.unusedSimpArgs false

theorem acc1_ok {S : Nat → List D → Option (List D)} {R : List D → Prop} {id n : Nat} {x1 : X} {body : Tree} {l : List D} {B : Nat → List D → Prop} (N : Nat) (F : Nat → D) (h0 : x1.ev (evl S l) = F 0)
    (h : ∀ (k : Nat) (B' : Nat → List D → Prop), k ≤ N → (k < N → B' id [F (k + 1), .i ((k : Int) + 1)]) → (∀ j, j ≠ id → B' j = B j) → body.go S R (l.take n ++ [F k, .i k]) B') : (Tree.loop id n [x1, .lit (.i 0)] body).go S R l B := by
  rw [go_loop]
  refine ⟨fun st => ∃ k : Nat, k ≤ N ∧ st = [F k, .i k], fun st => N - (st.getD 1 .u).int.toNat, ⟨0, Nat.zero_le _, by simp [X.evs, X.ev, h0]⟩, ?_⟩
  rintro st - ⟨k, hk, rfl⟩
  refine h k _ hk (fun hlt => ?_) fun j hj => by rw [updB, if_neg hj]
  rw [updB, if_pos rfl]
  refine ⟨⟨k + 1, hlt, by simp⟩, ?_⟩
  simp [D.int]
  omega
theorem acc2_ok {S : Nat → List D → Option (List D)} {R : List D → Prop} {id n : Nat} {x1 : X} {body : Tree} {l : List D} {B : Nat → List D → Prop} (N : Nat) (F : Nat → D) (h0 : x1.ev (evl S l) = F 0)
    (h : ∀ (k : Nat) (B' : Nat → List D → Prop), k ≤ N → (k < N → B' id [.i ((k : Int) + 1), F (k + 1)]) → (∀ j, j ≠ id → B' j = B j) → body.go S R (l.take n ++ [.i k, F k]) B') : (Tree.loop id n [.lit (.i 0), x1] body).go S R l B := by
  rw [go_loop]
  refine ⟨fun st => ∃ k : Nat, k ≤ N ∧ st = [.i k, F k], fun st => N - (st.getD 0 .u).int.toNat, ⟨0, Nat.zero_le _, by simp [X.evs, X.ev, h0]⟩, ?_⟩
  rintro st - ⟨k, hk, rfl⟩
  refine h k _ hk (fun hlt => ?_) fun j hj => by rw [updB, if_neg hj]
  rw [updB, if_pos rfl]
  refine ⟨⟨k + 1, hlt, by simp⟩, ?_⟩
  simp [D.int]
  omega

def bef (f : Nat → Bool) : Nat → Nat
  | 0 => 0
  | a + 1 => bef f a + if f a then 1 else 0
theorem bef_le (f : Nat → Bool) (a : Nat) : bef f a ≤ a := by
  induction a with
  | zero => exact Nat.le_refl _
  | succ a ih => unfold bef; split <;> omega
def mvC (f : Nat → Bool) (c : Ce) : Ce := if c.t = 0 ∨ c.t = 3 ∨ c.t = 5 then ⟨c.t, (bef f c.n.toNat : Nat)⟩ else c
def mvQ (n : Nat) (c : Ce) : Prop := c.t = 0 ∨ c.t = 3 ∨ c.t = 5 → 0 ≤ c.n ∧ c.n ≤ n
def heapF (f : Nat → Bool) (s : So) (k : Nat) : List Ce := ((List.range k).filter f).map fun i => mvC f (cellAt s (i : Nat))
def onTr (f : Nat → Bool) (u : Un) : Bool := f u.at'.toNat
def mvU (f : Nat → Bool) (u : Un) : Un := ⟨(bef f u.at'.toNat : Nat), mvC f u.old⟩
def trailF (f : Nat → Bool) (s : So) (k : Nat) : List Un := ((s.tr.take k).filter (onTr f)).map (mvU f)
def mvW (f : Nat → Bool) (w : Wk) : Wk := ⟨w.ser, mvC f w.att, mvC f w.val⟩
def keptF (f : Nat → Bool) (s : So) (k : Nat) : Nat := ((s.tr.take k).filter (onTr f)).length
def colS (f : Nat → Bool) (s : So) : So := { s with cs := heapF f s s.cs.length, tr := trailF f s s.tr.length, wk := s.wk.map (mvW f) }
def colR (f : Nat → Bool) (s : So) (r : Ro) : Ro := ⟨r.cs.map (mvC f), r.tp.map fun t => ((bef f t.toNat : Nat) : Int), r.ms.map fun t => ((keptF f s t.toNat : Nat) : Int)⟩

theorem heapF_succ (f : Nat → Bool) (s : So) (k : Nat) : heapF f s (k + 1) = heapF f s k ++ if f k then [mvC f (cellAt s (k : Nat))] else [] := by
  unfold heapF
  rw [List.range_succ, List.filter_append, List.map_append]
  congr 1
  cases h : f k <;> simp [h]
theorem heapF_len (f : Nat → Bool) (s : So) (k : Nat) : (heapF f s k).length = bef f k := by
  induction k with
  | zero => rfl
  | succ k ih =>
    rw [heapF_succ, List.length_append, ih, bef]
    split <;> simp
theorem keptF_succ {f : Nat → Bool} {s : So} {k : Nat} (h : k < s.tr.length) : keptF f s (k + 1) = keptF f s k + if onTr f (s.tr.getD k default) then 1 else 0 := by
  unfold keptF
  rw [take_snoc h, List.filter_append, List.length_append]
  congr 1
  generalize s.tr.getD k default = u
  cases h : onTr f u <;> simp [h]
theorem keptF_le (f : Nat → Bool) (s : So) (k : Nat) : keptF f s k ≤ k := by
  unfold keptF
  refine Nat.le_trans (List.length_filter_le _ _) ?_
  exact List.length_take_le _ _
theorem trailF_succ {f : Nat → Bool} {s : So} {k : Nat} (h : k < s.tr.length) : trailF f s (k + 1) = trailF f s k ++ if onTr f (s.tr.getD k default) then [mvU f (s.tr.getD k default)] else [] := by
  unfold trailF
  rw [take_snoc h, List.filter_append, List.map_append]
  congr 1
  generalize s.tr.getD k default = u
  cases h : onTr f u <;> simp [h]
theorem trailF_len (f : Nat → Bool) (s : So) (k : Nat) : (trailF f s k).length = keptF f s k := by
  unfold trailF keptF
  rw [List.length_map]

def gBef : List D → Option (List D)
  | [.r on, .i a] => if decide (0 ≤ a) && (decide (a ≤ on.length) && decide (on.length ≤ 300)) then some [.i (bef (bq (on.map D.tt)) a.toNat : Nat)] else none
  | _ => none
theorem gBef_at {on : List Bool} {a : Nat} (h : a ≤ on.length) (h3 : on.length ≤ 300) : gBef [.r (on.map D.b), .i (a : Int)] = some [.i (bef (bq on) a : Nat)] := by
  simp only [gBef, List.length_map, map_id' (fun _ => tt_b _), Int.toNat_natCast]
  rw [if_pos (by simp only [Bool.and_eq_true, decide_eq_true_eq]; omega)]
theorem tag3 {c : Ce} : (decide (c.t = 0) || decide (c.t = 3) || decide (c.t = 5)) = decide (c.t = 0 ∨ c.t = 3 ∨ c.t = 5) := by
  by_cases h0 : c.t = 0 <;> by_cases h3 : c.t = 3 <;> by_cases h5 : c.t = 5 <;> simp [h0, h3, h5]
end Go.Proofs.Ytmebmpgffhajbaa


namespace Go.Proofs.Ytmebmpgffhajbaa
open Go.RowKit
set_option linter.unusedVariables false
set_option linter.unusedSimpArgs false

noncomputable def gLive : List D → Option (List D)
  | [s, r] => if smallB (dS s) (dR r) then some (if okR validR vcR (dS s) (dR r) then [.i (bef (Mk (dS s) (dR r)) (dS s).cs.length : Nat), .i 0] else [.i 0, .i 1]) else none
  | _ => none
noncomputable def gCol : List D → Option (List D)
  | [s, r] => if smallB (dS s) (dR r) then some (if okR validR vcR (dS s) (dR r) then [.i 0, eS (colS (Mk (dS s) (dR r)) (dS s)), eR (colR (Mk (dS s) (dR r)) (dS s) (dR r))] else [.i 1, eS (dS s), eR (dR r)]) else none
  | _ => none
theorem Mk_lt {s : So} {r : Ro} (hv : VG s r) {i : Nat} (h : Mk s r i = true) : i < s.cs.length := (Mk_iff.1 h).lt hv
theorem bq_on {s : So} {r : Ro} (hv : VG s r) : bq (onOf s r) = Mk s r := by
  funext i
  unfold bq onOf
  rw [List.getD_eq_getElem?_getD, List.getElem?_map]
  rcases Nat.lt_or_ge i s.cs.length with h | h
  · rw [List.getElem?_range h]
    rfl
  · rw [List.getElem?_eq_none (by simpa using h)]
    cases hm : Mk s r i with
    | false => rfl
    | true => have := Mk_lt hv hm; omega
theorem on_len (s : So) (r : Ro) : (onOf s r).length = s.cs.length := by simp [onOf]
theorem Gce.mv {s : So} {c : Ce} (h : Gce s c) : mvQ s.cs.length c := fun ht => by
  have := h.b ht
  omega
structure GcQ (s : So) (r : Ro) : Prop where
  ok : okR validR vcR s r = true
  sm : smallB s r = true
theorem GcQ.vg {s : So} {r : Ro} (h : GcQ s r) : VG s r := vg_of h.ok
theorem GcQ.bef {s : So} {r : Ro} (h : GcQ s r) {a : Nat} (ha : a ≤ s.cs.length) : gBef [.r ((onOf s r).map D.b), .i (a : Int)] = some [.i (bef (Mk s r) a : Nat)] := by
  have := gBef_at (on := onOf s r) (a := a) (by rw [on_len]; exact ha) (by rw [on_len]; exact (small_parts h.sm).1)
  rw [bq_on h.vg] at this
  exact this

theorem take_map_succ {α β : Type} [Inhabited α] (g : α → β) {l : List α} {k : Nat} (h : k < l.length) : (l.take (k + 1)).map g = (l.take k).map g ++ [g (l.getD k default)] := by
  rw [take_snoc h, List.map_append]
  rfl
theorem app_if {α : Type} (l : List α) (e : α → D) (b : Bool) (x : α) (hb : b = true) : (l ++ if b then [x] else []).map e = l.map e ++ [e x] := by
  rw [hb, if_pos rfl, List.map_append]
  rfl
theorem app_if0 {α : Type} (l : List α) (e : α → D) (b : Bool) (x : α) (hb : b = false) : (l ++ if b then [x] else []).map e = l.map e := by
  rw [hb, if_neg (by decide), List.append_nil]

end Go.Proofs.Ytmebmpgffhajbaa


namespace Go.Proofs.Ytmebmpgffhajbaa
open Go.RowKit
set_option linter.unusedVariables false
set_option linter.unusedSimpArgs false

theorem acc3_ok {S : Nat → List D → Option (List D)} {R : List D → Prop} {id n : Nat} {x1 x2 : X} {body : Tree} {l : List D} {B : Nat → List D → Prop} (N : Nat) (F G : Nat → D) (h0 : x1.ev (evl S l) = F 0) (h1 : x2.ev (evl S l) = G 0)
    (h : ∀ (k : Nat) (B' : Nat → List D → Prop), k ≤ N → (k < N → B' id [F (k + 1), .i ((k : Int) + 1), G (k + 1)]) → (∀ j, j ≠ id → B' j = B j) → body.go S R (l.take n ++ [F k, .i k, G k]) B') : (Tree.loop id n [x1, .lit (.i 0), x2] body).go S R l B := by
  rw [go_loop]
  refine ⟨fun st => ∃ k : Nat, k ≤ N ∧ st = [F k, .i k, G k], fun st => N - (st.getD 1 .u).int.toNat, ⟨0, Nat.zero_le _, by simp [X.evs, X.ev, h0, h1]⟩, ?_⟩
  rintro st - ⟨k, hk, rfl⟩
  refine h k _ hk (fun hlt => ?_) fun j hj => by rw [updB, if_neg hj]
  rw [updB, if_pos rfl]
  refine ⟨⟨k + 1, hlt, by simp⟩, ?_⟩
  simp [D.int]
  omega

noncomputable def wdOf (s : So) (r : Ro) : List Nat := wordsOf (s.cs.length / 64 + 1) (Mk s r)
theorem GcQ.mark {s : So} {r : Ro} (h : GcQ s r) : gMark [eS s, eR r] = some [.r ((wdOf s r).map eN)] := by
  simp only [gMark, dS_eS, dR_eR, h.ok, h.sm, Bool.and_self, if_true]
  rfl
theorem GcQ.has {s : So} {r : Ro} (h : GcQ s r) {a : Nat} (ha : a < s.cs.length) : gHas [.r ((wdOf s r).map eN), .i (a : Int)] = some [.b (Mk s r a)] := by
  have hl : (wdOf s r).length = s.cs.length / 64 + 1 := words_len _ _
  have h2 : a / 64 < s.cs.length / 64 + 1 := by omega
  simp only [gHas, mN, List.length_map, hl, Int.toNat_natCast, h2, decide_true, Bool.and_true, show decide ((0 : Int) ≤ (a : Int)) = true from decide_eq_true (by omega), if_true]
  rw [wdOf, words_bit h2]

theorem ok_gc_Live : FOk q12 gLive := fok_gc_Live ok_gc_Valid ok_gc_mark q2k fun ds outs hw hg => by
  obtain ⟨s, r, rfl, hs, hr⟩ := sr_of hw
  simp only [gLive, dS_eS, dR_eR, Option.ite_none_right_eq_some, Option.some.injEq] at hg
  obtain ⟨hsm, rfl⟩ := hg
  obtain ⟨z1, z2, z3, z4, z5, z6, z7⟩ := small_parts hsm
  rw [q2o, q00]
  refine ⟨by simp only [q00, go_br, q02, q04, allSay, X.says, X.ev, X.evs, evl, tblS, List.getD_cons_zero, List.getD_cons_succ, List.getElem?_cons_zero, List.getElem?_cons_succ, tt_b, int_i, str_s, rs_r, Option.isSome_some, Option.getD_some, decide_eq_true_eq, decide_eq_false_iff_not, dS_eS, dC_eC, dU_eU, dW_eW, dY_eY, eC_0, eC_1, eU_0, eU_1, eW_0, eW_1, eW_2, eY_0, eY_1, eS_0, eS_1, eS_2, eS_3, eS_4, eS_5, List.length_map, i_inj, b_inj, s_inj, eC_eq, eU_eq, eW_eq, eY_eq, eS_eq, rng64, List.take_succ_cons, List.take_zero, List.nil_append, List.cons_append, decide_true, decide_false, Bool.or_true, true_and, and_true, gSRb], ?_⟩
  rw [go_br]
  simp only [X.ev, X.evs, evl, tblS, List.getD_cons_zero, List.getElem?_cons_zero, gSRb, dS_eS, dR_eR, tt_b, Option.getD_some, List.getD_cons_succ, okR_eq]
  refine ⟨fun hb => ?_, fun hb => ?_⟩
  · have hok : okR validR vcR s r = false := by simpa using hb
    simp only [q00, go_br, q02, q04, allSay, X.says, X.ev, X.evs, evl, tblS, List.getD_cons_zero, List.getD_cons_succ, List.getElem?_cons_zero, List.getElem?_cons_succ, tt_b, int_i, str_s, rs_r, Option.isSome_some, Option.getD_some, decide_eq_true_eq, decide_eq_false_iff_not, dS_eS, dC_eC, dU_eU, dW_eW, dY_eY, eC_0, eC_1, eU_0, eU_1, eW_0, eW_1, eW_2, eY_0, eY_1, eS_0, eS_1, eS_2, eS_3, eS_4, eS_5, List.length_map, i_inj, b_inj, s_inj, eC_eq, eU_eq, eW_eq, eY_eq, eS_eq, rng64, List.take_succ_cons, List.take_zero, List.nil_append, List.cons_append, decide_true, decide_false, Bool.or_true, true_and, and_true, hok, Bool.false_eq_true, if_false]
  · have hok : okR validR vcR s r = true := by simpa using hb
    have hc : GcQ s r := ⟨hok, hsm⟩
    have hmk := hc.mark
    simp only [hok, if_true]
    rw [q00]
    refine ⟨by simp only [q00, go_br, q02, q04, allSay, X.says, X.ev, X.evs, evl, tblS, List.getD_cons_zero, List.getD_cons_succ, List.getElem?_cons_zero, List.getElem?_cons_succ, tt_b, int_i, str_s, rs_r, Option.isSome_some, Option.getD_some, decide_eq_true_eq, decide_eq_false_iff_not, dS_eS, dC_eC, dU_eU, dW_eW, dY_eY, eC_0, eC_1, eU_0, eU_1, eW_0, eW_1, eW_2, eY_0, eY_1, eS_0, eS_1, eS_2, eS_3, eS_4, eS_5, List.length_map, i_inj, b_inj, s_inj, eC_eq, eU_eq, eW_eq, eY_eq, eS_eq, rng64, List.take_succ_cons, List.take_zero, List.nil_append, List.cons_append, decide_true, decide_false, Bool.or_true, true_and, and_true, hmk], ?_⟩
    refine acc1_ok s.cs.length (fun k => .i (bef (Mk s r) k : Nat)) rfl fun k B' hk hB _ => ?_
    have hbl := bef_le (Mk s r) k
    rw [go_br]
    refine ⟨fun hlt => ?_, fun hlt => ?_⟩
    · have hkl : k < s.cs.length := by simpa [X.ev, evl, eS_0, D.int, D.rs, D.tt] using hlt
      have hhas := hc.has hkl
      have hs2 := hB hkl
      unfold bef at hs2
      rw [q00]
      refine ⟨by simp only [q00, go_br, q02, q04, allSay, X.says, X.ev, X.evs, evl, tblS, List.getD_cons_zero, List.getD_cons_succ, List.getElem?_cons_zero, List.getElem?_cons_succ, tt_b, int_i, str_s, rs_r, Option.isSome_some, Option.getD_some, decide_eq_true_eq, decide_eq_false_iff_not, dS_eS, dC_eC, dU_eU, dW_eW, dY_eY, eC_0, eC_1, eU_0, eU_1, eW_0, eW_1, eW_2, eY_0, eY_1, eS_0, eS_1, eS_2, eS_3, eS_4, eS_5, List.length_map, i_inj, b_inj, s_inj, eC_eq, eU_eq, eW_eq, eY_eq, eS_eq, rng64, List.take_succ_cons, List.take_zero, List.nil_append, List.cons_append, decide_true, decide_false, Bool.or_true, true_and, and_true, hmk, hhas], ?_⟩
      rw [go_br]
      simp only [X.ev, X.evs, evl, tblS, List.take_succ_cons, List.take_zero, List.cons_append, List.nil_append, List.getD_cons_succ, List.getD_cons_zero, List.getElem?_cons_zero, List.getElem?_cons_succ, hmk, Option.getD_some, hhas, tt_b]
      refine ⟨fun hf1 => ?_, fun hf1 => ?_⟩
      · rw [hf1, if_pos rfl] at hs2
        simp only [q00, go_br, q02, q04, allSay, X.says, X.ev, X.evs, evl, tblS, List.getD_cons_zero, List.getD_cons_succ, List.getElem?_cons_zero, List.getElem?_cons_succ, tt_b, int_i, str_s, rs_r, Option.isSome_some, Option.getD_some, decide_eq_true_eq, decide_eq_false_iff_not, dS_eS, dC_eC, dU_eU, dW_eW, dY_eY, eC_0, eC_1, eU_0, eU_1, eW_0, eW_1, eW_2, eY_0, eY_1, eS_0, eS_1, eS_2, eS_3, eS_4, eS_5, List.length_map, i_inj, b_inj, s_inj, eC_eq, eU_eq, eW_eq, eY_eq, eS_eq, rng64, List.take_succ_cons, List.take_zero, List.nil_append, List.cons_append, decide_true, decide_false, Bool.or_true, true_and, and_true]
        refine ⟨⟨by omega, by omega⟩, ⟨by omega, by omega⟩, ?_⟩
        exact_mod_cast hs2
      · rw [hf1] at hs2
        simp only [q00, go_br, q02, q04, allSay, X.says, X.ev, X.evs, evl, tblS, List.getD_cons_zero, List.getD_cons_succ, List.getElem?_cons_zero, List.getElem?_cons_succ, tt_b, int_i, str_s, rs_r, Option.isSome_some, Option.getD_some, decide_eq_true_eq, decide_eq_false_iff_not, dS_eS, dC_eC, dU_eU, dW_eW, dY_eY, eC_0, eC_1, eU_0, eU_1, eW_0, eW_1, eW_2, eY_0, eY_1, eS_0, eS_1, eS_2, eS_3, eS_4, eS_5, List.length_map, i_inj, b_inj, s_inj, eC_eq, eU_eq, eW_eq, eY_eq, eS_eq, rng64, List.take_succ_cons, List.take_zero, List.nil_append, List.cons_append, decide_true, decide_false, Bool.or_true, true_and, and_true]
        refine ⟨⟨by omega, by omega⟩, ?_⟩
        exact_mod_cast hs2
    · have hkk : k = s.cs.length := by
        have : ¬ (k < s.cs.length) := by simpa [X.ev, evl, eS_0, D.int, D.rs, D.tt] using hlt
        omega
      subst hkk
      simp only [q00, go_br, q02, q04, allSay, X.says, X.ev, X.evs, evl, tblS, List.getD_cons_zero, List.getD_cons_succ, List.getElem?_cons_zero, List.getElem?_cons_succ, tt_b, int_i, str_s, rs_r, Option.isSome_some, Option.getD_some, decide_eq_true_eq, decide_eq_false_iff_not, dS_eS, dC_eC, dU_eU, dW_eW, dY_eY, eC_0, eC_1, eU_0, eU_1, eW_0, eW_1, eW_2, eY_0, eY_1, eS_0, eS_1, eS_2, eS_3, eS_4, eS_5, List.length_map, i_inj, b_inj, s_inj, eC_eq, eU_eq, eW_eq, eY_eq, eS_eq, rng64, List.take_succ_cons, List.take_zero, List.nil_append, List.cons_append, decide_true, decide_false, Bool.or_true, true_and, and_true]

def toL (f : Nat → Nat) (n k : Nat) : List Int := (List.range (n + 1)).map fun i => if i ≤ k then (f i : Int) else 0
theorem toL_len (f : Nat → Nat) (n k : Nat) : (toL f n k).length = n + 1 := by simp [toL]
theorem toL_get {f : Nat → Nat} {n k i : Nat} (h : i < n + 1) : (toL f n k).getD i default = if i ≤ k then (f i : Int) else 0 := by
  unfold toL
  rw [List.getD_eq_getElem?_getD, List.getElem?_map, List.getElem?_range h]
  rfl
theorem toL_zero (f : Nat → Nat) (n : Nat) (h : f 0 = 0) : (toL f n 0).map D.i = List.replicate (n + 1) (.i 0) := by
  refine List.ext_getElem (by simp [toL]) fun i h1 h2 => ?_
  simp only [toL, List.map_map, List.getElem_map, List.getElem_range, Function.comp_def, List.getElem_replicate]
  congr 1
  split
  · obtain rfl : i = 0 := by omega
    rw [h]; rfl
  · rfl
theorem toL_set {f : Nat → Nat} {n k : Nat} (h : k < n) {v : Int} (hv : v = f (k + 1)) : (toL f n k).set (k + 1) v = toL f n (k + 1) := by
  subst hv
  refine List.ext_getElem (by simp [toL]) fun i h1 h2 => ?_
  simp only [toL, List.getElem_set, List.getElem_map, List.getElem_range]
  by_cases hi : k + 1 = i
  · subst hi
    simp
  · rw [if_neg hi]
    by_cases h3 : i ≤ k
    · rw [if_pos h3, if_pos (by omega)]
    · rw [if_neg h3, if_neg (by omega)]

def gMove : List D → Option (List D)
  | [c, .r to] => if (if (dC c).t = 0 ∨ (dC c).t = 3 ∨ (dC c).t = 5 then decide (0 ≤ (dC c).n) && decide ((dC c).n < to.length) else true) then some [eC (if (dC c).t = 0 ∨ (dC c).t = 3 ∨ (dC c).t = 5 then ⟨(dC c).t, (to.map D.int).getD (dC c).n.toNat default⟩ else dC c)] else none
  | _ => none
theorem ok_gc_Collect_1 : FOk q0y gMove := fok_gc_Collect_1 fun ds outs hw hg => by
  obtain ⟨d, r, rfl, hd, e, r', rfl, he, rfl⟩ := hw
  obtain ⟨c, rfl, hc⟩ := wfC hd
  obtain ⟨l, rfl, hl, hlc⟩ := wfIs he
  simp only [gMove, List.length_map, map_id' (fun _ => int_i _), dC_eC, Option.ite_none_right_eq_some, Option.some.injEq] at hg
  obtain ⟨hq, rfl⟩ := hg
  rw [q1l, go_br]
  simp only [q00, go_br, q02, q04, allSay, X.says, X.ev, X.evs, evl, tblS, List.getD_cons_zero, List.getD_cons_succ, List.getElem?_cons_zero, List.getElem?_cons_succ, tt_b, int_i, str_s, rs_r, Option.isSome_some, Option.getD_some, decide_eq_true_eq, decide_eq_false_iff_not, dS_eS, dC_eC, dU_eU, dW_eW, dY_eY, eC_0, eC_1, eU_0, eU_1, eW_0, eW_1, eW_2, eY_0, eY_1, eS_0, eS_1, eS_2, eS_3, eS_4, eS_5, List.length_map, i_inj, b_inj, s_inj, eC_eq, eU_eq, eW_eq, eY_eq, eS_eq, rng64, List.take_succ_cons, List.take_zero, List.nil_append, List.cons_append, decide_true, decide_false, Bool.or_true, true_and, and_true, tag3]
  refine ⟨fun ht => ?_, fun ht => ?_⟩
  · rw [if_pos ht, Bool.and_eq_true] at hq
    have hq : 0 ≤ c.n ∧ c.n < l.length := ⟨of_decide_eq_true hq.1, of_decide_eq_true hq.2⟩
    obtain ⟨a, ha⟩ := Int.eq_ofNat_of_zero_le hq.1
    have hg := get_i (l := l) (k := a) (by omega)
    rw [if_pos ht]
    rw [ha] at hq ⊢
    simp only [q00, go_br, q02, q04, allSay, X.says, X.ev, X.evs, evl, tblS, List.getD_cons_zero, List.getD_cons_succ, List.getElem?_cons_zero, List.getElem?_cons_succ, tt_b, int_i, str_s, rs_r, Option.isSome_some, Option.getD_some, decide_eq_true_eq, decide_eq_false_iff_not, dS_eS, dC_eC, dU_eU, dW_eW, dY_eY, eC_0, eC_1, eU_0, eU_1, eW_0, eW_1, eW_2, eY_0, eY_1, eS_0, eS_1, eS_2, eS_3, eS_4, eS_5, List.length_map, i_inj, b_inj, s_inj, eC_eq, eU_eq, eW_eq, eY_eq, eS_eq, rng64, List.take_succ_cons, List.take_zero, List.nil_append, List.cons_append, decide_true, decide_false, Bool.or_true, true_and, and_true, hg, Int.toNat_natCast]
    exact ⟨⟨by omega, by omega⟩, rfl⟩
  · rw [if_neg ht]
theorem gMove_at {f : Nat → Bool} {n : Nat} {c : Ce} (h : c.t = 0 ∨ c.t = 3 ∨ c.t = 5 → 0 ≤ c.n ∧ c.n ≤ n) : gMove [eC c, .r ((toL (bef f) n n).map D.i)] = some [eC (mvC f c)] := by
  simp only [gMove, List.length_map, map_id' (fun _ => int_i _), dC_eC, toL_len]
  by_cases ht : c.t = 0 ∨ c.t = 3 ∨ c.t = 5
  · obtain ⟨h0, h1⟩ := h ht
    rw [if_pos, if_pos ht, mvC, if_pos ht, toL_get (by omega), if_pos (by omega)]
    rw [if_pos ht, Bool.and_eq_true]
    exact ⟨decide_eq_true h0, decide_eq_true (by omega)⟩
  · rw [if_pos, if_neg ht, mvC, if_neg ht]
    rw [if_neg ht]

theorem eR_s0 (r : Ro) (l : List Ce) : D.a ((eR r).fs.set 0 (.r (l.map eC))) = eR { r with cs := l } := rfl
theorem eR_s1 (r : Ro) (l : List Int) : D.a ((eR r).fs.set 1 (.r (l.map D.i))) = eR { r with tp := l } := rfl
theorem eR_s2 (r : Ro) (l : List Int) : D.a ((eR r).fs.set 2 (.r (l.map D.i))) = eR { r with ms := l } := rfl

theorem ok_gc_Collect : FOk q0u gCol := fok_gc_Collect ok_gc_Collect_1 ok_gc_Valid ok_gc_mark q2k fun ds outs hw hg => by
  obtain ⟨s, r, rfl, hs, hr⟩ := sr_of hw
  simp only [gCol, dS_eS, dR_eR, Option.ite_none_right_eq_some, Option.some.injEq] at hg
  obtain ⟨hsm, rfl⟩ := hg
  rw [q1s, q00]
  refine ⟨by simp only [q00, go_br, q02, q04, allSay, X.says, X.ev, X.evs, evl, tblS, List.getD_cons_zero, List.getD_cons_succ, List.getElem?_cons_zero, List.getElem?_cons_succ, tt_b, int_i, str_s, rs_r, Option.isSome_some, Option.getD_some, decide_eq_true_eq, decide_eq_false_iff_not, dS_eS, dC_eC, dU_eU, dW_eW, dY_eY, eC_0, eC_1, eU_0, eU_1, eW_0, eW_1, eW_2, eY_0, eY_1, eS_0, eS_1, eS_2, eS_3, eS_4, eS_5, List.length_map, i_inj, b_inj, s_inj, eC_eq, eU_eq, eW_eq, eY_eq, eS_eq, rng64, List.take_succ_cons, List.take_zero, List.nil_append, List.cons_append, decide_true, decide_false, Bool.or_true, true_and, and_true, gSRb], ?_⟩
  rw [go_br]
  simp only [X.ev, X.evs, evl, tblS, List.getD_cons_zero, List.getElem?_cons_zero, List.getElem?_cons_succ, gSRb, dS_eS, dR_eR, tt_b, Option.getD_some, List.getD_cons_succ, okR_eq]
  refine ⟨fun hb => ?_, fun hb => ?_⟩
  · have hok : okR validR vcR s r = false := by simpa using hb
    simp only [q00, go_br, q02, q04, allSay, X.says, X.ev, X.evs, evl, tblS, List.getD_cons_zero, List.getD_cons_succ, List.getElem?_cons_zero, List.getElem?_cons_succ, tt_b, int_i, str_s, rs_r, Option.isSome_some, Option.getD_some, decide_eq_true_eq, decide_eq_false_iff_not, dS_eS, dC_eC, dU_eU, dW_eW, dY_eY, eC_0, eC_1, eU_0, eU_1, eW_0, eW_1, eW_2, eY_0, eY_1, eS_0, eS_1, eS_2, eS_3, eS_4, eS_5, List.length_map, i_inj, b_inj, s_inj, eC_eq, eU_eq, eW_eq, eY_eq, eS_eq, rng64, List.take_succ_cons, List.take_zero, List.nil_append, List.cons_append, decide_true, decide_false, Bool.or_true, true_and, and_true, hok, Bool.false_eq_true, if_false]
  have hok : okR validR vcR s r = true := by simpa using hb
  have hc : GcQ s r := ⟨hok, hsm⟩
  have hv := hc.vg
  obtain ⟨z1, z2, z3, z4, z5, z6, z7⟩ := small_parts hsm
  obtain ⟨hval, hvr, htp, hms⟩ := okR_parts hok
  have hmk := hc.mark
  have hhas : ∀ a, a < s.cs.length → gHas [.r ((wdOf s r).map eN), .i ((a : Nat) : Int)] = some [.b (Mk s r a)] := fun a h => hc.has h
  simp only [hok, if_true]
  generalize hf : Mk s r = f at *
  have hmov : ∀ c, Gce s c → gMove [eC c, .r ((toL (bef f) s.cs.length s.cs.length).map D.i)] = some [eC (mvC f c)] := fun c h => gMove_at fun ht => h.mv ht
  have hold : ∀ i, i < s.tr.length → Gce s (s.tr.getD i default).old ∧ 0 ≤ (s.tr.getD i default).at' ∧ (s.tr.getD i default).at' < s.cs.length := fun i hi => by
    have := hv.old _ (getD_mem hi)
    exact ⟨this.2.2, this.1, this.2.1⟩
  have hrep : ∀ n : Nat, ((n : Int) + 1).toNat = n + 1 := fun n => by omega
  rw [q00]
  refine ⟨by simp only [q00, go_br, q02, q04, allSay, X.says, X.ev, X.evs, evl, tblS, List.getD_cons_zero, List.getD_cons_succ, List.getElem?_cons_zero, List.getElem?_cons_succ, tt_b, int_i, str_s, rs_r, Option.isSome_some, Option.getD_some, decide_eq_true_eq, decide_eq_false_iff_not, dS_eS, dC_eC, dU_eU, dW_eW, dY_eY, eC_0, eC_1, eU_0, eU_1, eW_0, eW_1, eW_2, eY_0, eY_1, eS_0, eS_1, eS_2, eS_3, eS_4, eS_5, List.length_map, i_inj, b_inj, s_inj, eC_eq, eU_eq, eW_eq, eY_eq, eS_eq, rng64, List.take_succ_cons, List.take_zero, List.nil_append, List.cons_append, decide_true, decide_false, Bool.or_true, true_and, and_true, hmk], ?_⟩
  rw [q00]
  refine ⟨by simp only [q00, go_br, q02, q04, allSay, X.says, X.ev, X.evs, evl, tblS, List.getD_cons_zero, List.getD_cons_succ, List.getElem?_cons_zero, List.getElem?_cons_succ, tt_b, int_i, str_s, rs_r, Option.isSome_some, Option.getD_some, decide_eq_true_eq, decide_eq_false_iff_not, dS_eS, dC_eC, dU_eU, dW_eW, dY_eY, eC_0, eC_1, eU_0, eU_1, eW_0, eW_1, eW_2, eY_0, eY_1, eS_0, eS_1, eS_2, eS_3, eS_4, eS_5, List.length_map, i_inj, b_inj, s_inj, eC_eq, eU_eq, eW_eq, eY_eq, eS_eq, rng64, List.take_succ_cons, List.take_zero, List.nil_append, List.cons_append, decide_true, decide_false, Bool.or_true, true_and, and_true]; omega, ?_⟩
  -- the new addresses
  refine acc2_ok s.cs.length (fun k => .r ((toL (bef f) s.cs.length k).map D.i)) ?_ fun k B' hk hB _ => ?_
  · simp only [q00, go_br, q02, q04, allSay, X.says, X.ev, X.evs, evl, tblS, List.getD_cons_zero, List.getD_cons_succ, List.getElem?_cons_zero, List.getElem?_cons_succ, tt_b, int_i, str_s, rs_r, Option.isSome_some, Option.getD_some, decide_eq_true_eq, decide_eq_false_iff_not, dS_eS, dC_eC, dU_eU, dW_eW, dY_eY, eC_0, eC_1, eU_0, eU_1, eW_0, eW_1, eW_2, eY_0, eY_1, eS_0, eS_1, eS_2, eS_3, eS_4, eS_5, List.length_map, i_inj, b_inj, s_inj, eC_eq, eU_eq, eW_eq, eY_eq, eS_eq, rng64, List.take_succ_cons, List.take_zero, List.nil_append, List.cons_append, decide_true, decide_false, Bool.or_true, true_and, and_true, hrep]
    rw [toL_zero _ _ rfl]
  have htl := toL_len (bef f) s.cs.length k
  rw [go_br]
  refine ⟨fun hlt => ?_, fun hlt => ?_⟩
  · have hkl : k < s.cs.length := by simpa [X.ev, evl, eS_0, D.int, D.rs, D.tt] using hlt
    have hget := get_i (l := toL (bef f) s.cs.length k) (k := k) (by omega)
    rw [toL_get (by omega), if_pos (Nat.le_refl _)] at hget
    have hs2 := hB hkl
    have hadd : (k : Int) + 1 = ((k + 1 : Nat) : Int) := by omega
    have hset : ∀ (l : List Int) (v : Int), (l.map D.i).set (k + 1) (D.i v) = (l.set (k + 1) v).map D.i := fun l v => by rw [List.map_set]
    have hg2 := get_i (l := (toL (bef f) s.cs.length k).set (k + 1) (bef f k : Nat)) (k := k + 1) (by rw [List.length_set]; omega)
    have hgs : ((toL (bef f) s.cs.length k).set (k + 1) (bef f k : Nat)).getD (k + 1) default = ((bef f k : Nat) : Int) := by
      rw [List.getD_eq_getElem?_getD, List.getElem?_set_self (by omega)]
      rfl
    rw [hgs] at hg2
    have hbl := bef_le f k
    have hh := hhas k hkl
    simp only [List.take_succ_cons, List.take_zero, List.cons_append, List.nil_append]
    rw [q00]
    refine ⟨by simp only [q00, go_br, q02, q04, allSay, X.says, X.ev, X.evs, evl, tblS, List.getD_cons_zero, List.getD_cons_succ, List.getElem?_cons_zero, List.getElem?_cons_succ, tt_b, int_i, str_s, rs_r, Option.isSome_some, Option.getD_some, decide_eq_true_eq, decide_eq_false_iff_not, dS_eS, dC_eC, dU_eU, dW_eW, dY_eY, eC_0, eC_1, eU_0, eU_1, eW_0, eW_1, eW_2, eY_0, eY_1, eS_0, eS_1, eS_2, eS_3, eS_4, eS_5, List.length_map, i_inj, b_inj, s_inj, eC_eq, eU_eq, eW_eq, eY_eq, eS_eq, rng64, List.take_succ_cons, List.take_zero, List.nil_append, List.cons_append, decide_true, decide_false, Bool.or_true, true_and, and_true]; omega, ?_⟩
    rw [q00]
    refine ⟨by simp only [q00, go_br, q02, q04, allSay, X.says, X.ev, X.evs, evl, tblS, List.getD_cons_zero, List.getD_cons_succ, List.getElem?_cons_zero, List.getElem?_cons_succ, tt_b, int_i, str_s, rs_r, Option.isSome_some, Option.getD_some, decide_eq_true_eq, decide_eq_false_iff_not, dS_eS, dC_eC, dU_eU, dW_eW, dY_eY, eC_0, eC_1, eU_0, eU_1, eW_0, eW_1, eW_2, eY_0, eY_1, eS_0, eS_1, eS_2, eS_3, eS_4, eS_5, List.length_map, i_inj, b_inj, s_inj, eC_eq, eU_eq, eW_eq, eY_eq, eS_eq, rng64, List.take_succ_cons, List.take_zero, List.nil_append, List.cons_append, decide_true, decide_false, Bool.or_true, true_and, and_true, hmk, hh], ?_⟩
    rw [go_br]
    simp only [X.ev, X.evs, evl, tblS, List.getD_cons_succ, List.getD_cons_zero, List.getElem?_cons_zero, List.getElem?_cons_succ, hmk, Option.getD_some, hh, tt_b]
    refine ⟨fun hf1 => ?_, fun hf1 => ?_⟩
    · have hbs : ((bef f k : Nat) : Int) + 1 = (bef f (k + 1) : Nat) := by rw [bef, hf1, if_pos rfl]; omega
      have hb2 := bef_le f (k + 1)
      have e2 : ((toL (bef f) s.cs.length k).set (k + 1) (bef f k : Nat)).set (k + 1) (bef f (k + 1) : Nat) = toL (bef f) s.cs.length (k + 1) := by rw [List.set_set]; exact toL_set hkl rfl
      rw [hadd] at hs2
      simp only [q00, go_br, q02, q04, allSay, X.says, X.ev, X.evs, evl, tblS, List.getD_cons_zero, List.getD_cons_succ, List.getElem?_cons_zero, List.getElem?_cons_succ, tt_b, int_i, str_s, rs_r, Option.isSome_some, Option.getD_some, decide_eq_true_eq, decide_eq_false_iff_not, dS_eS, dC_eC, dU_eU, dW_eW, dY_eY, eC_0, eC_1, eU_0, eU_1, eW_0, eW_1, eW_2, eY_0, eY_1, eS_0, eS_1, eS_2, eS_3, eS_4, eS_5, List.length_map, i_inj, b_inj, s_inj, eC_eq, eU_eq, eW_eq, eY_eq, eS_eq, rng64, List.take_succ_cons, List.take_zero, List.nil_append, List.cons_append, decide_true, decide_false, Bool.or_true, true_and, and_true, hadd, Int.toNat_natCast, hget, hset, hg2, hbs, e2, List.length_set]
      and_intros <;> first | omega | exact hs2
    · have hbs : bef f (k + 1) = bef f k := by rw [bef, hf1]; rfl
      have e2 : (toL (bef f) s.cs.length k).set (k + 1) (bef f k : Nat) = toL (bef f) s.cs.length (k + 1) := toL_set hkl (by rw [hbs])
      rw [hadd] at hs2
      simp only [q00, go_br, q02, q04, allSay, X.says, X.ev, X.evs, evl, tblS, List.getD_cons_zero, List.getD_cons_succ, List.getElem?_cons_zero, List.getElem?_cons_succ, tt_b, int_i, str_s, rs_r, Option.isSome_some, Option.getD_some, decide_eq_true_eq, decide_eq_false_iff_not, dS_eS, dC_eC, dU_eU, dW_eW, dY_eY, eC_0, eC_1, eU_0, eU_1, eW_0, eW_1, eW_2, eY_0, eY_1, eS_0, eS_1, eS_2, eS_3, eS_4, eS_5, List.length_map, i_inj, b_inj, s_inj, eC_eq, eU_eq, eW_eq, eY_eq, eS_eq, rng64, List.take_succ_cons, List.take_zero, List.nil_append, List.cons_append, decide_true, decide_false, Bool.or_true, true_and, and_true, hadd, Int.toNat_natCast, hget, hset, e2]
      and_intros <;> first | omega | exact hs2
  have hkk : k = s.cs.length := by
    have : ¬ (k < s.cs.length) := by simpa [X.ev, evl, eS_0, D.int, D.rs, D.tt] using hlt
    omega
  subst hkk
  simp only [List.take_succ_cons, List.take_zero, List.cons_append, List.nil_append]
  -- the cells
  refine acc1_ok s.cs.length (fun k => .r ((heapF f s k).map eC)) rfl fun k B' hk hB _ => ?_
  have hhl := heapF_len f s k
  have hbl := bef_le f k
  rw [go_br]
  refine ⟨fun hlt => ?_, fun hlt => ?_⟩
  · have hkl : k < s.cs.length := by simpa [X.ev, evl, eS_0, D.int, D.rs, D.tt] using hlt
    have hin : inS s (k : Nat) = true := inS_iff.2 ⟨by omega, by omega⟩
    have hcell := cell_get hin
    have hh := hhas k hkl
    have hs := hB hkl
    rw [heapF_succ] at hs
    simp only [List.take_succ_cons, List.take_zero, List.cons_append, List.nil_append]
    rw [q00]
    refine ⟨by simp only [q00, go_br, q02, q04, allSay, X.says, X.ev, X.evs, evl, tblS, List.getD_cons_zero, List.getD_cons_succ, List.getElem?_cons_zero, List.getElem?_cons_succ, tt_b, int_i, str_s, rs_r, Option.isSome_some, Option.getD_some, decide_eq_true_eq, decide_eq_false_iff_not, dS_eS, dC_eC, dU_eU, dW_eW, dY_eY, eC_0, eC_1, eU_0, eU_1, eW_0, eW_1, eW_2, eY_0, eY_1, eS_0, eS_1, eS_2, eS_3, eS_4, eS_5, List.length_map, i_inj, b_inj, s_inj, eC_eq, eU_eq, eW_eq, eY_eq, eS_eq, rng64, List.take_succ_cons, List.take_zero, List.nil_append, List.cons_append, decide_true, decide_false, Bool.or_true, true_and, and_true]; omega, ?_⟩
    rw [q00]
    refine ⟨by simp only [q00, go_br, q02, q04, allSay, X.says, X.ev, X.evs, evl, tblS, List.getD_cons_zero, List.getD_cons_succ, List.getElem?_cons_zero, List.getElem?_cons_succ, tt_b, int_i, str_s, rs_r, Option.isSome_some, Option.getD_some, decide_eq_true_eq, decide_eq_false_iff_not, dS_eS, dC_eC, dU_eU, dW_eW, dY_eY, eC_0, eC_1, eU_0, eU_1, eW_0, eW_1, eW_2, eY_0, eY_1, eS_0, eS_1, eS_2, eS_3, eS_4, eS_5, List.length_map, i_inj, b_inj, s_inj, eC_eq, eU_eq, eW_eq, eY_eq, eS_eq, rng64, List.take_succ_cons, List.take_zero, List.nil_append, List.cons_append, decide_true, decide_false, Bool.or_true, true_and, and_true, hmk, hh], ?_⟩
    rw [go_br]
    simp only [X.ev, X.evs, evl, tblS, List.getD_cons_succ, List.getD_cons_zero, List.getElem?_cons_zero, List.getElem?_cons_succ, hmk, Option.getD_some, hh, tt_b]
    refine ⟨fun hb => ?_, fun hb => ?_⟩
    · rw [app_if _ _ _ _ hb] at hs
      have := hmov _ (hv.cell k hkl)
      simp only [q00, go_br, q02, q04, allSay, X.says, X.ev, X.evs, evl, tblS, List.getD_cons_zero, List.getD_cons_succ, List.getElem?_cons_zero, List.getElem?_cons_succ, tt_b, int_i, str_s, rs_r, Option.isSome_some, Option.getD_some, decide_eq_true_eq, decide_eq_false_iff_not, dS_eS, dC_eC, dU_eU, dW_eW, dY_eY, eC_0, eC_1, eU_0, eU_1, eW_0, eW_1, eW_2, eY_0, eY_1, eS_0, eS_1, eS_2, eS_3, eS_4, eS_5, List.length_map, i_inj, b_inj, s_inj, eC_eq, eU_eq, eW_eq, eY_eq, eS_eq, rng64, List.take_succ_cons, List.take_zero, List.nil_append, List.cons_append, decide_true, decide_false, Bool.or_true, true_and, and_true, hmk, hcell, this]
      and_intros <;> first | omega | exact hs
    · rw [app_if0 _ _ _ _ hb] at hs
      simp only [q00, go_br, q02, q04, allSay, X.says, X.ev, X.evs, evl, tblS, List.getD_cons_zero, List.getD_cons_succ, List.getElem?_cons_zero, List.getElem?_cons_succ, tt_b, int_i, str_s, rs_r, Option.isSome_some, Option.getD_some, decide_eq_true_eq, decide_eq_false_iff_not, dS_eS, dC_eC, dU_eU, dW_eW, dY_eY, eC_0, eC_1, eU_0, eU_1, eW_0, eW_1, eW_2, eY_0, eY_1, eS_0, eS_1, eS_2, eS_3, eS_4, eS_5, List.length_map, i_inj, b_inj, s_inj, eC_eq, eU_eq, eW_eq, eY_eq, eS_eq, rng64, List.take_succ_cons, List.take_zero, List.nil_append, List.cons_append, decide_true, decide_false, Bool.or_true, true_and, and_true]
      and_intros <;> first | omega | exact hs
  have hkk : k = s.cs.length := by
    have : ¬ (k < s.cs.length) := by simpa [X.ev, evl, eS_0, D.int, D.rs, D.tt] using hlt
    omega
  subst hkk
  simp only [List.take_succ_cons, List.take_zero, List.cons_append, List.nil_append]
  rw [q00]
  refine ⟨by simp only [q00, go_br, q02, q04, allSay, X.says, X.ev, X.evs, evl, tblS, List.getD_cons_zero, List.getD_cons_succ, List.getElem?_cons_zero, List.getElem?_cons_succ, tt_b, int_i, str_s, rs_r, Option.isSome_some, Option.getD_some, decide_eq_true_eq, decide_eq_false_iff_not, dS_eS, dC_eC, dU_eU, dW_eW, dY_eY, eC_0, eC_1, eU_0, eU_1, eW_0, eW_1, eW_2, eY_0, eY_1, eS_0, eS_1, eS_2, eS_3, eS_4, eS_5, List.length_map, i_inj, b_inj, s_inj, eC_eq, eU_eq, eW_eq, eY_eq, eS_eq, rng64, List.take_succ_cons, List.take_zero, List.nil_append, List.cons_append, decide_true, decide_false, Bool.or_true, true_and, and_true]; omega, ?_⟩
  -- the trail
  refine acc3_ok s.tr.length (fun k => .r ((trailF f s k).map eU)) (fun k => .r ((toL (keptF f s) s.tr.length k).map D.i)) rfl ?_ fun k B' hk hB _ => ?_
  · simp only [q00, go_br, q02, q04, allSay, X.says, X.ev, X.evs, evl, tblS, List.getD_cons_zero, List.getD_cons_succ, List.getElem?_cons_zero, List.getElem?_cons_succ, tt_b, int_i, str_s, rs_r, Option.isSome_some, Option.getD_some, decide_eq_true_eq, decide_eq_false_iff_not, dS_eS, dC_eC, dU_eU, dW_eW, dY_eY, eC_0, eC_1, eU_0, eU_1, eW_0, eW_1, eW_2, eY_0, eY_1, eS_0, eS_1, eS_2, eS_3, eS_4, eS_5, List.length_map, i_inj, b_inj, s_inj, eC_eq, eU_eq, eW_eq, eY_eq, eS_eq, rng64, List.take_succ_cons, List.take_zero, List.nil_append, List.cons_append, decide_true, decide_false, Bool.or_true, true_and, and_true, hrep]
    rw [toL_zero _ _ rfl]
  have htl := toL_len (keptF f s) s.tr.length k
  have htrl := trailF_len f s k
  have hkl2 := keptF_le f s k
  have htl0 := toL_len (bef f) s.cs.length s.cs.length
  rw [go_br]
  refine ⟨fun hlt => ?_, fun hlt => ?_⟩
  · have hkl : k < s.tr.length := by simpa [X.ev, evl, eS_2, D.int, D.rs, D.tt] using hlt
    obtain ⟨ho, ha0, ha1⟩ := hold k hkl
    obtain ⟨b, hb⟩ := Int.eq_ofNat_of_zero_le ha0
    have hh := hhas b (by omega)
    have hs := hB hkl
    have hadd : (k : Int) + 1 = ((k + 1 : Nat) : Int) := by omega
    have hset : ∀ (l : List Int) (v : Int), (l.map D.i).set (k + 1) (D.i v) = (l.set (k + 1) v).map D.i := fun l v => by rw [List.map_set]
    have hks := keptF_succ (f := f) hkl
    rw [onTr, hb, Int.toNat_natCast] at hks
    rw [trailF_succ hkl, onTr, hb, Int.toNat_natCast] at hs
    have hgb := get_i (l := toL (bef f) s.cs.length s.cs.length) (k := b) (by omega)
    rw [toL_get (by omega), if_pos (by omega)] at hgb
    simp only [List.take_succ_cons, List.take_zero, List.cons_append, List.nil_append]
    rw [q00]
    refine ⟨by simp only [q00, go_br, q02, q04, allSay, X.says, X.ev, X.evs, evl, tblS, List.getD_cons_zero, List.getD_cons_succ, List.getElem?_cons_zero, List.getElem?_cons_succ, tt_b, int_i, str_s, rs_r, Option.isSome_some, Option.getD_some, decide_eq_true_eq, decide_eq_false_iff_not, dS_eS, dC_eC, dU_eU, dW_eW, dY_eY, eC_0, eC_1, eU_0, eU_1, eW_0, eW_1, eW_2, eY_0, eY_1, eS_0, eS_1, eS_2, eS_3, eS_4, eS_5, List.length_map, i_inj, b_inj, s_inj, eC_eq, eU_eq, eW_eq, eY_eq, eS_eq, rng64, List.take_succ_cons, List.take_zero, List.nil_append, List.cons_append, decide_true, decide_false, Bool.or_true, true_and, and_true, get_n eU hkl]; omega, ?_⟩
    rw [q00]
    refine ⟨by simp only [q00, go_br, q02, q04, allSay, X.says, X.ev, X.evs, evl, tblS, List.getD_cons_zero, List.getD_cons_succ, List.getElem?_cons_zero, List.getElem?_cons_succ, tt_b, int_i, str_s, rs_r, Option.isSome_some, Option.getD_some, decide_eq_true_eq, decide_eq_false_iff_not, dS_eS, dC_eC, dU_eU, dW_eW, dY_eY, eC_0, eC_1, eU_0, eU_1, eW_0, eW_1, eW_2, eY_0, eY_1, eS_0, eS_1, eS_2, eS_3, eS_4, eS_5, List.length_map, i_inj, b_inj, s_inj, eC_eq, eU_eq, eW_eq, eY_eq, eS_eq, rng64, List.take_succ_cons, List.take_zero, List.nil_append, List.cons_append, decide_true, decide_false, Bool.or_true, true_and, and_true, get_n eU hkl, hmk, hb, hh], ?_⟩
    rw [go_br]
    simp only [X.ev, X.evs, evl, tblS, List.getD_cons_succ, List.getD_cons_zero, List.getElem?_cons_zero, List.getElem?_cons_succ, hmk, Option.getD_some, eS_2, int_i, get_n eU hkl, eU_0, hb, hh, tt_b]
    refine ⟨fun hf1 => ?_, fun hf1 => ?_⟩
    · rw [app_if _ _ _ _ hf1, mvU, hb, Int.toNat_natCast, hadd] at hs
      rw [hf1, if_pos rfl] at hks
      have h1 := hmov _ ho
      have e1 : (((List.map eU (trailF f s k) ++ [eU ⟨(bef f b : Nat), mvC f (s.tr.getD k default).old⟩]).length : Nat) : Int) = (keptF f s (k + 1) : Nat) := by
        rw [List.length_append, List.length_map, htrl, hks]
        rfl
      have e2 := toL_set (f := keptF f s) hkl (v := ((keptF f s (k + 1) : Nat) : Int)) rfl
      simp only [q00, go_br, q02, q04, allSay, X.says, X.ev, X.evs, evl, tblS, List.getD_cons_zero, List.getD_cons_succ, List.getElem?_cons_zero, List.getElem?_cons_succ, tt_b, int_i, str_s, rs_r, Option.isSome_some, Option.getD_some, decide_eq_true_eq, decide_eq_false_iff_not, dS_eS, dC_eC, dU_eU, dW_eW, dY_eY, eC_0, eC_1, eU_0, eU_1, eW_0, eW_1, eW_2, eY_0, eY_1, eS_0, eS_1, eS_2, eS_3, eS_4, eS_5, List.length_map, i_inj, b_inj, s_inj, eC_eq, eU_eq, eW_eq, eY_eq, eS_eq, rng64, List.take_succ_cons, List.take_zero, List.nil_append, List.cons_append, decide_true, decide_false, Bool.or_true, true_and, and_true, hmk, get_n eU hkl, hb, h1, hgb, hadd, Int.toNat_natCast, eU_mk]
      simp only [e1, hset, e2]
      and_intros <;> first | omega | exact hs
    · rw [app_if0 _ _ _ _ hf1, hadd] at hs
      rw [hf1] at hks
      have hks : keptF f s (k + 1) = keptF f s k := hks
      have e2 := toL_set (f := keptF f s) hkl (v := ((keptF f s k : Nat) : Int)) (by rw [hks])
      simp only [q00, go_br, q02, q04, allSay, X.says, X.ev, X.evs, evl, tblS, List.getD_cons_zero, List.getD_cons_succ, List.getElem?_cons_zero, List.getElem?_cons_succ, tt_b, int_i, str_s, rs_r, Option.isSome_some, Option.getD_some, decide_eq_true_eq, decide_eq_false_iff_not, dS_eS, dC_eC, dU_eU, dW_eW, dY_eY, eC_0, eC_1, eU_0, eU_1, eW_0, eW_1, eW_2, eY_0, eY_1, eS_0, eS_1, eS_2, eS_3, eS_4, eS_5, List.length_map, i_inj, b_inj, s_inj, eC_eq, eU_eq, eW_eq, eY_eq, eS_eq, rng64, List.take_succ_cons, List.take_zero, List.nil_append, List.cons_append, decide_true, decide_false, Bool.or_true, true_and, and_true, htrl, hadd, Int.toNat_natCast, hset, e2]
      and_intros <;> first | omega | exact hs
  have hkk : k = s.tr.length := by
    have : ¬ (k < s.tr.length) := by simpa [X.ev, evl, eS_2, D.int, D.rs, D.tt] using hlt
    omega
  subst hkk
  simp only [List.take_succ_cons, List.take_zero, List.cons_append, List.nil_append]
  -- the wakes
  refine acc1_ok s.wk.length (fun k => .r (((s.wk.take k).map (mvW f)).map eW)) rfl fun k B' hk hB _ => ?_
  rw [go_br]
  refine ⟨fun hlt => ?_, fun hlt => ?_⟩
  · have hkl : k < s.wk.length := by simpa [X.ev, evl, eS_3, D.int, D.rs, D.tt] using hlt
    have hm1 : (s.wk.getD k default).att ∈ rootsC s r := List.mem_append_right _ (List.mem_flatMap.2 ⟨_, getD_mem hkl, by simp⟩)
    have hm2 : (s.wk.getD k default).val ∈ rootsC s r := List.mem_append_right _ (List.mem_flatMap.2 ⟨_, getD_mem hkl, by simp⟩)
    have h1 := hmov _ (hv.root _ hm1)
    have h2 := hmov _ (hv.root _ hm2)
    have hs := hB hkl
    rw [take_map_succ _ hkl, List.map_append] at hs
    have htl := List.length_take_le k s.wk
    simp only [q00, go_br, q02, q04, allSay, X.says, X.ev, X.evs, evl, tblS, List.getD_cons_zero, List.getD_cons_succ, List.getElem?_cons_zero, List.getElem?_cons_succ, tt_b, int_i, str_s, rs_r, Option.isSome_some, Option.getD_some, decide_eq_true_eq, decide_eq_false_iff_not, dS_eS, dC_eC, dU_eU, dW_eW, dY_eY, eC_0, eC_1, eU_0, eU_1, eW_0, eW_1, eW_2, eY_0, eY_1, eS_0, eS_1, eS_2, eS_3, eS_4, eS_5, List.length_map, i_inj, b_inj, s_inj, eC_eq, eU_eq, eW_eq, eY_eq, eS_eq, rng64, List.take_succ_cons, List.take_zero, List.nil_append, List.cons_append, decide_true, decide_false, Bool.or_true, true_and, and_true, get_n eW hkl, h1, h2]
    and_intros <;> first | omega | exact hs
  have hkk : k = s.wk.length := by
    have : ¬ (k < s.wk.length) := by simpa [X.ev, evl, eS_3, D.int, D.rs, D.tt] using hlt
    omega
  subst hkk
  simp only [List.take_succ_cons, List.take_zero, List.cons_append, List.nil_append, List.take_length]
  -- the roots' cells
  refine acc2_ok r.cs.length (fun k => eR ⟨(r.cs.take k).map (mvC f), [], []⟩) rfl fun k B' hk hB _ => ?_
  rw [go_br]
  refine ⟨fun hlt => ?_, fun hlt => ?_⟩
  · have hkl : k < r.cs.length := by simpa [X.ev, evl, eR_0, D.int, D.rs, D.tt] using hlt
    have h1 := hmov _ (hv.root _ (List.mem_append_left _ (getD_mem hkl)))
    have hs := hB hkl
    rw [take_map_succ _ hkl] at hs
    have htl := List.length_take_le k r.cs
    have hap : ∀ (l : List Ce) (c : Ce), l.map eC ++ [eC c] = (l ++ [c]).map eC := fun l c => by simp
    simp only [q00, go_br, q02, q04, allSay, X.says, X.ev, X.evs, evl, tblS, List.getD_cons_zero, List.getD_cons_succ, List.getElem?_cons_zero, List.getElem?_cons_succ, tt_b, int_i, str_s, rs_r, Option.isSome_some, Option.getD_some, decide_eq_true_eq, decide_eq_false_iff_not, dS_eS, dC_eC, dU_eU, dW_eW, dY_eY, eC_0, eC_1, eU_0, eU_1, eW_0, eW_1, eW_2, eY_0, eY_1, eS_0, eS_1, eS_2, eS_3, eS_4, eS_5, List.length_map, i_inj, b_inj, s_inj, eC_eq, eU_eq, eW_eq, eY_eq, eS_eq, rng64, List.take_succ_cons, List.take_zero, List.nil_append, List.cons_append, decide_true, decide_false, Bool.or_true, true_and, and_true, eR_0, get_n eC hkl, h1, hap, eR_s0]
    and_intros <;> first | omega | exact hs
  have hkk : k = r.cs.length := by
    have : ¬ (k < r.cs.length) := by simpa [X.ev, evl, eR_0, D.int, D.rs, D.tt] using hlt
    omega
  subst hkk
  simp only [List.take_succ_cons, List.take_zero, List.cons_append, List.nil_append, List.take_length]
  -- the tops
  refine acc2_ok r.tp.length (fun k => eR ⟨r.cs.map (mvC f), (r.tp.take k).map fun t => ((bef f t.toNat : Nat) : Int), []⟩) rfl fun k B' hk hB _ => ?_
  rw [go_br]
  refine ⟨fun hlt => ?_, fun hlt => ?_⟩
  · have hkl : k < r.tp.length := by simpa [X.ev, evl, eR_1, D.int, D.rs, D.tt] using hlt
    have hmk2 := htp _ (getD_mem hkl)
    obtain ⟨a, ha⟩ := Int.eq_ofNat_of_zero_le hmk2.1
    have hgb := get_i (l := toL (bef f) s.cs.length s.cs.length) (k := a) (by omega)
    rw [toL_get (by omega), if_pos (by omega)] at hgb
    have hs := hB hkl
    rw [take_map_succ _ hkl, ha, Int.toNat_natCast] at hs
    have htl := List.length_take_le k r.tp
    have hap : ∀ (l : List Int) (c : Int), l.map D.i ++ [D.i c] = (l ++ [c]).map D.i := fun l c => by simp
    simp only [q00, go_br, q02, q04, allSay, X.says, X.ev, X.evs, evl, tblS, List.getD_cons_zero, List.getD_cons_succ, List.getElem?_cons_zero, List.getElem?_cons_succ, tt_b, int_i, str_s, rs_r, Option.isSome_some, Option.getD_some, decide_eq_true_eq, decide_eq_false_iff_not, dS_eS, dC_eC, dU_eU, dW_eW, dY_eY, eC_0, eC_1, eU_0, eU_1, eW_0, eW_1, eW_2, eY_0, eY_1, eS_0, eS_1, eS_2, eS_3, eS_4, eS_5, List.length_map, i_inj, b_inj, s_inj, eC_eq, eU_eq, eW_eq, eY_eq, eS_eq, rng64, List.take_succ_cons, List.take_zero, List.nil_append, List.cons_append, decide_true, decide_false, Bool.or_true, true_and, and_true, eR_1, get_i hkl, ha, hgb, hap, eR_s1]
    and_intros <;> first | omega | exact hs
  have hkk : k = r.tp.length := by
    have : ¬ (k < r.tp.length) := by simpa [X.ev, evl, eR_1, D.int, D.rs, D.tt] using hlt
    omega
  subst hkk
  simp only [List.take_succ_cons, List.take_zero, List.cons_append, List.nil_append, List.take_length]
  -- the marks
  refine acc2_ok r.ms.length (fun k => eR ⟨r.cs.map (mvC f), r.tp.map fun t => ((bef f t.toNat : Nat) : Int), (r.ms.take k).map fun t => ((keptF f s t.toNat : Nat) : Int)⟩) rfl fun k B' hk hB _ => ?_
  rw [go_br]
  refine ⟨fun hlt => ?_, fun hlt => ?_⟩
  · have hkl : k < r.ms.length := by simpa [X.ev, evl, eR_2, D.int, D.rs, D.tt] using hlt
    have hmk2 := hms _ (getD_mem hkl)
    obtain ⟨a, ha⟩ := Int.eq_ofNat_of_zero_le hmk2.1
    have htl1 := toL_len (keptF f s) s.tr.length s.tr.length
    have hgb := get_i (l := toL (keptF f s) s.tr.length s.tr.length) (k := a) (by omega)
    rw [toL_get (by omega), if_pos (by omega)] at hgb
    have hs := hB hkl
    rw [take_map_succ _ hkl, ha, Int.toNat_natCast] at hs
    have htl := List.length_take_le k r.ms
    have hap : ∀ (l : List Int) (c : Int), l.map D.i ++ [D.i c] = (l ++ [c]).map D.i := fun l c => by simp
    simp only [q00, go_br, q02, q04, allSay, X.says, X.ev, X.evs, evl, tblS, List.getD_cons_zero, List.getD_cons_succ, List.getElem?_cons_zero, List.getElem?_cons_succ, tt_b, int_i, str_s, rs_r, Option.isSome_some, Option.getD_some, decide_eq_true_eq, decide_eq_false_iff_not, dS_eS, dC_eC, dU_eU, dW_eW, dY_eY, eC_0, eC_1, eU_0, eU_1, eW_0, eW_1, eW_2, eY_0, eY_1, eS_0, eS_1, eS_2, eS_3, eS_4, eS_5, List.length_map, i_inj, b_inj, s_inj, eC_eq, eU_eq, eW_eq, eY_eq, eS_eq, rng64, List.take_succ_cons, List.take_zero, List.nil_append, List.cons_append, decide_true, decide_false, Bool.or_true, true_and, and_true, eR_2, get_i hkl, ha, hgb, hap, eR_s2]
    and_intros <;> first | omega | exact hs
  have hkk : k = r.ms.length := by
    have : ¬ (k < r.ms.length) := by simpa [X.ev, evl, eR_2, D.int, D.rs, D.tt] using hlt
    omega
  subst hkk
  simp only [List.take_succ_cons, List.take_zero, List.cons_append, List.nil_append, List.take_length]
  rfl
end Go.Proofs.Ytmebmpgffhajbaa


namespace Go.Proofs.Ytmebmpgffhajbaa
open Go.RowKit
set_option linter.unusedVariables false
set_option maxRecDepth 100000

def gYesA : List D → Option (List D) := fun _ => some [.b true]
theorem ok_law34_awake : FOk q19 gYesA := fok_law34_awake ok_law34_cell_c ok_law34_six_c ok_law34_gives_c fun ds outs hw hg => by
  obtain rfl : ds = [] := hw
  simp only [gYesA, Option.some.injEq] at hg
  subst hg
  exact q10 (fuel := 60) (by kernel_rfl)
end Go.Proofs.Ytmebmpgffhajbaa


namespace Go.Proofs.Ytmebmpgffhajbaa
open Go.RowKit
set_option linter.unusedVariables false
set_option linter.unusedSimpArgs false

theorem clone_at {s : So} (hs : s.ok) : gClone [eS s] = some [eS s] := by
  simp only [gClone, dS_eS, clQ_of hs, if_true]
theorem rclone_at (r : Ro) : gRClone [eR r] = some [eR r] := by
  simp only [gRClone, dR_eR]
theorem same_at (s t : So) : gSame [eS s, eS t] = some [.b (decide (s = t))] := by
  simp only [gSame, eS_eq]
theorem rsame_at (s t : Ro) : gRSame [eR s, eR t] = some [.b (decide (s = t))] := by
  simp only [gRSame, dR_eR]
theorem live_at {s : So} {r : Ro} (h : GcQ s r) : gLive [eS s, eR r] = some [.i (bef (Mk s r) s.cs.length : Nat), .i 0] := by
  simp only [gLive, dS_eS, dR_eR, h.ok, h.sm, if_true]
theorem col_at {s : So} {r : Ro} (h : GcQ s r) : gCol [eS s, eR r] = some [.i 0, eS (colS (Mk s r) s), eR (colR (Mk s r) s r)] := by
  simp only [gCol, dS_eS, dR_eR, h.ok, h.sm, if_true]
theorem valid_at (v : So → Bool) (vc : So → Ce → Bool) (s : So) (r : Ro) : gSRb (okR v vc) [eS s, eR r] = some [.b (okR v vc s r)] := by
  simp only [gSRb, dS_eS, dR_eR]
theorem small_at (s : So) (r : Ro) : gSRb smallB [eS s, eR r] = some [.b (smallB s r)] := by
  simp only [gSRb, dS_eS, dR_eR]

end Go.Proofs.Ytmebmpgffhajbaa


namespace Go.Proofs.Ytmebmpgffhajbaa
open Go.RowKit
set_option linter.unusedVariables false
set_option linter.unusedSimpArgs false

end Go.Proofs.Ytmebmpgffhajbaa


namespace Go.Proofs.Ytmebmpgffhajbaa
open Go.RowKit
set_option linter.unusedVariables false
set_option linter.unusedSimpArgs false

theorem bef_mono (f : Nat → Bool) {a b : Nat} (h : a ≤ b) : bef f a ≤ bef f b := by
  induction h with
  | refl => exact Nat.le_refl _
  | step h ih => exact Nat.le_trans ih (by show bef f _ ≤ bef f _ + _; omega)
theorem bef_one {f : Nat → Bool} {a : Nat} (h : f a = true) : bef f (a + 1) = bef f a + 1 := by
  show bef f a + (if f a then 1 else 0) = _
  rw [h, if_pos rfl]
theorem bef_lt {f : Nat → Bool} {a b : Nat} (h : f a = true) (hab : a < b) : bef f a < bef f b := by
  have := bef_mono f (a := a + 1) (b := b) hab
  rw [bef_one h] at this
  exact this
theorem bef_run {f : Nat → Bool} {a : Nat} : ∀ {j : Nat}, (∀ i, i < j → f (a + i) = true) → bef f (a + j) = bef f a + j
  | 0, _ => rfl
  | j + 1, h => by
    have := bef_run (j := j) fun i hi => h i (by omega)
    rw [show a + (j + 1) = (a + j) + 1 by omega, bef_one (h j (by omega)), this]
    omega
theorem bef_surj {f : Nat → Bool} : ∀ {n i : Nat}, i < bef f n → ∃ a, a < n ∧ f a = true ∧ bef f a = i
  | 0, i, h => absurd h (Nat.not_lt_zero _)
  | n + 1, i, h => by
    by_cases hi : i < bef f n
    · obtain ⟨a, h1, h2, h3⟩ := bef_surj hi
      exact ⟨a, by omega, h2, h3⟩
    · cases hf : f n with
      | true =>
        rw [bef_one hf] at h
        exact ⟨n, Nat.lt_succ_self n, hf, by omega⟩
      | false =>
        have : bef f (n + 1) = bef f n := by
          show bef f n + (if f n then 1 else 0) = _
          rw [hf, if_neg (by decide)]
          rfl
        omega
theorem bef_all {f : Nat → Bool} {n : Nat} (h : ∀ i, i < n → f i = true) {a : Nat} (ha : a ≤ n) : bef f a = a := by
  have := bef_run (f := f) (a := 0) (j := a) fun i hi => by rw [Nat.zero_add]; exact h i (by omega)
  rw [Nat.zero_add] at this
  exact this.trans (Nat.zero_add _)
theorem heap_at {f : Nat → Bool} {s : So} {a : Nat} (ha : f a = true) : ∀ {n : Nat}, a < n → (heapF f s n).getD (bef f a) default = mvC f (cellAt s (a : Nat))
  | 0, h => absurd h (Nat.not_lt_zero _)
  | n + 1, h => by
    rw [heapF_succ]
    rcases Nat.lt_or_eq_of_le (Nat.le_of_lt_succ h) with h | h
    · have h1 : bef f a < (heapF f s n).length := by rw [heapF_len]; exact bef_lt ha h
      rw [List.getD_eq_getElem?_getD, List.getElem?_append_left h1, ← List.getD_eq_getElem?_getD]
      exact heap_at ha h
    · subst h
      rw [ha, if_pos rfl, List.getD_eq_getElem?_getD, List.getElem?_append_right (by rw [heapF_len]; exact Nat.le_refl _), heapF_len, Nat.sub_self]
      rfl

section
variable {s : So} {r : Ro}

theorem mvC_t (f : Nat → Bool) (c : Ce) : (mvC f c).t = c.t := by
  unfold mvC
  split <;> rfl
theorem mvC_n {f : Nat → Bool} {c : Ce} (h : c.t = 0 ∨ c.t = 3 ∨ c.t = 5) : (mvC f c).n = (bef f c.n.toNat : Nat) := by
  unfold mvC
  rw [if_pos h]
theorem mvC_k {f : Nat → Bool} {c : Ce} (h : ¬ (c.t = 0 ∨ c.t = 3 ∨ c.t = 5)) : mvC f c = c := if_neg h

theorem col_in {f : Nat → Bool} {a : Nat} (hf : f a = true) (ha : a < s.cs.length) : inS (colS f s) (bef f a : Nat) = true := by
  refine inS_iff.2 ⟨by omega, ?_⟩
  show _ < (((heapF f s s.cs.length).length : Nat) : Int)
  rw [heapF_len]
  have := bef_lt hf ha
  omega
theorem col_cell {f : Nat → Bool} {a : Nat} (hf : f a = true) (ha : a < s.cs.length) : cellAt (colS f s) (bef f a : Nat) = mvC f (cellAt s (a : Nat)) := by
  show (heapF f s s.cs.length).getD _ default = _
  rw [Int.toNat_natCast]
  exact heap_at hf ha
theorem col_tag {f : Nat → Bool} {a : Nat} (hf : f a = true) (ha : a < s.cs.length) : tagS (colS f s) (bef f a : Nat) = tagS s (a : Nat) := by
  rw [tagS_in (col_in hf ha), col_cell hf ha, mvC_t, tagS_in (inS_iff.2 ⟨by omega, by omega⟩)]
theorem col_ar (f : Nat → Bool) (n : Int) : arS (colS f s) n = arS s n := rfl

def Clo (s : So) (r : Ro) (c : Ce) : Prop := ∀ x ∈ tgS s c, Mk s r x = true
theorem cl_root {c : Ce} (h : c ∈ rootsC s r) : Clo s r c := fun x hx => Mk_iff.2 (.root h hx)
theorem cl_cell {y : Nat} (h : Mk s r y = true) : Clo s r (cellAt s (y : Nat)) := fun x hx => Mk_iff.2 (.cell (Mk_iff.1 h) hx)
theorem cl_old {u : Un} (hu : u ∈ s.tr) (h0 : 0 ≤ u.at') (h : Mk s r u.at'.toNat = true) : Clo s r u.old := fun x hx => Mk_iff.2 (.old (Mk_iff.1 h) (List.mem_map.2 ⟨u, List.mem_filter.2 ⟨hu, by simp; omega⟩, rfl⟩) hx)
theorem Clo.at {c : Ce} (h : Clo s r c) {j : Nat} (hj : j < cntS s c) : Mk s r (c.n.toNat + j) = true := h _ (tg_mem.2 ⟨j, hj, rfl⟩)
theorem cnt_pos {c : Ce} (h : c.t = 0 ∨ c.t = 3 ∨ c.t = 5) : 0 < cntS s c := by
  unfold cntS
  rcases h with h | h | h
  · rw [if_pos h]; omega
  · rw [if_neg (by omega), if_pos h]; omega
  · rw [if_neg (by omega), if_neg (by omega), if_pos h]; omega

theorem vc_col (hv : VG s r) {c : Ce} (hg : Gce s c) (hc : Clo s r c) (h : vcR s c = true) : vcR (colS (Mk s r) s) (mvC (Mk s r) c) = true := by
  by_cases ht : c.t = 0 ∨ c.t = 3 ∨ c.t = 5
  · obtain ⟨h1, h2⟩ := hg.b ht
    have hp := cnt_pos (s := s) ht
    have hm := hc.at hp
    rw [Nat.add_zero] at hm
    have hlt : c.n.toNat < s.cs.length := by omega
    have hcn : ((c.n.toNat : Nat) : Int) = c.n := by omega
    have hin := col_in hm hlt
    have htg := col_tag hm hlt
    rw [hcn] at htg
    unfold vcR at h ⊢
    rw [mvC_t, mvC_n ht, hin, htg]
    rcases ht with ht | ht | ht
    · rw [if_pos ht] at h ⊢
      simp only [Bool.and_eq_true] at h
      rw [h.2]
      rfl
    · rw [if_neg (by omega), if_neg (by omega), if_neg (by omega), if_pos ht] at h ⊢
      exact h
    · rw [if_neg (by omega), if_neg (by omega), if_neg (by omega), if_neg (by omega), if_pos ht] at h ⊢
      exact h
  · rw [mvC_k ht]
    unfold vcR at h ⊢
    rw [if_neg (by omega)] at h ⊢
    by_cases h1 : c.t = 1
    · rw [if_pos h1]
    · rw [if_neg h1] at h ⊢
      by_cases h2 : c.t = 2
      · rw [if_pos h2] at h ⊢
        exact h
      · rw [if_neg h2, if_neg (by omega), if_neg (by omega)] at h
        cases h
theorem cnt_col {c : Ce} (hg : Gce s c) (hc : Clo s r c) (h3 : c.t = 3 → tagS s c.n = 4) : cntS (colS (Mk s r) s) (mvC (Mk s r) c) = cntS s c := by
  by_cases ht : c.t = 3
  · obtain ⟨h1, h2⟩ := hg.b (.inr (.inl ht))
    have hp := cnt_pos (s := s) (.inr (.inl ht))
    have hm := hc.at hp
    rw [Nat.add_zero] at hm
    have hlt : c.n.toNat < s.cs.length := by omega
    have hcn : ((c.n.toNat : Nat) : Int) = c.n := by omega
    have hcell := col_cell hm hlt
    rw [hcn] at hcell
    have h4 := h3 ht
    rw [tagS_in (inS_iff.2 ⟨h1, by omega⟩)] at h4
    unfold cntS
    rw [mvC_t, if_neg (show ¬ c.t = 0 by omega), if_pos ht, if_neg (show ¬ c.t = 0 by omega), if_pos ht, mvC_n (.inr (.inl ht)), hcell, mvC_k (by omega)]
    rfl
  · unfold cntS
    rw [mvC_t]
    by_cases h0 : c.t = 0
    · rw [if_pos h0, if_pos h0]
    · rw [if_neg h0, if_neg h0, if_neg ht, if_neg ht]
theorem tg_col {c : Ce} (hg : Gce s c) (hc : Clo s r c) (h3 : c.t = 3 → tagS s c.n = 4) {x : Nat} (hx : x ∈ tgS s c) : bef (Mk s r) x ∈ tgS (colS (Mk s r) s) (mvC (Mk s r) c) := by
  obtain ⟨j, hj, rfl⟩ := tg_mem.1 hx
  refine tg_mem.2 ⟨j, by rw [cnt_col hg hc h3]; exact hj, ?_⟩
  have ht : c.t = 0 ∨ c.t = 3 ∨ c.t = 5 := by
    unfold cntS at hj
    split at hj
    · exact .inl ‹_›
    · split at hj
      · exact .inr (.inl ‹_›)
      · split at hj
        · exact .inr (.inr ‹_›)
        · omega
  rw [mvC_n ht, Int.toNat_natCast]
  exact bef_run fun i hi => hc.at (by omega)
theorem vc_str {c : Ce} (h : vcR s c = true) (ht : c.t = 3) : tagS s c.n = 4 := by
  unfold vcR at h
  rw [if_neg (by omega), if_neg (by omega), if_neg (by omega), if_pos ht, decide_eq_true_eq] at h
  exact h
theorem vc_att {c : Ce} (h : vcR s c = true) (ht : c.t = 5) : tagS s c.n = 5 := by
  unfold vcR at h
  rw [if_neg (by omega), if_neg (by omega), if_neg (by omega), if_neg (by omega), if_pos ht, decide_eq_true_eq] at h
  exact h
theorem cell_str (h : validR s = true) {i : Nat} (hi : i < s.cs.length) (ht : (cellAt s (i : Nat)).t = 3) : tagS s (cellAt s (i : Nat)).n = 4 := vc_str (vr_vc h (inS_iff.2 ⟨by omega, by omega⟩) (by omega)) ht
theorem old_vc {u : Un} (h : oldR s u = true) (ht : u.old.t = 1 ∨ u.old.t = 2 ∨ u.old.t = 3) : vcR s u.old = true := by
  unfold oldR oldB at h
  rw [Bool.and_eq_true, if_neg (by omega), if_neg (by omega), if_pos ht] at h
  exact h.2
theorem old_0 {u : Un} (h : oldR s u = true) (ht : u.old.t = 0) : u.old.n = u.at' := by
  unfold oldR oldB at h
  rw [Bool.and_eq_true, if_pos ht, decide_eq_true_eq] at h
  exact h.2
theorem old_5 {u : Un} (h : oldR s u = true) (ht : u.old.t = 5) : u.old.n = u.at' ∧ groupS s u.at' = true ∧ tagS s (u.at' - 1) ≠ 5 := by
  unfold oldR oldB at h
  rw [Bool.and_eq_true, if_neg (by omega), if_pos ht] at h
  simpa only [Bool.and_eq_true, decide_eq_true_eq, Bool.not_eq_true', decide_eq_false_iff_not] using h.2
theorem old_str {u : Un} (h : oldR s u = true) (ht : u.old.t = 3) : tagS s u.old.n = 4 := vc_str (old_vc h (.inr (.inr ht))) ht
theorem grp {i : Int} (h : groupS s i = true) : tagS s (i + 1) = 1 ∧ 1 ≤ (cellAt s (i + 1)).n ∧ (cellAt s (i + 1)).n ≤ s.ser ∧ 0 ≤ tagS s (i + 2) ∧ tagS s (i + 2) ≠ 4 ∧ tagS s (i + 2) ≠ 5 := by
  simpa only [groupS, Bool.and_eq_true, decide_eq_true_eq, Bool.not_eq_true', decide_eq_false_iff_not] using h

theorem rch_col (h : okR validR vcR s r = true) {x : Nat} (hx : Rch s r x) : Rch (colS (Mk s r) s) (colR (Mk s r) s r) (bef (Mk s r) x) := by
  have hv := vg_of h
  obtain ⟨hval, -, -, -⟩ := okR_parts h
  induction hx with
  | @root c x hc hx =>
    refine .root (c := mvC (Mk s r) c) ?_ (tg_col (hv.root _ hc) (cl_root hc) (vc_str (vc_root h hc)) hx)
    rcases List.mem_append.1 hc with hc | hc
    · exact List.mem_append_left _ (List.mem_map.2 ⟨c, hc, rfl⟩)
    · obtain ⟨w, hw, hc⟩ := List.mem_flatMap.1 hc
      refine List.mem_append_right _ (List.mem_flatMap.2 ⟨mvW (Mk s r) w, List.mem_map.2 ⟨w, hw, rfl⟩, ?_⟩)
      have hc : c = w.att ∨ c = w.val := by simpa using hc
      rcases hc with rfl | rfl <;> simp [mvW]
  | @cell y x hy hx ih =>
    have hm := Mk_iff.2 hy
    have hl := hy.lt hv
    refine .cell ih ?_
    rw [col_cell hm hl]
    exact tg_col (hv.cell y hl) (cl_cell hm) (cell_str hval hl) hx
  | @old y x c hy hc hx ih =>
    have hm := Mk_iff.2 hy
    obtain ⟨u, hu, rfl⟩ := List.mem_map.1 hc
    obtain ⟨hu, hat⟩ := List.mem_filter.1 hu
    have hat : u.at' = (y : Int) := of_decide_eq_true hat
    have hon : Mk s r u.at'.toNat = true := by rw [hat, Int.toNat_natCast]; exact hm
    refine .old (c := mvC (Mk s r) u.old) ih ?_ (tg_col (olds_good hv hc) (cl_old hu (by omega) hon) (old_str (vr_old hval hu)) hx)
    refine List.mem_map.2 ⟨mvU (Mk s r) u, List.mem_filter.2 ⟨?_, ?_⟩, rfl⟩
    · refine List.mem_map.2 ⟨u, List.mem_filter.2 ⟨?_, hon⟩, rfl⟩
      rw [List.take_length]
      exact hu
    · show decide (((bef (Mk s r) u.at'.toNat : Nat) : Int) = _) = true
      rw [hat, Int.toNat_natCast]
      exact decide_eq_true rfl
theorem mk_all (h : okR validR vcR s r = true) {i : Nat} (hi : i < (colS (Mk s r) s).cs.length) : Mk (colS (Mk s r) s) (colR (Mk s r) s r) i = true := by
  have hi : i < (heapF (Mk s r) s s.cs.length).length := hi
  rw [heapF_len] at hi
  obtain ⟨a, -, h2, rfl⟩ := bef_surj hi
  exact Mk_iff.2 (rch_col h (Mk_iff.1 h2))

theorem fun_all (h : okR validR vcR s r = true) {x : Nat} (hx : Rch s r x) : tagS s (x : Nat) = 4 → ∀ j : Nat, (j : Int) ≤ arS s (cellAt s (x : Nat)).n → Mk s r (x + j) = true := by
  have hv := vg_of h
  obtain ⟨hval, -, -, -⟩ := okR_parts h
  -- a cell that is valid, whose reach is marked
  have key : ∀ (c : Ce) (x : Nat), Gce s c → Clo s r c → vcR s c = true → x ∈ tgS s c → tagS s (x : Nat) = 4 → ∀ j : Nat, (j : Int) ≤ arS s (cellAt s (x : Nat)).n → Mk s r (x + j) = true := fun c x hg hcl hvc hx ht j hj => by
    obtain ⟨k, hk, rfl⟩ := tg_mem.1 hx
    have htt : c.t = 0 ∨ c.t = 3 ∨ c.t = 5 := by
      unfold cntS at hk
      split at hk
      · exact .inl ‹_›
      · split at hk
        · exact .inr (.inl ‹_›)
        · split at hk
          · exact .inr (.inr ‹_›)
          · omega
    obtain ⟨h1, h2⟩ := hg.b htt
    have hcn : ((c.n.toNat : Nat) : Int) = c.n := by omega
    rcases htt with h0 | h3 | h5
    · have hk0 : k = 0 := by
        unfold cntS at hk
        rw [if_pos h0] at hk
        omega
      subst hk0
      rw [Nat.add_zero, hcn] at ht
      have := vc_ref hvc h0
      rw [tagS_in this.1] at ht
      exact absurd ht this.2
    · have h4 := vc_str hvc h3
      have hin : inS s c.n = true := inS_iff.2 ⟨h1, by omega⟩
      have hcnt : cntS s c = (s.ys.getD (cellAt s c.n).n.toNat default).ar.toNat + 1 := by
        unfold cntS
        rw [if_neg (by omega), if_pos h3]
      obtain ⟨a1, a2, a3⟩ := vr_fun hval hin (by rw [← tagS_in hin]; exact h4)
      have har := (ar_rng (s := s) (n := (cellAt s c.n).n) (by omega)).2.2
      rcases Nat.eq_zero_or_pos k with rfl | hk1
      · rw [Nat.add_zero, hcn] at hj
        rw [Nat.add_zero]
        exact hcl.at (by omega)
      · obtain ⟨b1, b2⟩ := a3 (k - 1) (by omega)
        rw [show c.n + 1 + ((k - 1 : Nat) : Int) = ((c.n.toNat + k : Nat) : Int) by omega] at b1 b2
        exfalso
        rw [tagS_in b1] at ht
        unfold vcR at b2
        rw [if_neg (by omega), if_neg (by omega), if_neg (by omega), if_neg (by omega), if_neg (by omega)] at b2
        cases b2
    · have h6 := vc_att hvc h5
      have hin : inS s c.n = true := inS_iff.2 ⟨h1, by omega⟩
      have hcell := vr_cell hval hin
      rw [tagS_in hin] at h6
      unfold cellR at hcell
      rw [if_neg (by omega)] at hcell
      simp only [Bool.and_eq_true, h6, decide_true, Bool.not_true, Bool.false_or, decide_eq_true_eq] at hcell
      have hg := grp hcell.2.2.2
      have hk3 : k < 3 := by
        unfold cntS at hk
        rw [if_neg (by omega), if_neg (by omega), if_pos h5] at hk
        exact hk
      exfalso
      have : k = 0 ∨ k = 1 ∨ k = 2 := by omega
      rcases this with rfl | rfl | rfl
      · rw [Nat.add_zero, hcn, tagS_in hin] at ht
        omega
      · rw [show ((c.n.toNat + 1 : Nat) : Int) = c.n + 1 by omega] at ht
        omega
      · rw [show ((c.n.toNat + 2 : Nat) : Int) = c.n + 2 by omega] at ht
        omega
  induction hx with
  | @root c x hc hx => exact key c x (hv.root _ hc) (cl_root hc) (vc_root h hc) hx
  | @cell y x hy hx ih =>
    have hl := hy.lt hv
    by_cases h4 : (cellAt s (y : Nat)).t = 4
    · obtain ⟨k, hk, -⟩ := tg_mem.1 hx
      exfalso
      unfold cntS at hk
      rw [if_neg (by omega), if_neg (by omega), if_neg (by omega)] at hk
      omega
    · exact key _ x (hv.cell y hl) (cl_cell (Mk_iff.2 hy)) (vr_vc hval (inS_iff.2 ⟨by omega, by omega⟩) h4) hx
  | @old y x c hy hc hx ih =>
    have hgc := olds_good hv hc
    obtain ⟨u, hu, rfl⟩ := List.mem_map.1 hc
    obtain ⟨hu, hat⟩ := List.mem_filter.1 hu
    have hat : u.at' = (y : Int) := of_decide_eq_true hat
    have hold := vr_old hval hu
    have hcl : Clo s r u.old := cl_old hu (by omega) (by rw [hat, Int.toNat_natCast]; exact Mk_iff.2 hy)
    obtain ⟨k, hk, hxe⟩ := tg_mem.1 hx
    by_cases h0 : u.old.t = 0
    · have hn := old_0 hold h0
      have : k = 0 := by
        unfold cntS at hk
        rw [if_pos h0] at hk
        omega
      have : x = y := by omega
      subst this
      exact ih
    · by_cases h5 : u.old.t = 5
      · obtain ⟨hn, hgr, -⟩ := old_5 hold h5
        have hg := grp hgr
        have hk3 : k < 3 := by
          unfold cntS at hk
          rw [if_neg (by omega), if_neg (by omega), if_pos h5] at hk
          exact hk
        have : k = 0 ∨ k = 1 ∨ k = 2 := by omega
        rcases this with rfl | rfl | rfl
        · have : x = y := by omega
          subst this
          exact ih
        · intro ht
          rw [show (x : Int) = u.at' + 1 by omega] at ht
          omega
        · intro ht
          rw [show (x : Int) = u.at' + 2 by omega] at ht
          omega
      · have ht : u.old.t = 1 ∨ u.old.t = 2 ∨ u.old.t = 3 := by
          by_cases h3 : u.old.t = 3
          · exact .inr (.inr h3)
          · unfold cntS at hk
            rw [if_neg h0, if_neg h3, if_neg h5] at hk
            omega
        exact key _ x hgc hcl (old_vc hold ht) hx
end
end Go.Proofs.Ytmebmpgffhajbaa


namespace Go.Proofs.Ytmebmpgffhajbaa
open Go.RowKit
set_option linter.unusedVariables false
set_option linter.unusedSimpArgs false

section
variable {s : So} {r : Ro}
theorem grp_col {f : Nat → Bool} {a : Nat} (hg : groupS s (a : Nat) = true) (h0 : f a = true) (h1 : f (a + 1) = true) (h2 : f (a + 2) = true) : groupS (colS f s) (bef f a : Nat) = true := by
  obtain ⟨g1, g2, g3, g4, g5, g6⟩ := grp hg
  have e1 : ((bef f a : Nat) : Int) + 1 = (bef f (a + 1) : Nat) := by rw [bef_one h0]; omega
  have e2 : ((bef f a : Nat) : Int) + 2 = (bef f (a + 2) : Nat) := by rw [show a + 2 = (a + 1) + 1 from rfl, bef_one h1, bef_one h0]; omega
  have c1 : ((a : Nat) : Int) + 1 = ((a + 1 : Nat) : Int) := by omega
  have c2 : ((a : Nat) : Int) + 2 = ((a + 2 : Nat) : Int) := by omega
  rw [c1] at g1 g2 g3
  rw [c2] at g4 g5 g6
  have i1 := inS_iff.1 (tag_in g1)
  have i2 := inS_iff.1 (tag_nn g4)
  have t1 := col_tag (s := s) h1 (by omega)
  have t2 := col_tag (s := s) h2 (by omega)
  have k1 := col_cell (s := s) h1 (by omega)
  have hk : (cellAt s ((a + 1 : Nat) : Int)).t = 1 := by rw [← tagS_in (tag_in g1)]; exact g1
  rw [mvC_k (by omega)] at k1
  unfold groupS
  rw [e1, e2, t1, t2, k1, g1]
  simp only [decide_true, Bool.true_and, Bool.and_eq_true, decide_eq_true_eq, Bool.not_eq_true', decide_eq_false_iff_not]
  exact ⟨g2, g3, g4, g5, g6⟩
theorem en_col (h : okR validR vcR s r = true) : ∀ {k a : Nat}, Mk s r a = true → endsN s k (a : Nat) = true → En (colS (Mk s r) s) (bef (Mk s r) a : Nat)
  | 0, a, _, he => by cases he
  | k + 1, a, hm, he => by
    have hv := vg_of h
    by_cases hn : Ns (colS (Mk s r) s) (bef (Mk s r) a : Nat)
    · have hl := (Mk_iff.1 hm).lt hv
      have ht := hn.1
      rw [col_tag hm hl] at ht
      have ht0 : (cellAt s (a : Nat)).t = 0 := by rw [← tagS_in (inS_iff.2 ⟨by omega, by omega⟩)]; exact ht
      have hm2 := (cl_cell hm).at (cnt_pos (.inl ht0))
      rw [Nat.add_zero] at hm2
      have hb := (hv.cell a hl).b (.inl ht0)
      have hnx : nx (colS (Mk s r) s) (bef (Mk s r) a : Nat) = (bef (Mk s r) (nx s (a : Nat)).toNat : Nat) := by
        show (cellAt _ _).n = _
        rw [col_cell hm hl, mvC_n (.inl ht0)]
      have hns : Ns s (a : Nat) := ⟨ht, fun e => hn.2 (by
        show nx _ _ = _
        rw [hnx]
        show ((bef (Mk s r) (cellAt s (a : Nat)).n.toNat : Nat) : Int) = _
        rw [e, Int.toNat_natCast])⟩
      rw [endsN_ns hns] at he
      refine En.ns hn ?_
      rw [hnx]
      refine en_col h (k := k) hm2 ?_
      rw [show (((cellAt s (a : Nat)).n.toNat : Nat) : Int) = nx s (a : Nat) by show _ = (cellAt s (a : Nat)).n; omega]
      exact he
    · exact En.st hn
theorem cell_col (h : okR validR vcR s r = true) {a : Nat} (ha : a < s.cs.length) (hm : Mk s r a = true) : cellR (colS (Mk s r) s) (bef (Mk s r) a : Nat) = true := by
  have hv := vg_of h
  obtain ⟨hval, -, -, -⟩ := okR_parts h
  have hin : inS s (a : Nat) = true := inS_iff.2 ⟨by omega, by omega⟩
  have hcell := col_cell (s := s) hm ha
  have hr := vr_cell hval hin
  unfold cellR at hr ⊢
  rw [hcell, mvC_t]
  by_cases h4 : (cellAt s (a : Nat)).t = 4
  · rw [if_pos h4] at hr ⊢
    rw [mvC_k (by omega), col_ar]
    simp only [Bool.and_eq_true, decide_eq_true_eq, List.all_eq_true, List.mem_range, Bool.not_eq_true', decide_eq_false_iff_not] at hr ⊢
    obtain ⟨r1, r2, r3⟩ := hr
    have hall := fun_all h (Mk_iff.1 hm) (by rw [tagS_in hin]; exact h4)
    generalize arS s (cellAt s (a : Nat)).n = K at *
    have hrun : ∀ j : Nat, (j : Int) ≤ K → bef (Mk s r) (a + j) = bef (Mk s r) a + j := fun j hj => bef_run fun i hi => hall i (by omega)
    have r2' := inS_iff.1 r2
    refine ⟨r1, ?_, fun j hj => ?_⟩
    · have := col_in (s := s) (hall K.toNat (by omega)) (by omega)
      rw [hrun _ (by omega)] at this
      rwa [show ((bef (Mk s r) a + K.toNat : Nat) : Int) = (bef (Mk s r) a : Nat) + K by omega] at this
    · have ht := r3 j hj
      have := col_tag (s := s) (hall (j + 1) (by omega)) (by omega)
      rw [hrun (j + 1) (by omega)] at this
      rw [show ((bef (Mk s r) a : Nat) : Int) + ((j : Int) + 1) = ((bef (Mk s r) a + (j + 1) : Nat) : Int) by omega, this, show ((a + (j + 1) : Nat) : Int) = (a : Int) + ((j : Int) + 1) by omega]
      exact ht
  · rw [if_neg h4] at hr ⊢
    simp only [Bool.and_eq_true] at hr ⊢
    obtain ⟨r1, r2, r3⟩ := hr
    refine ⟨vc_col hv (hv.cell a ha) (cl_cell hm) r1, (en_col h hm r2).ends, ?_⟩
    by_cases h5 : (cellAt s (a : Nat)).t = 5
    · simp only [h5, decide_true, Bool.not_true, Bool.false_or, Bool.and_eq_true, decide_eq_true_eq] at r3 ⊢
      obtain ⟨e1, e2⟩ := r3
      have hc := cl_cell hm
      have hcnt : cntS s (cellAt s (a : Nat)) = 3 := by
        unfold cntS
        rw [if_neg (by omega), if_neg (by omega), if_pos h5]
      have m1 := hc.at (j := 1) (by omega)
      have m2 := hc.at (j := 2) (by omega)
      rw [e1, Int.toNat_natCast] at m1 m2
      refine ⟨?_, grp_col e2 hm m1 m2⟩
      rw [mvC_n (.inr (.inr h5)), e1, Int.toNat_natCast]
    · simp [h5]
theorem old_col (h : okR validR vcR s r = true) {u : Un} (hu : u ∈ s.tr) (hon : onTr (Mk s r) u = true) : oldR (colS (Mk s r) s) (mvU (Mk s r) u) = true := by
  have hv := vg_of h
  obtain ⟨hval, -, -, -⟩ := okR_parts h
  have hold := vr_old hval hu
  obtain ⟨g1, g2, g3⟩ := hv.old u hu
  have hon : Mk s r u.at'.toNat = true := hon
  have hcl := cl_old hu g1 hon
  have hat : ((u.at'.toNat : Nat) : Int) = u.at' := by omega
  have hin := col_in (s := s) hon (by omega)
  unfold oldR oldB
  simp only [mvU, mvC_t, hin, Bool.true_and]
  by_cases h0 : u.old.t = 0
  · rw [if_pos h0]
    refine decide_eq_true ?_
    rw [mvC_n (.inl h0), old_0 hold h0]
  rw [if_neg h0]
  by_cases h5 : u.old.t = 5
  · obtain ⟨e1, e2, e3⟩ := old_5 hold h5
    have hcnt : cntS s u.old = 3 := by
      unfold cntS
      rw [if_neg (by omega), if_neg (by omega), if_pos h5]
    have m1 := hcl.at (j := 1) (by omega)
    have m2 := hcl.at (j := 2) (by omega)
    rw [e1] at m1 m2
    rw [if_pos h5]
    refine Bool.and_eq_true_iff.2 ⟨decide_eq_true (by rw [mvC_n (.inr (.inr h5)), e1]), Bool.and_eq_true_iff.2 ⟨grp_col (by rw [hat]; exact e2) hon m1 m2, ?_⟩⟩
    rw [Bool.not_eq_true']
    refine decide_eq_false fun ht => ?_
    have hi := inS_iff.1 (tag_in' (by decide) ht)
    have hi2 := hi.2
    have : ((((colS (Mk s r) s).cs.length : Nat)) : Int) = (bef (Mk s r) s.cs.length : Nat) := by
      show (((heapF _ s s.cs.length).length : Nat) : Int) = _
      rw [heapF_len]
    rw [this] at hi2
    obtain ⟨b, hb, hbm, hbe⟩ := bef_surj (f := Mk s r) (n := s.cs.length) (i := bef (Mk s r) u.at'.toNat - 1) (by omega)
    rw [show ((bef (Mk s r) u.at'.toNat : Nat) : Int) - 1 = (bef (Mk s r) b : Nat) by omega, col_tag hbm hb] at ht
    have hbin : inS s (b : Nat) = true := inS_iff.2 ⟨by omega, by omega⟩
    have hb5 : (cellAt s (b : Nat)).t = 5 := by rw [← tagS_in hbin]; exact ht
    have hlt : b < u.at'.toNat := by
      rcases Nat.lt_or_ge b u.at'.toNat with h | h
      · exact h
      · have := bef_mono (Mk s r) h
        omega
    have hr := vr_cell hval hbin
    unfold cellR at hr
    rw [if_neg (by omega)] at hr
    simp only [hb5, decide_true, Bool.not_true, Bool.false_or, Bool.and_eq_true, decide_eq_true_eq] at hr
    have hbc := (cl_cell hbm).at (j := 1) (by
      unfold cntS
      rw [if_neg (by omega), if_neg (by omega), if_pos hb5]
      omega)
    rw [hr.2.2.1, Int.toNat_natCast] at hbc
    have hb1 := bef_one hbm
    have : b + 1 = u.at'.toNat := by
      rcases Nat.lt_or_eq_of_le (show b + 1 ≤ u.at'.toNat by omega) with h | h
      · have := bef_lt hbc h
        omega
      · exact h
    exact e3 (by rw [show u.at' - 1 = (b : Int) by omega]; exact ht)
  rw [if_neg h5]
  have ht : u.old.t = 1 ∨ u.old.t = 2 ∨ u.old.t = 3 := by
    unfold oldR oldB at hold
    rw [Bool.and_eq_true, if_neg h0, if_neg h5] at hold
    have := hold.2
    split at this
    · assumption
    · cases this
  rw [if_pos ht]
  exact vc_col hv g3 hcl (old_vc hold ht)
theorem vr_col (h : okR validR vcR s r = true) : validR (colS (Mk s r) s) = true := by
  have hv := vg_of h
  obtain ⟨hval, hvr, htp, hms⟩ := okR_parts h
  have hh := vr_head hval
  unfold validR
  rw [Bool.and_eq_true, Bool.and_eq_true, Bool.and_eq_true]
  refine ⟨?_, ?_, ?_, ?_⟩
  · simp only [headB, Bool.and_eq_true, decide_eq_true_eq] at hh ⊢
    refine ⟨hh.1, hh.2.1, ?_, hh.2.2.2.1, hh.2.2.2.2⟩
    show (((heapF _ s s.cs.length).length : Nat) : Int) ≤ s.mx
    rw [heapF_len]
    have := bef_le (Mk s r) s.cs.length
    omega
  · rw [List.all_eq_true]
    intro i hi
    have hi : i < (heapF (Mk s r) s s.cs.length).length := List.mem_range.1 hi
    rw [heapF_len] at hi
    obtain ⟨a, ha, hm, rfl⟩ := bef_surj hi
    exact cell_col h ha hm
  · rw [List.all_eq_true]
    intro i hi
    have hmem : (colS (Mk s r) s).tr.getD i default ∈ (colS (Mk s r) s).tr := getD_mem (List.mem_range.1 hi)
    obtain ⟨u, hu, e⟩ := List.mem_map.1 hmem
    rw [← e]
    obtain ⟨hu, hon⟩ := List.mem_filter.1 hu
    rw [List.take_length] at hu
    exact old_col h hu hon
  · rw [List.all_eq_true]
    intro i hi
    have hmem : (colS (Mk s r) s).wk.getD i default ∈ (colS (Mk s r) s).wk := getD_mem (List.mem_range.1 hi)
    obtain ⟨w, hw, e⟩ := List.mem_map.1 hmem
    rw [← e]
    have hwk := vr_wk hval hw
    have m1 : w.att ∈ rootsC s r := List.mem_append_right _ (List.mem_flatMap.2 ⟨w, hw, by simp⟩)
    have m2 : w.val ∈ rootsC s r := List.mem_append_right _ (List.mem_flatMap.2 ⟨w, hw, by simp⟩)
    simp only [wkB, Bool.and_eq_true, decide_eq_true_eq] at hwk ⊢
    exact ⟨hwk.1, hwk.2.1, vc_col hv (hv.root _ m1) (cl_root m1) hwk.2.2.1, vc_col hv (hv.root _ m2) (cl_root m2) hwk.2.2.2⟩
theorem kept_mono (f : Nat → Bool) (s : So) {a b : Nat} (h : a ≤ b) : keptF f s a ≤ keptF f s b := by
  unfold keptF
  have : s.tr.take a = (s.tr.take b).take a := by rw [List.take_take, Nat.min_eq_left h]
  rw [this]
  exact ((List.take_sublist _ _).filter _).length_le
theorem ok_col (h : okR validR vcR s r = true) : okR validR vcR (colS (Mk s r) s) (colR (Mk s r) s r) = true := by
  have hv := vg_of h
  obtain ⟨hval, hvr, htp, hms⟩ := okR_parts h
  unfold okR
  rw [vr_col h, Bool.true_and, Bool.and_eq_true, Bool.and_eq_true]
  refine ⟨?_, ?_, ?_⟩ <;> rw [List.all_eq_true] <;> intro i hi
  · have hmem : (colR (Mk s r) s r).cs.getD i default ∈ (colR (Mk s r) s r).cs := getD_mem (List.mem_range.1 hi)
    obtain ⟨c, hc, e⟩ := List.mem_map.1 hmem
    rw [← e]
    exact vc_col hv (hv.root c (List.mem_append_left _ hc)) (cl_root (List.mem_append_left _ hc)) (hvr c hc)
  · have hmem : (colR (Mk s r) s r).tp.getD i default ∈ (colR (Mk s r) s r).tp := getD_mem (List.mem_range.1 hi)
    obtain ⟨t, ht, e⟩ := List.mem_map.1 hmem
    rw [← e]
    have h1 := htp t ht
    have h2 := bef_mono (Mk s r) (a := t.toNat) (b := s.cs.length) (by omega)
    show inN (heapF _ s s.cs.length).length _ = true
    rw [heapF_len]
    simp only [inN, Bool.and_eq_true, decide_eq_true_eq]
    omega
  · have hmem : (colR (Mk s r) s r).ms.getD i default ∈ (colR (Mk s r) s r).ms := getD_mem (List.mem_range.1 hi)
    obtain ⟨t, ht, e⟩ := List.mem_map.1 hmem
    rw [← e]
    have h1 := hms t ht
    have h2 := kept_mono (Mk s r) s (a := t.toNat) (b := s.tr.length) (by omega)
    show inN (trailF _ s s.tr.length).length _ = true
    rw [trailF_len]
    simp only [inN, Bool.and_eq_true, decide_eq_true_eq]
    omega
theorem small_col (f : Nat → Bool) (h : smallB s r = true) : smallB (colS f s) (colR f s r) = true := by
  obtain ⟨z1, z2, z3, z4, z5, z6, z7⟩ := small_parts h
  have e1 : (colS f s).cs.length = bef f s.cs.length := heapF_len f s _
  have e2 : (colS f s).tr.length = keptF f s s.tr.length := trailF_len f s _
  have e3 : (colS f s).wk.length = s.wk.length := List.length_map ..
  have e4 : (colR f s r).cs.length = r.cs.length := List.length_map ..
  have e5 : (colR f s r).tp.length = r.tp.length := List.length_map ..
  have e6 : (colR f s r).ms.length = r.ms.length := List.length_map ..
  have e7 : (colS f s).ys.length = s.ys.length := rfl
  have h1 := bef_le f s.cs.length
  have h2 := keptF_le f s s.tr.length
  simp only [smallB, Bool.and_eq_true, decide_eq_true_eq, e1, e2, e3, e4, e5, e6, e7]
  omega

theorem mv_id {g : Nat → Bool} {n : Nat} (hg : ∀ i, i < n → g i = true) {c : Ce} (hc : mvQ n c) : mvC g c = c := by
  by_cases ht : c.t = 0 ∨ c.t = 3 ∨ c.t = 5
  · obtain ⟨h1, h2⟩ := hc ht
    unfold mvC
    rw [if_pos ht, bef_all hg (a := c.n.toNat) (by omega), show ((c.n.toNat : Nat) : Int) = c.n by omega]
  · exact mvC_k ht
theorem map_idm {α : Type} {f : α → α} {l : List α} (h : ∀ x ∈ l, f x = x) : l.map f = l := by
  rw [List.map_congr_left (g := id) h, List.map_id]
theorem filt_all {α : Type} {p : α → Bool} {l : List α} (h : ∀ x ∈ l, p x = true) : l.filter p = l := List.filter_eq_self.2 h
theorem col_id {g : Nat → Bool} (hv : VG s r) (hg : ∀ i, i < s.cs.length → g i = true) : colS g s = s := by
  have h1 : heapF g s s.cs.length = s.cs := by
    unfold heapF
    rw [filt_all fun x hx => hg x (List.mem_range.1 hx)]
    apply List.ext_getElem
    · simp
    · intro i h1 h2
      rw [List.getElem_map, List.getElem_range, mv_id hg (hv.cell i h2).mv]
      simp [cellAt, List.getD_eq_getElem?_getD, h2]
  have h2 : trailF g s s.tr.length = s.tr := by
    unfold trailF
    rw [List.take_length, filt_all fun u hu => by
      have := hv.old u hu
      exact hg _ (by omega)]
    refine map_idm fun u hu => ?_
    obtain ⟨a, b, c⟩ := hv.old u hu
    unfold mvU
    rw [mv_id hg c.mv, bef_all hg (by omega), show ((u.at'.toNat : Nat) : Int) = u.at' by omega]
  have h3 : s.wk.map (mvW g) = s.wk := map_idm fun w hw => by
    have m1 : w.att ∈ rootsC s r := List.mem_append_right _ (List.mem_flatMap.2 ⟨w, hw, by simp⟩)
    have m2 : w.val ∈ rootsC s r := List.mem_append_right _ (List.mem_flatMap.2 ⟨w, hw, by simp⟩)
    unfold mvW
    rw [mv_id hg (hv.root _ m1).mv, mv_id hg (hv.root _ m2).mv]
  unfold colS
  rw [h1, h2, h3]
theorem colR_id {g : Nat → Bool} (h : okR validR vcR s r = true) (hg : ∀ i, i < s.cs.length → g i = true) : colR g s r = r := by
  have hv := vg_of h
  obtain ⟨hval, hvr, htp, hms⟩ := okR_parts h
  have h1 : r.cs.map (mvC g) = r.cs := map_idm fun c hc => mv_id hg (hv.root c (List.mem_append_left _ hc)).mv
  have h2 : (r.tp.map fun t => ((bef g t.toNat : Nat) : Int)) = r.tp := map_idm fun t ht => by
    have := htp t ht
    rw [bef_all hg (by omega)]
    omega
  have h3 : (r.ms.map fun t => ((keptF g s t.toNat : Nat) : Int)) = r.ms := map_idm fun t ht => by
    have := hms t ht
    have hk : keptF g s t.toNat = t.toNat := by
      unfold keptF
      rw [filt_all fun u hu => by
        have := hv.old u (List.mem_of_mem_take hu)
        exact hg _ (by omega), List.length_take]
      omega
    rw [hk]
    omega
  unfold colR
  rw [h1, h2, h3]
end

theorem law_GcAgain : FOk q1e fun _ => some [.b true] := fok_law34_GcAgain ok_law34_small ok_gc_Valid ok_law34_awake ok_gc_Live ok_cells_Clone ok_ref34_Clone ok_gc_Collect ok_cells_Valid ok_cells_Same ok_ref34_Same fun ds outs hw hg => by
  obtain ⟨s, r, rfl, hs, hr⟩ := sr_of hw
  injection hg with hg
  subst hg
  have h1 := clone_at hs
  have h2 := rclone_at r
  have h3 := valid_at validP vcP s r
  rw [okR_eq] at h3
  have h7 := small_at s r
  cases hsm : smallB s r with
  | false =>
    rw [hsm] at h7
    simp [q1f, q00, go_br, q02, allSay, X.says, X.ev, X.evs, evl, tblS, h7, gYesA, D.tt]
  | true =>
  rw [hsm] at h7
  cases hok : okR validR vcR s r with
  | false =>
    rw [hok] at h3
    simp [q1f, q00, go_br, q02, allSay, X.says, X.ev, X.evs, evl, tblS, h3, h7, gYesA, D.tt]
  | true =>
  rw [hok] at h3
  have hc : GcQ s r := ⟨hok, hsm⟩
  have h8 := live_at hc
  have h9 := col_at hc
  have hok2 := ok_col hok
  have hc2 : GcQ (colS (Mk s r) s) (colR (Mk s r) s r) := ⟨hok2, small_col _ hsm⟩
  have h10 := col_at hc2
  have hall : ∀ i, i < (colS (Mk s r) s).cs.length → Mk (colS (Mk s r) s) (colR (Mk s r) s r) i = true := fun i hi => mk_all hok hi
  rw [col_id hc2.vg hall, colR_id hok2 hall] at h10
  have hlen : (colS (Mk s r) s).cs.length = bef (Mk s r) s.cs.length := heapF_len _ s _
  have h11 : gSb validP [eS (colS (Mk s r) s)] = some [.b true] := by
    simp only [gSb, dS_eS, valid_eq, vr_col hok]
  have h12 := valid_at validP vcP (colS (Mk s r) s) (colR (Mk s r) s r)
  rw [okR_eq, hok2] at h12
  obtain ⟨z1, z2, z3, z4, z5, z6, z7⟩ := small_parts hc2.sm
  have h13 : gClone [eS (colS (Mk s r) s)] = some [eS (colS (Mk s r) s)] := by
    have : clQ (colS (Mk s r) s) = true := by
      simp only [clQ, Bool.and_eq_true, decide_eq_true_eq]
      omega
    simp only [gClone, dS_eS, this, if_true]
  have h14 := rclone_at (colR (Mk s r) s r)
  have h15 := same_at (colS (Mk s r) s) (colS (Mk s r) s)
  have h16 := rsame_at (colR (Mk s r) s r) (colR (Mk s r) s r)
  generalize bef (Mk s r) s.cs.length = m at h8 hlen
  generalize colS (Mk s r) s = A at *
  generalize colR (Mk s r) s r = P at *
  simp [q1f, q00, go_br, q02, allSay, X.says, X.ev, X.evs, evl, tblS, h1, h2, h3, h7, h8, h9, h10, h11, h12, h13, h14, h15, h16, hlen, eS_0, rs_r, int_i, gYesA, D.tt]
end Go.Proofs.Ytmebmpgffhajbaa


namespace Go.Proofs.Ytmebmpgffhajbaa
open Go.ChangeShapes Go.WideShapes Go.ChangeAt Go.RowKit
set_option linter.unusedVariables false
set_option maxRecDepth 100000

theorem own_knobD : ownKnob Try.prog.godebug = none := by kernel_rfl
theorem laid_outD : laidOutB Try.prog = true := by kernel_rfl

section
variable {H : Type} {enc : TypeId × Value → H} {W : World} {base : Nat} {spare : Nat → Bool} {held : Bool}

def LightD (t : TypeId) (d : DataW H) : Prop := ∀ n ∈ d.weights Try.prog t, n ≤ reachBytes

theorem weightsAll_memD {e : TypeId} : ∀ {l : List (DataW H)} {d : DataW H}, d ∈ l → ∀ n ∈ d.weights Try.prog e, n ∈ DataW.weightsAll Try.prog e l
  | [], _, h, _, _ => by cases h
  | x :: l, d, h, n, hn => by
    simp only [DataW.weightsAll, List.mem_append]
    rcases List.mem_cons.1 h with rfl | h
    · exact .inl hn
    · exact .inr (weightsAll_memD h n hn)

theorem LightD.each {ts : List TypeId} {l : List (DataW H)} {k : Nat} {t : TypeId} {d : DataW H} (h : ∀ n ∈ DataW.weightsEach Try.prog ts l, n ≤ reachBytes) (ht : ts[k]? = some t) (hd : l[k]? = some d) : LightD t d := fun n hn =>
  h n (DataW.weights_mem_each ht hd n hn)

theorem reach_eqD : reachBytes = LIM := rfl

theorem cells_w {T : TypeId} {t : Ty} (h : tyOf T = some t) : Try.prog.cellsOf T = t.w := by
  obtain ⟨i, hi, h1, -⟩ := row_info h
  simp [Program.cellsOf, hi, h1]

theorem rng_wf {k : IntKind} {t : TypeId} (ht : tyOf t = some (.int k)) {n : Int} (h : (Lit.int k n).wf = true) : rngB k n = true := by
  have h0 := (row_int ht).2.1
  cases k <;> first | (simp [rngB] at h0; done) | (simp [Lit.wf, IntKind.min, IntKind.max, IntKind.signed, IntKind.bits] at h; simp [rngB]; omega)

theorem spot_noneD {a : Addr} {v : Value} (h : W.cell? a = some v) : a.spot = none := by
  unfold World.cell? at h
  split at h
  · split at h
    · cases h
    · rename_i hs; simpa using hs
  · cases h

theorem rdF_of {F : Nat → Prop} {cs : List Value} : ∀ {fl : List Field} {fs : List Ty} {o : Nat}, fieldsB fl fs o = true → (∀ (j : Nat) (f : Field) (t : Ty), fl[j]? = some f → fs[j]? = some t → ∃ y, Rd W F y t ((cs.drop f.offset).take t.w)) → cs.length = o + widths fs → ∃ ds, RdF W F ds fs (cs.drop o)
  | [], [], o, _, _, hl => by
    simp [widths] at hl
    exact ⟨[], rfl, by rw [List.drop_eq_nil_iff]; omega⟩
  | f :: l, t :: ts, o, hb, hf, hl => by
    simp only [fieldsB, Bool.and_eq_true] at hb
    obtain ⟨⟨⟨h1, -⟩, -⟩, h3⟩ := hb
    have ho := Nat.eq_of_beq_eq_true h1
    rw [widths_cons] at hl
    obtain ⟨ds, hds⟩ := rdF_of h3 (fun j f' t' hj ht => hf (j + 1) f' t' (by simpa using hj) (by simpa using ht)) (by omega)
    obtain ⟨y, hy⟩ := hf 0 f t rfl rfl
    refine ⟨y :: ds, t, ts, (cs.drop o).take t.w, cs.drop (o + t.w), rfl, ?_, by rw [← ho]; exact hy, hds⟩
    rw [← List.drop_drop, List.take_append_drop]
  | [], _ :: _, o, hb, _, _ => by cases hb
  | _ :: _, [], o, hb, _, _ => by cases hb

theorem open_recD : ∀ (fuel : Nat) {T : TypeId} {t : Ty} (cs : List Value) (x : DataW H × List MemPlace), tyOf T = some t → isMp t = false → DataW.trod enc Try.prog W base spare held fuel T cs = some x → LightD T x.1 → ∃ y, Rd W (fun _ => True) y t cs := by
  intro fuel
  induction fuel with
  | zero => intro T t cs x _ _ h; simp [DataW.trod] at h
  | succ fuel ih =>
    intro T t cs x hT hM h hL
    cases t with
    | map K V => cases hM
    | int k =>
      obtain ⟨n, rfl, -, hw⟩ := DataW.trod_int (row_int hT).1 h
      exact ⟨.i n, k, rfl, rfl, rng_wf hT hw⟩
    | bool =>
      obtain ⟨b, rfl, -⟩ := DataW.trod_bool (row_bool hT).1 h
      exact ⟨.b b, rfl, rfl⟩
    | str =>
      obtain ⟨s, rfl, rfl, -⟩ := DataW.trod_string (row_str hT).1 h
      have := hL s.data.toList.length (by simp [DataW.weights])
      exact ⟨.s s, rfl, rfl, by rw [reach_eqD] at this; simpa using this⟩
    | st S =>
      obtain ⟨fields, fs, zc, i, hu, hfs, hfb, hi, hsz, -, -, -, -⟩ := row_st hT
      obtain ⟨xs, n, hn, hx, hlen, hxl, hf⟩ := DataW.trod_struct hu h
      obtain rfl : fuel = n := by omega
      have hw : ∀ n ∈ DataW.weightsEach Try.prog (fields.toList.map (·.type)) (xs.map (·.1)), n ≤ reachBytes := fun n hn => hL n (by rw [hx]; simp only [DataW.weights, hu]; exact hn)
      have hcl : cs.length = 0 + widths fs := by rw [hlen, cells_w hT, (fld_okD hfs).1]; omega
      obtain ⟨ds, hds⟩ := rdF_of (W := W) (F := fun _ => True) hfb (fun j f t hj ht => by
        obtain ⟨f', hf', ho, hty, -⟩ := fieldsB_get hfb ht
        obtain rfl := Option.some.inj (hj.symm.trans hf')
        have h5 := hf j f (by rw [← Array.getElem?_toList]; exact hj)
        have hjl : j < fields.toList.length := (List.getElem?_eq_some_iff.1 hj).1
        have hjx : j < xs.length := by rw [hxl]; simpa using hjl
        rw [cells_w hty, List.getElem?_eq_getElem hjx] at h5
        refine ih _ _ hty (fld_noM hfs (List.mem_of_getElem? ht)) h5 (LightD.each (k := j) hw ?_ ?_)
        · rw [List.getElem?_map, hj]; rfl
        · rw [List.getElem?_map, List.getElem?_eq_getElem hjx]; rfl) hcl
      exact ⟨.a ds, S, fs, rfl, hfs, by simpa using hds⟩
    | row E =>
      obtain ⟨hu, ⟨te, hte⟩, -⟩ := row_row hT
      rcases DataW.trod_slice hu h with ⟨rfl, hx⟩ | ⟨a, len, cap, elems, rest, n, hn, rfl, hx, hb, hl, hm, hlen, hel, -⟩
      · exact ⟨.r [], E, te, none, 0, rfl, hte, rfl, by simp, by simp, by simp [maxLen], by simp [RdE]⟩
      · obtain rfl : fuel = n := by omega
        have hwd := tyOf_pos hte
        rw [cells_w hte] at hel
        have hw := hL
        rw [hx] at hw
        simp only [LightD, DataW.weights, hu, List.mem_cons, List.mem_append] at hw
        have hlen2 : len ≤ LM te := by
          have := hw _ (.inl rfl)
          rw [reach_eqD] at this
          have hbe : Try.prog.bytesOf E = te.by := by
            obtain ⟨i, hi, -⟩ := row_info hte
            simp [Program.bytesOf, hi, row_bytes hte hi]
          refine (Nat.le_div_iff_mul_le (by_pos hte).1).2 ?_
          simp [hbe] at this
          have h2 : len * te.by ≤ (elems.length + rest.length) * te.by := Nat.mul_le_mul_right _ (by omega)
          exact Nat.le_trans h2 this
        have spot : 0 < len → a.spot = none := fun h0 => by
          have h2 := hel 0 h0
          rw [List.getElem?_eq_getElem (by omega)] at h2
          cases hc0 : W.cells? base (a.add (0 * te.w)) te.w with
          | none => rw [hc0] at h2; cases h2
          | some cs0 =>
            obtain ⟨_, hcl0, hat0⟩ := World.cells?_some hc0
            have hp : 0 < cs0.length := by omega
            have := hat0 0 (by omega)
            rw [List.getElem?_eq_getElem hp] at this
            exact spot_noneD (a := a) (v := cs0[0]) (by simpa [Addr.add] using this)
        have each : ∀ i, i < len → ∃ y, RdEl W (fun _ => True) y te (some a) i := fun i hi => by
          have h1 := hel i hi
          rw [List.getElem?_eq_getElem (by omega)] at h1
          cases hc : W.cells? base (a.add (i * te.w)) te.w with
          | none => rw [hc] at h1; cases h1
          | some cs' =>
            rw [hc] at h1
            obtain ⟨_, hcl, hat⟩ := World.cells?_some hc
            obtain ⟨y, hy⟩ := ih cs' _ hte (row_noM hT hte) h1 (fun n hn => hw n (.inr (.inl (weightsAll_memD (List.mem_map.2 ⟨_, List.getElem_mem (by omega), rfl⟩) n hn))))
            have hsp := spot (by omega)
            obtain ⟨b, o, sp⟩ := a
            obtain rfl : sp = none := hsp
            have add : ∀ k, (Addr.add ⟨b, o, none⟩ (i * te.w)).add k = ⟨b, o + i * te.w + k, none⟩ := fun k => by
              unfold Addr.add
              split <;> split <;> simp <;> omega
            refine ⟨y, b, o, cs', rfl, trivial, fun j v hj => ?_, hy⟩
            have hj' := (List.getElem?_eq_some_iff.1 hj).1
            have := hat j (by omega)
            rw [add, hj] at this
            exact this
        have pick : ∀ n, n ≤ len → ∃ l : List D, l.length = n ∧ ∀ i (h : i < l.length), RdEl W (fun _ => True) l[i] te (some a) i := by
          intro n
          induction n with
          | zero => exact fun _ => ⟨[], rfl, fun i hi => by simp at hi⟩
          | succ n ihn =>
            intro hn
            obtain ⟨l, hl1, hl2⟩ := ihn (by omega)
            obtain ⟨t, ht⟩ := each n (by omega)
            refine ⟨l ++ [t], by simp [hl1], fun i hi => ?_⟩
            by_cases hin : i < l.length
            · rw [List.getElem_append_left hin]; exact hl2 i hin
            · obtain rfl : i = l.length := by simp at hi; omega
              rw [List.getElem_append_right (by omega)]
              simp [hl1]
              exact ht
        obtain ⟨l, hl1, hl2⟩ := pick len (Nat.le_refl _)
        exact ⟨.r l, E, te, some a, cap, rfl, hte, by rw [hl1], by omega, by omega, hm, rdE_iff.2 fun j hj => by rw [Nat.zero_add]; exact hl2 j hj⟩

theorem open_D {T : TypeId} {t : Ty} (hT : tyOf T = some t) (hM : isMp t = false) {v : Value} {d : DataW H} {p : List MemPlace} {b0 : Nat} {r : Reach} (hv : Value.okWide Try.prog W r b0 T v) (h : DataW.Trod enc Try.prog W base spare held T v d p) (hL : LightD T d) :
    ∃ x cs, Pack t cs v ∧ Rd W (fun b => b < W.heap.size) x t cs := by
  obtain ⟨fuel, hf⟩ := h
  obtain ⟨y, hy⟩ := open_recD fuel _ _ hT hM hf hL
  refine ⟨y, v.cells.toList, ?_, Rd.keeps (fun b o _ ho => ⟨ho, lt_of_heap ho⟩) _ hy⟩
  cases t with
  | int k => obtain ⟨n, rfl⟩ := okWide_int (row_int hT).1 hv; rfl
  | bool => obtain ⟨n, rfl⟩ := okWide_bool (row_bool hT).1 hv; rfl
  | str => obtain ⟨n, rfl⟩ := okWide_string (row_str hT).1 hv; rfl
  | map K V => cases hM
  | row E => obtain ⟨A, l, c, rfl⟩ := okWide_slice (row_row hT).1 hv; rfl
  | st S =>
    obtain ⟨fields, fs, zc, i, hu, -⟩ := row_st hT
    obtain ⟨cs, rfl, -⟩ := okWide_struct hu hv
    simp [Pack, Value.cells]
end

def ArgsV (W : World) : List Ar → List Value → List D → Prop
  | [], vs, ds => vs = [] ∧ ds = []
  | .val t :: l, vs, ds => ∃ v r d ds', vs = v :: r ∧ ds = d :: ds' ∧ (∃ cs, Pack t cs v ∧ Rd W (FFD (fun _ => True) (fun _ => none) []) d t cs) ∧ ArgsV W l r ds'
  | _ :: _, _, _ => False
theorem ArgsV.ok {W : World} {V : List Value} : ∀ {i : Nat} {ar : List Ar} {vs : List Value} {ds : List D}, ArgsV W ar vs ds → ArgsOk V (fun _ => True) (fun _ => none) W (idx i ar) vs ds ∧ vs.length = ar.length
  | _, [], vs, ds, h => ⟨h, by rw [h.1]; rfl⟩
  | i, .val t :: l, vs, ds, ⟨v, r, d, ds', e1, e2, h1, h⟩ => by
    obtain ⟨h2, h3⟩ := ArgsV.ok (V := V) (i := i + 1) h
    exact ⟨⟨v, r, d, ds', e1, e2, h1, h2⟩, by rw [e1]; simp [h3]⟩
  | _, .ref _ :: _, _, _, h => h.elim
  | _, .rref _ :: _, _, _, h => h.elim
  | _, .own _ :: _, _, _, h => h.elim
  | _, .mref _ :: _, _, _, h => h.elim
  | _, .nils :: _, _, _, h => h.elim
  | _, .nilp :: _, _, _, h => h.elim
  | _, .fn _ _ :: _, _, _, h => h.elim
  | _, .cell _ _ :: _, _, _, h => h.elim
theorem law_calls {ct : Ct} {g : List D → Option (List D)} (h : FOk ct g) (hrs : ct.rs = [(.bool, false)]) (hvr : ct.vr = []) {W : World} {vs : List Value} {ds : List D} (ha : ArgsV W ct.ar vs ds) (hg : g ds = some [.b true]) :
    Calls Try.prog ct.f vs.toArray W fun e W' => e = .returned (.bool true) ∧ But Nil W W' := by
  obtain ⟨h1, h2⟩ := ArgsV.ok (V := vs ++ []) (i := 0) ha
  refine (h.call (fun _ => True) (fun _ => none) W vs [] ds _ hg (by constructor <;> simp) h2 (by simpa [Ct.all, hvr, idx] using h1)).mono ?_
  rintro e W' (⟨T, -, ho, -⟩ | ⟨rs, p', rfl, hb, hr, -⟩)
  · cases ho
  rw [hrs] at hr
  obtain ⟨v, r, d, ds', rfl, hd, ⟨cs, hp, hc⟩, rfl⟩ := hr
  simp at hd
  obtain ⟨rfl, rfl⟩ := hd
  obtain ⟨e1, e2⟩ : D.b true = .b true ∧ cs = [.bool true] := ⟨rfl, by
    have hc' : Rd W' (FFD (fun _ => True) p' []) (.b true) .bool cs := hc
    exact hc'.2⟩
  subst e2
  have hpv : [Value.bool true] = [v] := hp
  injection hpv with hpv
  subst hpv
  exact ⟨rfl, hb.but.mono fun i hi _ => by obtain ⟨x, hx⟩ := hi; cases hx⟩
end Go.Proofs.Ytmebmpgffhajbaa

