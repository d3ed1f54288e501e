/-
  Deref and Get: the program and the reference compute the same term; the law CellsGets on data. No condition.
-/
import Derived.Test.YtinclokohcommaaZe
import Derived.Test.YtinclokohcommaaQYr
import Derived.Test.YtinclokohcommaaQFe
namespace Go.Proofs.Ytinclokohcommaa
open Go.RowKit
set_option linter.unusedVariables false
set_option linter.unusedSimpArgs false

def gDer : List D → Option (List D)
  | [s, c] => if validR (dS s) then some [eC (derS (dS s) (dC c))] else none
  | _ => none
theorem der_0 : D.a [.i 0, .i 0] = eC ⟨0, 0⟩ := rfl
theorem ok_cells_Deref : FOk ct_cells_Deref gDer := fok_cells_Deref ok_cells_ValidCell ok_cells_tag fun ds outs hw hg => by
  obtain ⟨d, r, rfl, hd, e, r', rfl, he, rfl⟩ := hw
  obtain ⟨s, rfl, hs⟩ := wfS hd
  obtain ⟨c, rfl, hc⟩ := wfC he
  simp only [gDer, dS_eS, dC_eC, Option.ite_none_right_eq_some, Option.some.injEq] at hg
  obtain ⟨hv, rfl⟩ := hg
  have hvs := validR_vs hv
  have hl := vr_len hv
  have hvc : ∀ c, vcP s c = vcR s c := hvs.vc
  simp only [tree_cells_Deref, go_need, go_br, go_leaf, go_back, allSay, X.says, X.ev, X.evs, evl, tblS, List.getD_cons_zero, List.getD_cons_succ, List.getElem?_cons_zero, List.getElem?_cons_succ, tt_b, int_i, str_s, rs_r, Option.isSome_some, Option.getD_some, decide_eq_true_eq, decide_eq_false_iff_not, dS_eS, dC_eC, dU_eU, dW_eW, dY_eY, eC_0, eC_1, eU_0, eU_1, eW_0, eW_1, eW_2, eY_0, eY_1, eS_0, eS_1, eS_2, eS_3, eS_4, eS_5, List.length_map, i_inj, b_inj, s_inj, eC_eq, eU_eq, eW_eq, eY_eq, eS_eq, rng64, List.take_succ_cons, List.take_zero, List.nil_append, List.cons_append, decide_true, decide_false, Bool.or_true, true_and, and_true, gSCb, hvc, der_0]
  refine ⟨fun h => ?_, fun h => ?_⟩
  · simp only [derS, show vcR s c = false by simpa using h]
    rfl
  have hvc' : vcR s c = true := by simpa using h
  rw [go_loop]
  refine ⟨fun st => ∃ (k : Nat) (x : Ce), k ≤ s.cs.length ∧ st = [.i k, eC x] ∧ derN s (s.cs.length - k) x = derS s c, fun st => s.cs.length - (st.getD 0 .u).int.toNat, ⟨0, c, Nat.zero_le _, rfl, by rw [Nat.sub_zero, der_len hv hvc', derS, if_pos hvc']⟩, ?_⟩
  rintro st - ⟨k, x, hk, rfl, hP⟩
  rw [go_br]
  refine ⟨fun hlt => ?_, fun hlt => ?_⟩
  · simp only [go_need, go_br, go_leaf, go_back, allSay, X.says, X.ev, X.evs, evl, tblS, List.getD_cons_zero, List.getD_cons_succ, List.getElem?_cons_zero, List.getElem?_cons_succ, tt_b, int_i, str_s, rs_r, Option.isSome_some, Option.getD_some, decide_eq_true_eq, decide_eq_false_iff_not, dS_eS, dC_eC, dU_eU, dW_eW, dY_eY, eC_0, eC_1, eU_0, eU_1, eW_0, eW_1, eW_2, eY_0, eY_1, eS_0, eS_1, eS_2, eS_3, eS_4, eS_5, List.length_map, i_inj, b_inj, s_inj, eC_eq, eU_eq, eW_eq, eY_eq, eS_eq, rng64, List.take_succ_cons, List.take_zero, List.nil_append, List.cons_append, decide_true, decide_false, Bool.or_true, true_and, and_true] at hlt
    have hkl : k < s.cs.length := by omega
    obtain ⟨n, hn⟩ : ∃ n, s.cs.length - k = n + 1 := ⟨s.cs.length - k - 1, by omega⟩
    rw [hn] at hP
    unfold derN at hP
    have hn2 : s.cs.length - (k + 1) = n := by omega
    have ht := hvs.tag_in x.n
    by_cases h0 : x.t = 0
    · cases hin : inS s x.n with
      | true =>
        have h3 := inS_iff.1 hin
        rw [hin] at ht
        have ht' : ¬ tagS s x.n < 0 := by have := of_decide_eq_true ht; omega
        simp only [go_need, go_br, go_leaf, go_back, allSay, X.says, X.ev, X.evs, evl, tblS, List.getD_cons_zero, List.getD_cons_succ, List.getElem?_cons_zero, List.getElem?_cons_succ, tt_b, int_i, str_s, rs_r, Option.isSome_some, Option.getD_some, decide_eq_true_eq, decide_eq_false_iff_not, dS_eS, dC_eC, dU_eU, dW_eW, dY_eY, eC_0, eC_1, eU_0, eU_1, eW_0, eW_1, eW_2, eY_0, eY_1, eS_0, eS_1, eS_2, eS_3, eS_4, eS_5, List.length_map, i_inj, b_inj, s_inj, eC_eq, eU_eq, eW_eq, eY_eq, eS_eq, rng64, List.take_succ_cons, List.take_zero, List.nil_append, List.cons_append, decide_true, decide_false, Bool.or_true, true_and, and_true, gSIi, cell_get hin, h0, ht', h3.1, h3.2]
        refine ⟨fun hx => ?_, fun hx => ?_⟩
        · have hx' : cellAt s x.n = x := by simpa using hx
          rw [if_neg (fun q => q.2.2 hx')] at hP
          rw [hP]
        · have hx' : cellAt s x.n ≠ x := by simpa using hx
          rw [if_pos ⟨h0, hin, hx'⟩] at hP
          refine ⟨⟨by omega, by omega⟩, ?_⟩
          rw [updB, if_pos rfl]
          refine ⟨⟨k + 1, cellAt s x.n, by omega, by simp, by rw [hn2]; exact hP⟩, ?_⟩
          simp [D.int]
          omega
      | false =>
        rw [hin] at ht
        have ht' : tagS s x.n < 0 := by have := of_decide_eq_false ht; omega
        rw [if_neg (fun q => by rw [hin] at q; cases q.2.1)] at hP
        simp only [go_need, go_br, go_leaf, go_back, allSay, X.says, X.ev, X.evs, evl, tblS, List.getD_cons_zero, List.getD_cons_succ, List.getElem?_cons_zero, List.getElem?_cons_succ, tt_b, int_i, str_s, rs_r, Option.isSome_some, Option.getD_some, decide_eq_true_eq, decide_eq_false_iff_not, dS_eS, dC_eC, dU_eU, dW_eW, dY_eY, eC_0, eC_1, eU_0, eU_1, eW_0, eW_1, eW_2, eY_0, eY_1, eS_0, eS_1, eS_2, eS_3, eS_4, eS_5, List.length_map, i_inj, b_inj, s_inj, eC_eq, eU_eq, eW_eq, eY_eq, eS_eq, rng64, List.take_succ_cons, List.take_zero, List.nil_append, List.cons_append, decide_true, decide_false, Bool.or_true, true_and, and_true, gSIi, h0, ht', ← hP]
        simp
    · rw [if_neg (fun q => h0 q.1)] at hP
      simp only [go_need, go_br, go_leaf, go_back, allSay, X.says, X.ev, X.evs, evl, tblS, List.getD_cons_zero, List.getD_cons_succ, List.getElem?_cons_zero, List.getElem?_cons_succ, tt_b, int_i, str_s, rs_r, Option.isSome_some, Option.getD_some, decide_eq_true_eq, decide_eq_false_iff_not, dS_eS, dC_eC, dU_eU, dW_eW, dY_eY, eC_0, eC_1, eU_0, eU_1, eW_0, eW_1, eW_2, eY_0, eY_1, eS_0, eS_1, eS_2, eS_3, eS_4, eS_5, List.length_map, i_inj, b_inj, s_inj, eC_eq, eU_eq, eW_eq, eY_eq, eS_eq, rng64, List.take_succ_cons, List.take_zero, List.nil_append, List.cons_append, decide_true, decide_false, Bool.or_true, true_and, and_true, gSIi, h0, ← hP]
      simp
  · simp only [go_need, go_br, go_leaf, go_back, allSay, X.says, X.ev, X.evs, evl, tblS, List.getD_cons_zero, List.getD_cons_succ, List.getElem?_cons_zero, List.getElem?_cons_succ, tt_b, int_i, str_s, rs_r, Option.isSome_some, Option.getD_some, decide_eq_true_eq, decide_eq_false_iff_not, dS_eS, dC_eC, dU_eU, dW_eW, dY_eY, eC_0, eC_1, eU_0, eU_1, eW_0, eW_1, eW_2, eY_0, eY_1, eS_0, eS_1, eS_2, eS_3, eS_4, eS_5, List.length_map, i_inj, b_inj, s_inj, eC_eq, eU_eq, eW_eq, eY_eq, eS_eq, rng64, List.take_succ_cons, List.take_zero, List.nil_append, List.cons_append, decide_true, decide_false, Bool.or_true, true_and, and_true] at hlt ⊢
    have : k = s.cs.length := by omega
    subst this
    rw [Nat.sub_self] at hP
    rw [← hP, derN]
theorem ok_ref30_Deref : FOk ct_ref30_Deref gDer := fok_ref30_Deref ok_ref30_ValidCell ok_ref30_ranged fun ds outs hw hg => by
  obtain ⟨d, r, rfl, hd, e, r', rfl, he, rfl⟩ := hw
  obtain ⟨s, rfl, hs⟩ := wfS hd
  obtain ⟨c, rfl, hc⟩ := wfC he
  simp only [gDer, dS_eS, dC_eC, Option.ite_none_right_eq_some, Option.some.injEq] at hg
  obtain ⟨hv, rfl⟩ := hg
  have hl := vr_len hv
  simp only [tree_ref30_Deref, go_need, go_br, go_leaf, go_back, allSay, X.says, X.ev, X.evs, evl, tblS, List.getD_cons_zero, List.getD_cons_succ, List.getElem?_cons_zero, List.getElem?_cons_succ, tt_b, int_i, str_s, rs_r, Option.isSome_some, Option.getD_some, decide_eq_true_eq, decide_eq_false_iff_not, dS_eS, dC_eC, dU_eU, dW_eW, dY_eY, eC_0, eC_1, eU_0, eU_1, eW_0, eW_1, eW_2, eY_0, eY_1, eS_0, eS_1, eS_2, eS_3, eS_4, eS_5, List.length_map, i_inj, b_inj, s_inj, eC_eq, eU_eq, eW_eq, eY_eq, eS_eq, rng64, List.take_succ_cons, List.take_zero, List.nil_append, List.cons_append, decide_true, decide_false, Bool.or_true, true_and, and_true, gSCb, der_0]
  refine ⟨fun h => ?_, fun h => ?_⟩
  · simp only [derS, show vcR s c = false by simpa using h]
    rfl
  have hvc' : vcR s c = true := by simpa using h
  rw [go_loop]
  refine ⟨fun st => ∃ (k : Nat) (x : Ce), k ≤ s.cs.length + 1 ∧ st = [.i k, eC x] ∧ derN s (s.cs.length + 1 - k) x = derS s c, fun st => s.cs.length + 1 - (st.getD 0 .u).int.toNat, ⟨0, c, Nat.zero_le _, rfl, by rw [Nat.sub_zero, derS, if_pos hvc']⟩, ?_⟩
  rintro st - ⟨k, x, hk, rfl, hP⟩
  simp only [go_need, go_br, go_leaf, go_back]
  by_cases hkl : k ≤ s.cs.length
  · obtain ⟨n, hn⟩ : ∃ n, s.cs.length + 1 - k = n + 1 := ⟨s.cs.length - k, by omega⟩
    rw [hn] at hP
    unfold derN at hP
    have hn2 : s.cs.length + 1 - (k + 1) = n := by omega
    have hk' : (k : Int) ≤ s.cs.length := by omega
    by_cases h0 : x.t = 0
    · cases hin : inS s x.n with
      | true =>
        have h3 := inS_iff.1 hin
        simp only [go_need, go_br, go_leaf, go_back, allSay, X.says, X.ev, X.evs, evl, tblS, List.getD_cons_zero, List.getD_cons_succ, List.getElem?_cons_zero, List.getElem?_cons_succ, tt_b, int_i, str_s, rs_r, Option.isSome_some, Option.getD_some, decide_eq_true_eq, decide_eq_false_iff_not, dS_eS, dC_eC, dU_eU, dW_eW, dY_eY, eC_0, eC_1, eU_0, eU_1, eW_0, eW_1, eW_2, eY_0, eY_1, eS_0, eS_1, eS_2, eS_3, eS_4, eS_5, List.length_map, i_inj, b_inj, s_inj, eC_eq, eU_eq, eW_eq, eY_eq, eS_eq, rng64, List.take_succ_cons, List.take_zero, List.nil_append, List.cons_append, decide_true, decide_false, Bool.or_true, true_and, and_true, gSIb, cell_get hin, h0, h3.1, h3.2, hin, hk']
        refine ⟨fun hx => ?_, fun hx => ?_⟩
        · have hx' : cellAt s x.n ≠ x := by simpa using hx
          rw [if_pos ⟨h0, hin, hx'⟩] at hP
          refine ⟨⟨by omega, by omega⟩, ?_⟩
          rw [updB, if_pos rfl]
          refine ⟨⟨k + 1, cellAt s x.n, by omega, by simp, by rw [hn2]; exact hP⟩, ?_⟩
          simp [D.int]
          omega
        · have hx' : cellAt s x.n = x := by simpa using hx
          rw [if_neg (fun q => q.2.2 hx')] at hP
          rw [hP]
      | false =>
        rw [if_neg (fun q => by rw [hin] at q; cases q.2.1)] at hP
        simp only [go_need, go_br, go_leaf, go_back, allSay, X.says, X.ev, X.evs, evl, tblS, List.getD_cons_zero, List.getD_cons_succ, List.getElem?_cons_zero, List.getElem?_cons_succ, tt_b, int_i, str_s, rs_r, Option.isSome_some, Option.getD_some, decide_eq_true_eq, decide_eq_false_iff_not, dS_eS, dC_eC, dU_eU, dW_eW, dY_eY, eC_0, eC_1, eU_0, eU_1, eW_0, eW_1, eW_2, eY_0, eY_1, eS_0, eS_1, eS_2, eS_3, eS_4, eS_5, List.length_map, i_inj, b_inj, s_inj, eC_eq, eU_eq, eW_eq, eY_eq, eS_eq, rng64, List.take_succ_cons, List.take_zero, List.nil_append, List.cons_append, decide_true, decide_false, Bool.or_true, true_and, and_true, gSIb, h0, hin, ← hP]
        simp
    · rw [if_neg (fun q => h0 q.1)] at hP
      simp only [go_need, go_br, go_leaf, go_back, allSay, X.says, X.ev, X.evs, evl, tblS, List.getD_cons_zero, List.getD_cons_succ, List.getElem?_cons_zero, List.getElem?_cons_succ, tt_b, int_i, str_s, rs_r, Option.isSome_some, Option.getD_some, decide_eq_true_eq, decide_eq_false_iff_not, dS_eS, dC_eC, dU_eU, dW_eW, dY_eY, eC_0, eC_1, eU_0, eU_1, eW_0, eW_1, eW_2, eY_0, eY_1, eS_0, eS_1, eS_2, eS_3, eS_4, eS_5, List.length_map, i_inj, b_inj, s_inj, eC_eq, eU_eq, eW_eq, eY_eq, eS_eq, rng64, List.take_succ_cons, List.take_zero, List.nil_append, List.cons_append, decide_true, decide_false, Bool.or_true, true_and, and_true, gSIb, h0, ← hP]
      simp
  · have : k = s.cs.length + 1 := by omega
    subst this
    rw [Nat.sub_self] at hP
    have hk' : ¬ ((s.cs.length + 1 : Nat) : Int) ≤ s.cs.length := by omega
    simp only [go_need, go_br, go_leaf, go_back, allSay, X.says, X.ev, X.evs, evl, tblS, List.getD_cons_zero, List.getD_cons_succ, List.getElem?_cons_zero, List.getElem?_cons_succ, tt_b, int_i, str_s, rs_r, Option.isSome_some, Option.getD_some, decide_eq_true_eq, decide_eq_false_iff_not, dS_eS, dC_eC, dU_eU, dW_eW, dY_eY, eC_0, eC_1, eU_0, eU_1, eW_0, eW_1, eW_2, eY_0, eY_1, eS_0, eS_1, eS_2, eS_3, eS_4, eS_5, List.length_map, i_inj, b_inj, s_inj, eC_eq, eU_eq, eW_eq, eY_eq, eS_eq, rng64, List.take_succ_cons, List.take_zero, List.nil_append, List.cons_append, decide_true, decide_false, Bool.or_true, true_and, and_true, hk', ← hP, derN]
    simp

/-! ### Get -/
def getQ (s : So) (c : Ce) (l : Int) (n : Nat) : Bool := validR s && (vcR s c && (decide (0 ≤ l) && decide (l < n)))
def gGet1 (n : Nat) : List D → Option (List D)
  | [c, l, s] => if getQ (dS s) (dC c) l.int n then some [eT (getN (dS s) n (dC c) l.int).1, .i (getN (dS s) n (dC c) l.int).2] else none
  | _ => none
def gGetR (n : Nat) : List D → Option (List D)
  | [s, c, l] => if getQ (dS s) (dC c) l.int n then some [eT (getN (dS s) n (dC c) l.int).1, .i (getN (dS s) n (dC c) l.int).2] else none
  | _ => none
theorem getL_neg {g : Ce → Int → Te × Int} {l : Int} (h : l < 0) : ∀ cs, getL g cs l = ([], l)
  | [] => rfl
  | c :: cs => if_pos h
theorem args_drop {s : So} {n : Int} {m k : Nat} (h : k < m) : (argsOf s n m).drop k = cellAt s (n + 1 + k) :: (argsOf s n m).drop (k + 1) := by
  have hl : k < (argsOf s n m).length := by simp [argsOf, h]
  rw [List.drop_eq_getElem_cons hl]
  simp [argsOf]
theorem sy_get {s : So} {i : Int} (h : 0 ≤ arS s i) : (D.r (s.ys.map eY)).get i = eY (syAt s i) := get_r eY (ar_rng h).1 (ar_rng h).2.1
theorem e_int (n : Int) : D.a ((D.a ((eT zT).fs.set 0 (.i 1))).fs.set 1 (.i n)) = eT (.mk 1 n ⟨#[]⟩ []) := rfl
theorem e_atom (x : ByteArray) : D.a ((D.a ((eT zT).fs.set 0 (.i 2))).fs.set 2 (.s x)) = eT (.mk 2 0 x []) := rfl
theorem e_var (n : Int) : D.a ((D.a ((eT zT).fs.set 0 (.i 0))).fs.set 1 (.i n)) = eT (.mk 0 n ⟨#[]⟩ []) := rfl
theorem e_var' (n : Int) : D.a ((eT zT).fs.set 1 (.i n)) = eT (.mk 0 n ⟨#[]⟩ []) := rfl
theorem e_str (x : ByteArray) : D.a ((D.a ((eT zT).fs.set 0 (.i 3))).fs.set 2 (.s x)) = eT (.mk 3 0 x []) := rfl

theorem ok_cells_Get_1 : ∀ n, FOk ct_cells_Get_1 (gGet1 n)
  | 0 => (FOk.none enter_cells_Get_1).sub fun ds outs h => by
    unfold gGet1 at h
    split at h
    · simp only [getQ, Option.ite_none_right_eq_some, Bool.and_eq_true, decide_eq_true_eq] at h
      omega
    · cases h
  | f + 1 => fok_cells_Get_1 (ok_cells_Get_1 f) ok_cells_Deref ok_term_Int ok_cells_arity ok_term_Atom ok_cells_tag fun ds outs hw hg => by
    obtain ⟨d, r, rfl, hd, e, r', rfl, he, e2, r2, rfl, he2, hw⟩ := hw
    obtain rfl : r2 = [] := hw
    obtain ⟨c, rfl, hc⟩ := wfC hd
    obtain ⟨l, rfl, hl⟩ := wfI he
    obtain ⟨s, rfl, hs⟩ := wfS he2
    simp only [gGet1, getQ, dS_eS, dC_eC, int_i, Option.ite_none_right_eq_some, Option.some.injEq, Bool.and_eq_true, decide_eq_true_eq] at hg
    obtain ⟨⟨hv, hvc, h0, hf⟩, rfl⟩ := hg
    have h0 := of_decide_eq_true h0
    have hf := of_decide_eq_true hf
    have hlen := vr_len hv
    have hd := derS_vc hv hvc
    have hder : gDer [eS s, eC c] = some [eC (derS s c)] := by simp only [gDer, dS_eS, dC_eC, hv, if_true]
    simp only [tree_cells_Get_1, go_need, go_br, go_leaf, go_back, allSay, X.says, X.ev, X.evs, evl, tblS, List.getD_cons_zero, List.getD_cons_succ, List.getElem?_cons_zero, List.getElem?_cons_succ, tt_b, int_i, str_s, rs_r, Option.isSome_some, Option.getD_some, decide_eq_true_eq, decide_eq_false_iff_not, dS_eS, dC_eC, dU_eU, dW_eW, dY_eY, eC_0, eC_1, eU_0, eU_1, eW_0, eW_1, eW_2, eY_0, eY_1, eS_0, eS_1, eS_2, eS_3, eS_4, eS_5, List.length_map, i_inj, b_inj, s_inj, eC_eq, eU_eq, eW_eq, eY_eq, eS_eq, rng64, List.take_succ_cons, List.take_zero, List.nil_append, List.cons_append, decide_true, decide_false, Bool.or_true, true_and, and_true, dT_eT, eT_0, eT_1, eT_2, eT_3, eT_eq, eT_z, hder, gIt, gSIi, gSt]
    refine ⟨⟨by omega, by omega⟩, fun hn => ?_, fun hn => ?_⟩
    · rw [getN, if_pos hn]
    have hn' : ¬ l - 1 < 0 := hn
    unfold getN
    simp only [if_neg hn']
    refine ⟨fun h1 => ?_, fun h1 => ?_⟩
    · rw [if_pos h1]
    simp only [if_neg h1]
    have h2' : (derS s c).t = 2 → arS s (derS s c).n = 0 := fun ht => by
      simp only [vcR, ht] at hd
      simpa using hd
    have h3' : (derS s c).t = 3 → tagS s (derS s c).n = 4 := fun ht => by
      simp only [vcR, ht] at hd
      simpa using hd
    by_cases h2 : (derS s c).t = 2
    · have ha := h2' h2
      have hsy := sy_get (s := s) (i := (derS s c).n) (by omega)
      have hr := ar_rng (s := s) (n := (derS s c).n) (by omega)
      have hnm := vr_name hv (n := (derS s c).n) (by omega)
      simp [h2, ha, hsy, eY_0, hr.1, hr.2.1, str_s, atomT_ok hnm]
    simp only [h2]
    by_cases h3 : (derS s c).t = 3
    · have htag := h3' h3
      have hin := tag_in' (by decide) htag
      have htag' := htag
      rw [tagS_in hin] at htag'
      obtain ⟨a1, a2, a3⟩ := vr_fun hv hin htag'
      have hr := ar_rng (s := s) (n := (cellAt s (derS s c).n).n) (by omega)
      have hsy := sy_get (s := s) (i := (cellAt s (derS s c).n).n) (by omega)
      have hi := inS_iff.1 hin
      have hge : (0 : Int) ≤ arS s (cellAt s (derS s c).n).n := by omega
      have hsr : (syAt s (cellAt s (derS s c).n).n).ar = arS s (cellAt s (derS s c).n).n := hr.2.2.symm
      simp only [h3, htag, go_need, go_br, go_leaf, go_back, allSay, X.says, X.ev, X.evs, evl, tblS, List.getD_cons_zero, List.getD_cons_succ, List.getElem?_cons_zero, List.getElem?_cons_succ, tt_b, int_i, str_s, rs_r, Option.isSome_some, Option.getD_some, decide_eq_true_eq, decide_eq_false_iff_not, dS_eS, dC_eC, dU_eU, dW_eW, dY_eY, eC_0, eC_1, eU_0, eU_1, eW_0, eW_1, eW_2, eY_0, eY_1, eS_0, eS_1, eS_2, eS_3, eS_4, eS_5, List.length_map, i_inj, b_inj, s_inj, eC_eq, eU_eq, eW_eq, eY_eq, eS_eq, rng64, List.take_succ_cons, List.take_zero, List.nil_append, List.cons_append, decide_true, decide_false, Bool.or_true, true_and, and_true, dT_eT, eT_0, eT_1, eT_2, eT_3, eT_eq, eT_z, cell_get hin, hsy, hr.1, hr.2.1, hi.1, hi.2, hge]
      generalize hF : getL (getN s f) (argsOf s (derS s c).n (arS s (cellAt s (derS s c).n).n).toNat) (l - 1) = F
      generalize har : arS s (cellAt s (derS s c).n).n = ar at *
      refine ⟨fun h => by simp at h, fun _ => ⟨fun _ => ⟨⟨by omega, by omega⟩, ?_⟩, fun h => by simp at h⟩⟩
      simp only [if_false, if_true]
      rw [go_loop]
      refine ⟨fun st => ∃ (k : Nat) (x : Int) (ts : List Te), (k : Int) ≤ ar ∧ -1 ≤ x ∧ x ≤ l - 1 ∧ ts.length = k ∧ st = [.i ((derS s c).n + 1 + k), .i x, eT (.mk 3 0 (syAt s (cellAt s (derS s c).n).n).name ts)] ∧ F = (ts ++ (getL (getN s f) ((argsOf s (derS s c).n ar.toNat).drop k) x).1, (getL (getN s f) ((argsOf s (derS s c).n ar.toNat).drop k) x).2), fun st => ar.toNat - ((st.getD 0 .u).int - (derS s c).n - 1).toNat, ⟨0, l - 1, [], by omega, by omega, by omega, rfl, ?_, by rw [← hF]; rfl⟩, ?_⟩
      · simp only [X.evs, go_need, go_br, go_leaf, go_back, allSay, X.says, X.ev, X.evs, evl, tblS, List.getD_cons_zero, List.getD_cons_succ, List.getElem?_cons_zero, List.getElem?_cons_succ, tt_b, int_i, str_s, rs_r, Option.isSome_some, Option.getD_some, decide_eq_true_eq, decide_eq_false_iff_not, dS_eS, dC_eC, dU_eU, dW_eW, dY_eY, eC_0, eC_1, eU_0, eU_1, eW_0, eW_1, eW_2, eY_0, eY_1, eS_0, eS_1, eS_2, eS_3, eS_4, eS_5, List.length_map, i_inj, b_inj, s_inj, eC_eq, eU_eq, eW_eq, eY_eq, eS_eq, rng64, List.take_succ_cons, List.take_zero, List.nil_append, List.cons_append, decide_true, decide_false, Bool.or_true, true_and, and_true, dT_eT, eT_0, eT_1, eT_2, eT_3, eT_eq, eT_z, hder, cell_get hin, hsy, e_str]
        simp
      rintro st - ⟨k, x, ts, hk, hx1, hx2, hts, rfl, hFk⟩
      by_cases hkl : (k : Int) < ar
      · obtain ⟨b1, b2⟩ := a3 k hkl
        have b3 := inS_iff.1 b1
        have ht0 : 0 ≤ tagS s ((derS s c).n + 1 + k) := by
          have := (validR_vs hv).tag_in ((derS s c).n + 1 + k)
          rw [b1] at this
          exact of_decide_eq_true this
        have hle : (derS s c).n + 1 + k ≤ (derS s c).n + ar := by omega
        by_cases hx0 : 0 ≤ x
        · have hq : gGet1 f [eC (cellAt s ((derS s c).n + 1 + k)), .i x, eS s] = some [eT (getN s f (cellAt s ((derS s c).n + 1 + k)) x).1, .i (getN s f (cellAt s ((derS s c).n + 1 + k)) x).2] := by
            have h1 : x < f := by omega
            simp only [gGet1, getQ, dS_eS, dC_eC, int_i, hv, b2, hx0, h1, decide_true, Bool.and_true, if_true]
          have hnx := getN_le s f (cellAt s ((derS s c).n + 1 + k)) x hx0
          simp only [go_need, go_br, go_leaf, go_back, allSay, X.says, X.ev, X.evs, evl, tblS, List.getD_cons_zero, List.getD_cons_succ, List.getElem?_cons_zero, List.getElem?_cons_succ, tt_b, int_i, str_s, rs_r, Option.isSome_some, Option.getD_some, decide_eq_true_eq, decide_eq_false_iff_not, dS_eS, dC_eC, dU_eU, dW_eW, dY_eY, eC_0, eC_1, eU_0, eU_1, eW_0, eW_1, eW_2, eY_0, eY_1, eS_0, eS_1, eS_2, eS_3, eS_4, eS_5, List.length_map, i_inj, b_inj, s_inj, eC_eq, eU_eq, eW_eq, eY_eq, eS_eq, rng64, List.take_succ_cons, List.take_zero, List.nil_append, List.cons_append, decide_true, decide_false, Bool.or_true, true_and, and_true, dT_eT, eT_0, eT_1, eT_2, eT_3, eT_eq, eT_z, hder, cell_get hin, cell_get b1, hsy, hsr, gSIi, hle, ht0, hq, hx0, Te_l, b3.1, b3.2]
          refine ⟨⟨by omega, by omega⟩, fun _ => ⟨by omega, ⟨by omega, by omega⟩, ?_⟩, fun h => by simp at h⟩
          rw [updB, if_pos rfl]
          refine ⟨⟨k + 1, (getN s f (cellAt s ((derS s c).n + 1 + k)) x).2, ts ++ [(getN s f (cellAt s ((derS s c).n + 1 + k)) x).1], by omega, by omega, by omega, by simp [hts], ?_, ?_⟩, ?_⟩
          · rw [eT_snoc]
            simp
            omega
          · rw [hFk, args_drop (by omega), getL, if_neg (by omega)]
            simp
          · simp [D.int]
            omega
        · simp only [go_need, go_br, go_leaf, go_back, allSay, X.says, X.ev, X.evs, evl, tblS, List.getD_cons_zero, List.getD_cons_succ, List.getElem?_cons_zero, List.getElem?_cons_succ, tt_b, int_i, str_s, rs_r, Option.isSome_some, Option.getD_some, decide_eq_true_eq, decide_eq_false_iff_not, dS_eS, dC_eC, dU_eU, dW_eW, dY_eY, eC_0, eC_1, eU_0, eU_1, eW_0, eW_1, eW_2, eY_0, eY_1, eS_0, eS_1, eS_2, eS_3, eS_4, eS_5, List.length_map, i_inj, b_inj, s_inj, eC_eq, eU_eq, eW_eq, eY_eq, eS_eq, rng64, List.take_succ_cons, List.take_zero, List.nil_append, List.cons_append, decide_true, decide_false, Bool.or_true, true_and, and_true, dT_eT, eT_0, eT_1, eT_2, eT_3, eT_eq, eT_z, hder, cell_get hin, cell_get b1, hsy, hsr, gSIi, hle, ht0, hx0]
          rw [getL_neg (by omega)] at hFk
          refine ⟨⟨by omega, by omega⟩, fun h => by simp at h, fun _ => ?_⟩
          simp [hFk]
      · have hle : ¬ (derS s c).n + 1 + k ≤ (derS s c).n + ar := by omega
        have : (argsOf s (derS s c).n ar.toNat).drop k = [] := List.drop_eq_nil_of_le (by simp [argsOf]; omega)
        rw [this] at hFk
        simp only [go_need, go_br, go_leaf, go_back, allSay, X.says, X.ev, X.evs, evl, tblS, List.getD_cons_zero, List.getD_cons_succ, List.getElem?_cons_zero, List.getElem?_cons_succ, tt_b, int_i, str_s, rs_r, Option.isSome_some, Option.getD_some, decide_eq_true_eq, decide_eq_false_iff_not, dS_eS, dC_eC, dU_eU, dW_eW, dY_eY, eC_0, eC_1, eU_0, eU_1, eW_0, eW_1, eW_2, eY_0, eY_1, eS_0, eS_1, eS_2, eS_3, eS_4, eS_5, List.length_map, i_inj, b_inj, s_inj, eC_eq, eU_eq, eW_eq, eY_eq, eS_eq, rng64, List.take_succ_cons, List.take_zero, List.nil_append, List.cons_append, decide_true, decide_false, Bool.or_true, true_and, and_true, dT_eT, eT_0, eT_1, eT_2, eT_3, eT_eq, eT_z, hder, cell_get hin, hsy, hsr, gSIi, hle]
        refine ⟨⟨by omega, by omega⟩, fun h => by simp at h, fun _ => ?_⟩
        simp [hFk, getL]
    · simp only [h3, go_need, go_br, go_leaf, go_back, allSay, X.says, X.ev, X.evs, evl, tblS, List.getD_cons_zero, List.getD_cons_succ, List.getElem?_cons_zero, List.getElem?_cons_succ, tt_b, int_i, str_s, rs_r, Option.isSome_some, Option.getD_some, decide_eq_true_eq, decide_eq_false_iff_not, dS_eS, dC_eC, dU_eU, dW_eW, dY_eY, eC_0, eC_1, eU_0, eU_1, eW_0, eW_1, eW_2, eY_0, eY_1, eS_0, eS_1, eS_2, eS_3, eS_4, eS_5, List.length_map, i_inj, b_inj, s_inj, eC_eq, eU_eq, eW_eq, eY_eq, eS_eq, rng64, List.take_succ_cons, List.take_zero, List.nil_append, List.cons_append, decide_true, decide_false, Bool.or_true, true_and, and_true, dT_eT, eT_0, eT_1, eT_2, eT_3, eT_eq, eT_z]
      refine ⟨fun h => by simp at h, fun _ => ⟨by simp, fun h => by simp at h, fun _ => ?_⟩⟩
      simp only [e_var, if_false]

theorem ok_ref30_get : ∀ n, FOk ct_ref30_get (gGetR n)
  | 0 => (FOk.none enter_ref30_get).sub fun ds outs h => by
    unfold gGetR at h
    split at h
    · simp only [getQ, Option.ite_none_right_eq_some, Bool.and_eq_true, decide_eq_true_eq] at h
      omega
    · cases h
  | f + 1 => fok_ref30_get ok_ref30_Deref (ok_ref30_get f) fun ds outs hw hg => by
    obtain ⟨d, r, rfl, hd, e, r', rfl, he, e2, r2, rfl, he2, hw⟩ := hw
    obtain rfl : r2 = [] := hw
    obtain ⟨s, rfl, hs⟩ := wfS hd
    obtain ⟨c, rfl, hc⟩ := wfC he
    obtain ⟨l, rfl, hl⟩ := wfI he2
    simp only [gGetR, getQ, dS_eS, dC_eC, int_i, Option.ite_none_right_eq_some, Option.some.injEq, Bool.and_eq_true, decide_eq_true_eq] at hg
    obtain ⟨⟨hv, hvc, h0, hf⟩, rfl⟩ := hg
    have h0 := of_decide_eq_true h0
    have hf := of_decide_eq_true hf
    have hlen := vr_len hv
    have hd := derS_vc hv hvc
    have hder : gDer [eS s, eC c] = some [eC (derS s c)] := by simp only [gDer, dS_eS, dC_eC, hv, if_true]
    simp only [tree_ref30_get, go_need, go_br, go_leaf, go_back, allSay, X.says, X.ev, X.evs, evl, tblS, List.getD_cons_zero, List.getD_cons_succ, List.getElem?_cons_zero, List.getElem?_cons_succ, tt_b, int_i, str_s, rs_r, Option.isSome_some, Option.getD_some, decide_eq_true_eq, decide_eq_false_iff_not, dS_eS, dC_eC, dU_eU, dW_eW, dY_eY, eC_0, eC_1, eU_0, eU_1, eW_0, eW_1, eW_2, eY_0, eY_1, eS_0, eS_1, eS_2, eS_3, eS_4, eS_5, List.length_map, i_inj, b_inj, s_inj, eC_eq, eU_eq, eW_eq, eY_eq, eS_eq, rng64, List.take_succ_cons, List.take_zero, List.nil_append, List.cons_append, decide_true, decide_false, Bool.or_true, true_and, and_true, dT_eT, eT_0, eT_1, eT_2, eT_3, eT_eq, eT_z, hder, gIt, gSIi, gSt]
    refine ⟨⟨by omega, by omega⟩, fun hn => ?_, fun hn => ?_⟩
    · rw [getN, if_pos hn]
    have hn' : ¬ l - 1 < 0 := hn
    unfold getN
    simp only [if_neg hn']
    refine ⟨fun h1 => ?_, fun h1 => ?_⟩
    · rw [if_pos h1, e_int]
    simp only [if_neg h1]
    have h2' : (derS s c).t = 2 → arS s (derS s c).n = 0 := fun ht => by
      simp only [vcR, ht] at hd
      simpa using hd
    have h3' : (derS s c).t = 3 → tagS s (derS s c).n = 4 := fun ht => by
      simp only [vcR, ht] at hd
      simpa using hd
    by_cases h2 : (derS s c).t = 2
    · have ha := h2' h2
      have hsy := sy_get (s := s) (i := (derS s c).n) (by omega)
      have hr := ar_rng (s := s) (n := (derS s c).n) (by omega)
      simp only [h2, go_need, go_br, go_leaf, go_back, allSay, X.says, X.ev, X.evs, evl, tblS, List.getD_cons_zero, List.getD_cons_succ, List.getElem?_cons_zero, List.getElem?_cons_succ, tt_b, int_i, str_s, rs_r, Option.isSome_some, Option.getD_some, decide_eq_true_eq, decide_eq_false_iff_not, dS_eS, dC_eC, dU_eU, dW_eW, dY_eY, eC_0, eC_1, eU_0, eU_1, eW_0, eW_1, eW_2, eY_0, eY_1, eS_0, eS_1, eS_2, eS_3, eS_4, eS_5, List.length_map, i_inj, b_inj, s_inj, eC_eq, eU_eq, eW_eq, eY_eq, eS_eq, rng64, List.take_succ_cons, List.take_zero, List.nil_append, List.cons_append, decide_true, decide_false, Bool.or_true, true_and, and_true, dT_eT, eT_0, eT_1, eT_2, eT_3, eT_eq, eT_z, hsy, hr.1, hr.2.1]
      refine ⟨fun _ => ?_, fun h => absurd trivial h⟩
      simp only [if_true, e_atom]
    simp only [h2]
    by_cases h3 : (derS s c).t = 3
    · have htag := h3' h3
      have hin := tag_in' (by decide) htag
      have htag' := htag
      rw [tagS_in hin] at htag'
      obtain ⟨a1, a2, a3⟩ := vr_fun hv hin htag'
      have hr := ar_rng (s := s) (n := (cellAt s (derS s c).n).n) (by omega)
      have hsy := sy_get (s := s) (i := (cellAt s (derS s c).n).n) (by omega)
      have hi := inS_iff.1 hin
      have hsr : (syAt s (cellAt s (derS s c).n).n).ar = arS s (cellAt s (derS s c).n).n := hr.2.2.symm
      simp only [h3, go_need, go_br, go_leaf, go_back, allSay, X.says, X.ev, X.evs, evl, tblS, List.getD_cons_zero, List.getD_cons_succ, List.getElem?_cons_zero, List.getElem?_cons_succ, tt_b, int_i, str_s, rs_r, Option.isSome_some, Option.getD_some, decide_eq_true_eq, decide_eq_false_iff_not, dS_eS, dC_eC, dU_eU, dW_eW, dY_eY, eC_0, eC_1, eU_0, eU_1, eW_0, eW_1, eW_2, eY_0, eY_1, eS_0, eS_1, eS_2, eS_3, eS_4, eS_5, List.length_map, i_inj, b_inj, s_inj, eC_eq, eU_eq, eW_eq, eY_eq, eS_eq, rng64, List.take_succ_cons, List.take_zero, List.nil_append, List.cons_append, decide_true, decide_false, Bool.or_true, true_and, and_true, dT_eT, eT_0, eT_1, eT_2, eT_3, eT_eq, eT_z, cell_get hin, hsy, hr.1, hr.2.1, hi.1, hi.2]
      generalize hF : getL (getN s f) (argsOf s (derS s c).n (arS s (cellAt s (derS s c).n).n).toNat) (l - 1) = F
      generalize har : arS s (cellAt s (derS s c).n).n = ar at *
      refine ⟨fun h => h.elim, fun _ => ⟨fun _ => ?_, fun h => absurd trivial h⟩⟩
      simp only [if_false, if_true]
      rw [go_loop]
      refine ⟨fun st => ∃ (k : Nat) (x : Int) (ts : List Te), (k : Int) ≤ ar ∧ -1 ≤ x ∧ x ≤ l - 1 ∧ ts.length = k ∧ st = [.i x, .i ((k : Int) + 1), eT (.mk 3 0 (syAt s (cellAt s (derS s c).n).n).name ts)] ∧ F = (ts ++ (getL (getN s f) ((argsOf s (derS s c).n ar.toNat).drop k) x).1, (getL (getN s f) ((argsOf s (derS s c).n ar.toNat).drop k) x).2), fun st => ar.toNat + 1 - (st.getD 1 .u).int.toNat, ⟨0, l - 1, [], by omega, by omega, by omega, rfl, ?_, by rw [← hF]; rfl⟩, ?_⟩
      · simp only [X.evs, go_need, go_br, go_leaf, go_back, allSay, X.says, X.ev, X.evs, evl, tblS, List.getD_cons_zero, List.getD_cons_succ, List.getElem?_cons_zero, List.getElem?_cons_succ, tt_b, int_i, str_s, rs_r, Option.isSome_some, Option.getD_some, decide_eq_true_eq, decide_eq_false_iff_not, dS_eS, dC_eC, dU_eU, dW_eW, dY_eY, eC_0, eC_1, eU_0, eU_1, eW_0, eW_1, eW_2, eY_0, eY_1, eS_0, eS_1, eS_2, eS_3, eS_4, eS_5, List.length_map, i_inj, b_inj, s_inj, eC_eq, eU_eq, eW_eq, eY_eq, eS_eq, rng64, List.take_succ_cons, List.take_zero, List.nil_append, List.cons_append, decide_true, decide_false, Bool.or_true, true_and, and_true, dT_eT, eT_0, eT_1, eT_2, eT_3, eT_eq, eT_z, hder, cell_get hin, hsy, e_str]
        simp
      rintro st - ⟨k, x, ts, hk, hx1, hx2, hts, rfl, hFk⟩
      by_cases hkl : (k : Int) < ar
      · obtain ⟨b1, b2⟩ := a3 k hkl
        have b3 := inS_iff.1 b1
        have hle : (k : Int) + 1 ≤ ar := by omega
        have hidx : (derS s c).n + ((k : Int) + 1) = (derS s c).n + 1 + k := by omega
        by_cases hx0 : 0 ≤ x
        · have hq : gGetR f [eS s, eC (cellAt s ((derS s c).n + 1 + k)), .i x] = some [eT (getN s f (cellAt s ((derS s c).n + 1 + k)) x).1, .i (getN s f (cellAt s ((derS s c).n + 1 + k)) x).2] := by
            have h1 : x < f := by omega
            simp only [gGetR, getQ, dS_eS, dC_eC, int_i, hv, b2, hx0, h1, decide_true, Bool.and_true, if_true]
          have hnx := getN_le s f (cellAt s ((derS s c).n + 1 + k)) x hx0
          simp only [go_need, go_br, go_leaf, go_back, allSay, X.says, X.ev, X.evs, evl, tblS, List.getD_cons_zero, List.getD_cons_succ, List.getElem?_cons_zero, List.getElem?_cons_succ, tt_b, int_i, str_s, rs_r, Option.isSome_some, Option.getD_some, decide_eq_true_eq, decide_eq_false_iff_not, dS_eS, dC_eC, dU_eU, dW_eW, dY_eY, eC_0, eC_1, eU_0, eU_1, eW_0, eW_1, eW_2, eY_0, eY_1, eS_0, eS_1, eS_2, eS_3, eS_4, eS_5, List.length_map, i_inj, b_inj, s_inj, eC_eq, eU_eq, eW_eq, eY_eq, eS_eq, rng64, List.take_succ_cons, List.take_zero, List.nil_append, List.cons_append, decide_true, decide_false, Bool.or_true, true_and, and_true, dT_eT, eT_0, eT_1, eT_2, eT_3, eT_eq, eT_z, hder, cell_get hin, hidx, cell_get b1, hsy, hsr, hle, hq, hx0, Te_l, b3.1, b3.2]
          refine ⟨fun _ => ⟨⟨by omega, by omega⟩, by omega, ⟨by omega, by omega⟩, ?_⟩, fun h => by simp at h⟩
          rw [updB, if_pos rfl]
          refine ⟨⟨k + 1, (getN s f (cellAt s ((derS s c).n + 1 + k)) x).2, ts ++ [(getN s f (cellAt s ((derS s c).n + 1 + k)) x).1], by omega, by omega, by omega, by simp [hts], ?_, ?_⟩, ?_⟩
          · rw [eT_snoc]
            simp
          · rw [hFk, args_drop (by omega), getL, if_neg (by omega)]
            simp
          · simp [D.int]
            omega
        · simp only [go_need, go_br, go_leaf, go_back, allSay, X.says, X.ev, X.evs, evl, tblS, List.getD_cons_zero, List.getD_cons_succ, List.getElem?_cons_zero, List.getElem?_cons_succ, tt_b, int_i, str_s, rs_r, Option.isSome_some, Option.getD_some, decide_eq_true_eq, decide_eq_false_iff_not, dS_eS, dC_eC, dU_eU, dW_eW, dY_eY, eC_0, eC_1, eU_0, eU_1, eW_0, eW_1, eW_2, eY_0, eY_1, eS_0, eS_1, eS_2, eS_3, eS_4, eS_5, List.length_map, i_inj, b_inj, s_inj, eC_eq, eU_eq, eW_eq, eY_eq, eS_eq, rng64, List.take_succ_cons, List.take_zero, List.nil_append, List.cons_append, decide_true, decide_false, Bool.or_true, true_and, and_true, dT_eT, eT_0, eT_1, eT_2, eT_3, eT_eq, eT_z, hder, cell_get hin, cell_get b1, hsy, hsr, hle, hx0]
          rw [getL_neg (by omega)] at hFk
          refine ⟨fun h => by simp at h, fun _ => ?_⟩
          simp [hFk]
      · have hle : ¬ (k : Int) + 1 ≤ ar := by omega
        have : (argsOf s (derS s c).n ar.toNat).drop k = [] := List.drop_eq_nil_of_le (by simp [argsOf]; omega)
        rw [this] at hFk
        simp only [go_need, go_br, go_leaf, go_back, allSay, X.says, X.ev, X.evs, evl, tblS, List.getD_cons_zero, List.getD_cons_succ, List.getElem?_cons_zero, List.getElem?_cons_succ, tt_b, int_i, str_s, rs_r, Option.isSome_some, Option.getD_some, decide_eq_true_eq, decide_eq_false_iff_not, dS_eS, dC_eC, dU_eU, dW_eW, dY_eY, eC_0, eC_1, eU_0, eU_1, eW_0, eW_1, eW_2, eY_0, eY_1, eS_0, eS_1, eS_2, eS_3, eS_4, eS_5, List.length_map, i_inj, b_inj, s_inj, eC_eq, eU_eq, eW_eq, eY_eq, eS_eq, rng64, List.take_succ_cons, List.take_zero, List.nil_append, List.cons_append, decide_true, decide_false, Bool.or_true, true_and, and_true, dT_eT, eT_0, eT_1, eT_2, eT_3, eT_eq, eT_z, hder, cell_get hin, hsy, hsr, hle]
        refine ⟨fun h => by simp at h, fun _ => ?_⟩
        simp [hFk, getL]
    · simp only [h3, go_need, go_br, go_leaf, go_back, allSay, X.says, X.ev, X.evs, evl, tblS, List.getD_cons_zero, List.getD_cons_succ, List.getElem?_cons_zero, List.getElem?_cons_succ, tt_b, int_i, str_s, rs_r, Option.isSome_some, Option.getD_some, decide_eq_true_eq, decide_eq_false_iff_not, dS_eS, dC_eC, dU_eU, dW_eW, dY_eY, eC_0, eC_1, eU_0, eU_1, eW_0, eW_1, eW_2, eY_0, eY_1, eS_0, eS_1, eS_2, eS_3, eS_4, eS_5, List.length_map, i_inj, b_inj, s_inj, eC_eq, eU_eq, eW_eq, eY_eq, eS_eq, rng64, List.take_succ_cons, List.take_zero, List.nil_append, List.cons_append, decide_true, decide_false, Bool.or_true, true_and, and_true, dT_eT, eT_0, eT_1, eT_2, eT_3, eT_eq, eT_z]
      refine ⟨fun h => h.elim, fun _ => ⟨fun h => h.elim, fun _ => ?_⟩⟩
      simp only [e_var', if_false]

def getS (s : So) (c : Ce) : Te × Int := if vcR s c then (if (getN s 2001 c 2000).2 < 0 then (zT, 2) else ((getN s 2001 c 2000).1, 0)) else (zT, 1)
def gGet : List D → Option (List D)
  | [s, c] => if validR (dS s) then some [eT (getS (dS s) (dC c)).1, .i (getS (dS s) (dC c)).2] else none
  | _ => none
theorem ok_cells_Get : FOk ct_cells_Get gGet := fok_cells_Get (ok_cells_Get_1 2001) ok_cells_ValidCell fun ds outs hw hg => by
  obtain ⟨d, r, rfl, hd, e, r', rfl, he, rfl⟩ := hw
  obtain ⟨s, rfl, hs⟩ := wfS hd
  obtain ⟨c, rfl, hc⟩ := wfC he
  simp only [gGet, dS_eS, dC_eC, Option.ite_none_right_eq_some, Option.some.injEq] at hg
  obtain ⟨hv, rfl⟩ := hg
  have hvc : ∀ c, vcP s c = vcR s c := (validR_vs hv).vc
  simp only [tree_cells_Get, go_need, go_br, go_leaf, go_back, allSay, X.says, X.ev, X.evs, evl, tblS, List.getD_cons_zero, List.getD_cons_succ, List.getElem?_cons_zero, List.getElem?_cons_succ, tt_b, int_i, str_s, rs_r, Option.isSome_some, Option.getD_some, decide_eq_true_eq, decide_eq_false_iff_not, dS_eS, dC_eC, dU_eU, dW_eW, dY_eY, eC_0, eC_1, eU_0, eU_1, eW_0, eW_1, eW_2, eY_0, eY_1, eS_0, eS_1, eS_2, eS_3, eS_4, eS_5, List.length_map, i_inj, b_inj, s_inj, eC_eq, eU_eq, eW_eq, eY_eq, eS_eq, rng64, List.take_succ_cons, List.take_zero, List.nil_append, List.cons_append, decide_true, decide_false, Bool.or_true, true_and, and_true, dT_eT, eT_0, eT_1, eT_2, eT_3, eT_eq, eT_z, gSCb, hvc, getS]
  cases h : vcR s c with
  | false => simp
  | true =>
    have hq : gGet1 2001 [eC c, .i 2000, eS s] = some [eT (getN s 2001 c 2000).1, .i (getN s 2001 c 2000).2] := by
      simp only [gGet1, getQ, dS_eS, dC_eC, int_i, hv, h]
      rfl
    simp only [hq]
    by_cases hn : (getN s 2001 c 2000).2 < 0
    · simp [hn, int_i]
    · simp [hn, int_i]
theorem ok_ref30_Get : FOk ct_ref30_Get gGet := fok_ref30_Get ok_ref30_ValidCell (ok_ref30_get 2001) fun ds outs hw hg => by
  obtain ⟨d, r, rfl, hd, e, r', rfl, he, rfl⟩ := hw
  obtain ⟨s, rfl, hs⟩ := wfS hd
  obtain ⟨c, rfl, hc⟩ := wfC he
  simp only [gGet, dS_eS, dC_eC, Option.ite_none_right_eq_some, Option.some.injEq] at hg
  obtain ⟨hv, rfl⟩ := hg
  simp only [tree_ref30_Get, go_need, go_br, go_leaf, go_back, allSay, X.says, X.ev, X.evs, evl, tblS, List.getD_cons_zero, List.getD_cons_succ, List.getElem?_cons_zero, List.getElem?_cons_succ, tt_b, int_i, str_s, rs_r, Option.isSome_some, Option.getD_some, decide_eq_true_eq, decide_eq_false_iff_not, dS_eS, dC_eC, dU_eU, dW_eW, dY_eY, eC_0, eC_1, eU_0, eU_1, eW_0, eW_1, eW_2, eY_0, eY_1, eS_0, eS_1, eS_2, eS_3, eS_4, eS_5, List.length_map, i_inj, b_inj, s_inj, eC_eq, eU_eq, eW_eq, eY_eq, eS_eq, rng64, List.take_succ_cons, List.take_zero, List.nil_append, List.cons_append, decide_true, decide_false, Bool.or_true, true_and, and_true, dT_eT, eT_0, eT_1, eT_2, eT_3, eT_eq, eT_z, gSCb, getS]
  cases h : vcR s c with
  | false => simp
  | true =>
    have hq : gGetR 2001 [eS s, eC c, .i 2000] = some [eT (getN s 2001 c 2000).1, .i (getN s 2001 c 2000).2] := by
      simp only [gGetR, getQ, dS_eS, dC_eC, int_i, hv, h]
      rfl
    simp only [hq]
    by_cases hn : (getN s 2001 c 2000).2 < 0
    · simp [hn, int_i]
    · simp [hn, int_i]
theorem validT_z : validT zT = true := by decide
theorem sameT_self {t : Te} (h : validT t = true) : sameT t t = true := by
  simp only [sameT, h, (idT_iff t t).2 rfl, Bool.and_self]
theorem getS_valid {s : So} (h : validR s = true) (c : Ce) : validT (getS s c).1 = true := by
  unfold getS
  split
  · rename_i hc
    split
    · exact validT_z
    · exact get_valid h hc (by omega) (by omega) (by omega)
  · exact validT_z

theorem law_CellsGets : FOk ct_law30_CellsGets gYes := fok_law30_CellsGets ok_ref30_Valid ok_law30_awake ok_cells_Get ok_ref30_Get ok_cells_Deref ok_ref30_Deref ok_ref03_Same fun ds outs hw hg => by
  obtain ⟨d, r, rfl, hd, e, r', rfl, he, rfl⟩ := hw
  obtain ⟨s, rfl, hs⟩ := wfS hd
  obtain ⟨c, rfl, hc⟩ := wfC he
  simp only [gYes, Option.some.injEq] at hg
  subst hg
  simp only [tree_law30_CellsGets, go_need, go_br, go_leaf, go_back, allSay, X.says, X.ev, X.evs, evl, tblS, List.getD_cons_zero, List.getD_cons_succ, List.getElem?_cons_zero, List.getElem?_cons_succ, tt_b, int_i, str_s, rs_r, Option.isSome_some, Option.getD_some, decide_eq_true_eq, decide_eq_false_iff_not, dS_eS, dC_eC, dU_eU, dW_eW, dY_eY, eC_0, eC_1, eU_0, eU_1, eW_0, eW_1, eW_2, eY_0, eY_1, eS_0, eS_1, eS_2, eS_3, eS_4, eS_5, List.length_map, i_inj, b_inj, s_inj, eC_eq, eU_eq, eW_eq, eY_eq, eS_eq, rng64, List.take_succ_cons, List.take_zero, List.nil_append, List.cons_append, decide_true, decide_false, Bool.or_true, true_and, and_true, dT_eT, eT_0, eT_1, eT_2, eT_3, eT_eq, eT_z, gSb, gGet, gDer, gTTb, gYes]
  cases hv : validR s with
  | false => simp
  | true =>
    have h1 := sameT_self (getS_valid hv c)
    simp [hv, h1, dT_eT]
end Go.Proofs.Ytinclokohcommaa
