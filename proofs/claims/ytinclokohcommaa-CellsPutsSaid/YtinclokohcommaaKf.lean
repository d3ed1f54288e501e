/-
  Lemmas of the walk and plain laws, put together. No condition.
-/
import Derived.ChangeArms
import Derived.OpenShut
import Derived.ProofKit
import Derived.SizedLaws
import Derived.Test.YtinclokohcommaaRows
import Derived.Test.YtinclokohcommaaKe
namespace Go.Proofs.Ytinclokohcommaa
open Go.RowKit
set_option linter.unusedVariables false
set_option linter.unusedSimpArgs false

theorem ok_ref30_Kept : FOk q1u gKept := fok_ref30_Kept fun ds outs hw hg => by
  obtain ⟨d, r, rfl, hd, rfl⟩ := hw
  obtain ⟨c, rfl, hc⟩ := wfC hd
  simp only [gKept, dC_eC, Option.some.injEq] at hg
  subst hg
  simp only [q49, q02, go_br, q01, q03, allSay, X.says, X.ev, X.evs, evl, tblS, List.getD_cons_zero, List.getD_cons_succ, List.getElem?_cons_zero, List.getElem?_cons_succ, tt_b, int_i, str_s, rs_r, Option.isSome_some, Option.getD_some, decide_eq_true_eq, decide_eq_false_iff_not, dS_eS, dC_eC, dU_eU, dW_eW, dY_eY, eC_0, eC_1, eU_0, eU_1, eW_0, eW_1, eW_2, eY_0, eY_1, eS_0, eS_1, eS_2, eS_3, eS_4, eS_5, List.length_map, i_inj, b_inj, s_inj, eC_eq, eU_eq, eW_eq, eY_eq, eS_eq, rng64, List.take_succ_cons, List.take_zero, List.nil_append, List.cons_append, decide_true, decide_false, Bool.or_true, true_and, and_true, dT_eT, eT_0, eT_1, eT_2, eT_3, eT_eq, eT_z, keptC]
  exact ⟨fun h => by rw [if_pos h]; rfl, fun h => by rw [if_neg h]⟩

def idxV (v : Int) : Nat → List Vc → Int
  | _, [] => -1
  | k, x :: l => if x.v = v then (k : Int) else idxV v (k + 1) l
theorem idxV_drop {v : Int} {l : List Vc} {k : Nat} (h : k < l.length) : idxV v k (l.drop k) = if (l.getD k default).v = v then (k : Int) else idxV v (k + 1) (l.drop (k + 1)) := by
  rw [drop_get' h]
  rfl
theorem idxV_of {v : Int} : ∀ (k : Nat) (l : List Vc), (idxV v k l = -1 ∧ ofV l v = none) ∨ ∃ j : Nat, j < l.length ∧ idxV v k l = ((k + j : Nat) : Int) ∧ ofV l v = some (l.getD j default).c
  | k, [] => .inl ⟨rfl, rfl⟩
  | k, y :: l => by
    unfold idxV ofV
    split
    · exact .inr ⟨0, by simp, by simp, rfl⟩
    · rcases idxV_of (v := v) (k + 1) l with h | ⟨j, h1, h2, h3⟩
      · exact .inl h
      · exact .inr ⟨j + 1, by simpa using h1, by rw [h2]; omega, by rw [h3]; rfl⟩
def gOfV : List D → Option (List D)
  | [l, v] => some [.i (idxV v.int 0 (dVs l))]
  | _ => none
theorem ok_ref30_of : FOk q28 gOfV := fok_ref30_of fun ds outs hw hg => by
  obtain ⟨d, r, rfl, hd, e, r', rfl, he, rfl⟩ := hw
  obtain ⟨l, rfl, hl, hok⟩ := wfVs hd
  obtain ⟨v, rfl, hv⟩ := wfI he
  simp only [gOfV, dVs_eVs, int_i, Option.some.injEq] at hg
  subst hg
  rw [tree_ref30_of, q1y]
  refine ⟨fun st => ∃ k : Nat, k ≤ l.length ∧ st = [.i 0, .i k] ∧ idxV v k (l.drop k) = idxV v 0 l, fun st => l.length - (st.getD 1 .u).int.toNat, ⟨0, Nat.zero_le _, rfl, rfl⟩, ?_⟩
  rintro st - ⟨k, hk, rfl, hf⟩
  simp only [q02, go_br, q01, q03, allSay, X.says, X.ev, X.evs, evl, tblS, List.getD_cons_zero, List.getD_cons_succ, List.getElem?_cons_zero, List.getElem?_cons_succ, tt_b, int_i, str_s, rs_r, Option.isSome_some, Option.getD_some, decide_eq_true_eq, decide_eq_false_iff_not, dS_eS, dC_eC, dU_eU, dW_eW, dY_eY, eC_0, eC_1, eU_0, eU_1, eW_0, eW_1, eW_2, eY_0, eY_1, eS_0, eS_1, eS_2, eS_3, eS_4, eS_5, List.length_map, i_inj, b_inj, s_inj, eC_eq, eU_eq, eW_eq, eY_eq, eS_eq, rng64, List.take_succ_cons, List.take_zero, List.nil_append, List.cons_append, decide_true, decide_false, Bool.or_true, true_and, and_true, dT_eT, eT_0, eT_1, eT_2, eT_3, eT_eq, eT_z]
  refine ⟨fun hlt => ?_, fun hlt => ?_⟩
  · have hkn : k < l.length := by omega
    rw [idxV_drop hkn] at hf
    simp only [get_n eV hkn, eV_0, i_inj]
    generalize l.getD k default = z at hf
    refine ⟨⟨by omega, by omega⟩, fun he => ?_, fun he => ⟨⟨by omega, by omega⟩, ?_⟩⟩
    · rw [if_pos (by simpa using he)] at hf
      rw [← hf]
    · rw [if_neg (by simpa using he)] at hf
      rw [updB, if_pos rfl]
      refine ⟨⟨k + 1, hkn, by simp, hf⟩, ?_⟩
      simp [D.int]
      omega
  · have : k = l.length := by omega
    subst this
    rw [List.drop_length] at hf
    rw [← hf]
    rfl

def gMoreV : List D → Option (List D)
  | [l, v, c] => if (dVs l).length < 5864062014634 then some [.r ((insV (dVs l) v.int (dC c)).map eV)] else none
  | _ => none
theorem ok_ref30_More : FOk q1t gMoreV := fok_ref30_More fun ds outs hw hg => by
  obtain ⟨d, r, rfl, hd, e, r', rfl, he, f, r2, rfl, hf, rfl⟩ := hw
  obtain ⟨l, rfl, hl, hok⟩ := wfVs hd
  obtain ⟨v, rfl, hv⟩ := wfI he
  obtain ⟨c, rfl, hc⟩ := wfC hf
  simp only [gMoreV, dVs_eVs, int_i, dC_eC, Option.ite_none_right_eq_some, Option.some.injEq] at hg
  obtain ⟨hll, rfl⟩ := hg
  rw [q42, q1y]
  refine ⟨fun st => ∃ k : Nat, k ≤ loV l v ∧ st = [.r ((l.take k).map eV), .i k], fun st => l.length - (st.getD 1 .u).int.toNat, ⟨0, Nat.zero_le _, rfl⟩, ?_⟩
  rintro st - ⟨k, hk, rfl⟩
  have hlo := loV_le v l
  have hkl : k ≤ l.length := by omega
  have htl : ((l.take k).map eV).length = k := by rw [List.length_map, List.length_take]; omega
  by_cases hkn : k < l.length
  · have e0 : decide ((k : Int) < (l.length : Int)) = true := by simp; omega
    have e1 : decide (0 ≤ (k : Int)) = true := by simp
    by_cases hv' : (l.getD k default).v < v
    · have hk2 : k < loV l v := by
        rcases Nat.lt_or_ge k (loV l v) with h | h
        · exact h
        · have : k = loV l v := by omega
          have h2 := loV_stop (v := v) (l := l) (by omega)
          rw [← this] at h2
          omega
      have htk : (l.take k).map eV ++ [eV (l.getD k default)] = (l.take (k + 1)).map eV := by rw [take_snoc hkn, List.map_append]; rfl
      simp only [q02, go_br, q01, q03, allSay, X.says, X.ev, X.evs, evl, tblS, List.getD_cons_zero, List.getD_cons_succ, List.getElem?_cons_zero, List.getElem?_cons_succ, tt_b, int_i, str_s, rs_r, Option.isSome_some, Option.getD_some, decide_eq_true_eq, decide_eq_false_iff_not, dS_eS, dC_eC, dU_eU, dW_eW, dY_eY, eC_0, eC_1, eU_0, eU_1, eW_0, eW_1, eW_2, eY_0, eY_1, eS_0, eS_1, eS_2, eS_3, eS_4, eS_5, List.length_map, i_inj, b_inj, s_inj, eC_eq, eU_eq, eW_eq, eY_eq, eS_eq, rng64, List.take_succ_cons, List.take_zero, List.nil_append, List.cons_append, decide_true, decide_false, Bool.or_true, true_and, and_true, dT_eT, eT_0, eT_1, eT_2, eT_3, eT_eq, eT_z, get_n eV hkn, eV_0, e0, e1, htl, hv', Bool.not_true, Bool.false_or, Bool.and_self, Bool.and_true, forall_const]
      refine ⟨⟨by omega, ⟨by omega, by omega⟩, ?_⟩, fun h => (by cases h)⟩
      rw [updB, if_pos rfl, htk]
      refine ⟨⟨k + 1, hk2, by simp⟩, ?_⟩
      simp [D.int]
      omega
    · have hk2 : k = loV l v := by
        rcases Nat.lt_or_ge k (loV l v) with h | h
        · exact absurd (loV_lt h) hv'
        · omega
      simp only [q02, go_br, q01, q03, allSay, X.says, X.ev, X.evs, evl, tblS, List.getD_cons_zero, List.getD_cons_succ, List.getElem?_cons_zero, List.getElem?_cons_succ, tt_b, int_i, str_s, rs_r, Option.isSome_some, Option.getD_some, decide_eq_true_eq, decide_eq_false_iff_not, dS_eS, dC_eC, dU_eU, dW_eW, dY_eY, eC_0, eC_1, eU_0, eU_1, eW_0, eW_1, eW_2, eY_0, eY_1, eS_0, eS_1, eS_2, eS_3, eS_4, eS_5, List.length_map, i_inj, b_inj, s_inj, eC_eq, eU_eq, eW_eq, eY_eq, eS_eq, rng64, List.take_succ_cons, List.take_zero, List.nil_append, List.cons_append, decide_true, decide_false, Bool.or_true, true_and, and_true, dT_eT, eT_0, eT_1, eT_2, eT_3, eT_eq, eT_z, get_n eV hkn, eV_0, e0, e1, htl, hv', Bool.not_true, Bool.false_or, Bool.and_self, Bool.and_false, forall_const]
      refine ⟨fun h => (by cases h), ⟨by omega, ⟨by omega, ?_⟩, ?_⟩⟩
      · simp
        omega
      · rw [insV_eq, ← hk2]
        simp [eV, List.map_take, List.map_drop, List.take_of_length_le]
  · have hk1 : k = l.length := by omega
    have hk2 : k = loV l v := by omega
    have e0 : decide ((k : Int) < (l.length : Int)) = false := by simp; omega
    simp only [q02, go_br, q01, q03, allSay, X.says, X.ev, X.evs, evl, tblS, List.getD_cons_zero, List.getD_cons_succ, List.getElem?_cons_zero, List.getElem?_cons_succ, tt_b, int_i, str_s, rs_r, Option.isSome_some, Option.getD_some, decide_eq_true_eq, decide_eq_false_iff_not, dS_eS, dC_eC, dU_eU, dW_eW, dY_eY, eC_0, eC_1, eU_0, eU_1, eW_0, eW_1, eW_2, eY_0, eY_1, eS_0, eS_1, eS_2, eS_3, eS_4, eS_5, List.length_map, i_inj, b_inj, s_inj, eC_eq, eU_eq, eW_eq, eY_eq, eS_eq, rng64, List.take_succ_cons, List.take_zero, List.nil_append, List.cons_append, decide_true, decide_false, Bool.or_true, true_and, and_true, dT_eT, eT_0, eT_1, eT_2, eT_3, eT_eq, eT_z, e0, htl, Bool.not_false, Bool.true_or, Bool.false_and, forall_const]
    refine ⟨fun h => (by cases h), by omega, ⟨by omega, by omega, ?_⟩, ?_⟩
    · simp
      omega
    · rw [insV_eq, ← hk2]
      simp [eV, List.map_take, List.map_drop, List.take_of_length_le]

theorem sv_var {a : Te} (h : nodesT a = true) (h0 : a.k = 0) : 0 ≤ a.n ∧ a.n ≤ 1099511627776 := by
  obtain ⟨k, n, nm, l⟩ := a
  have h0 : k = 0 := h0
  subst h0
  rcases node_cases ((nodes_iff _).1 h).1 with ⟨-, -, h1, h2⟩ | ⟨h1, -⟩ | ⟨h1, -⟩ | ⟨h1, -⟩
  · exact ⟨h1, h2⟩
  all_goals cases h1
def addQR (s : So) (all : List Vc) (t : Te) : Bool := nodesT t && (decide (SV all) && (decide (s.cs.length + nedT t all ≤ 9000000) && decide ((symsT s.ys t).length ≤ 9000000)))
def gAddR : List D → Option (List D)
  | [s, t, all] => if addQR (dS s) (dVs all) (dT t) then some [eC (addD (dS s, dVs all) (dT t) (-1)).1, .r ((addD (dS s, dVs all) (dT t) (-1)).2.2.map eV), eS (addD (dS s, dVs all) (dT t) (-1)).2.1] else none
  | _ => none
theorem addD_any {q : Sv} {t : Te} (h : ¬ (t.k = 0 ∧ ofV q.2 t.n = none)) (a b : Int) : addD q t a = addD q t b := by
  obtain ⟨k, n, nm, l⟩ := t
  by_cases h0 : k = 0
  · subst h0
    rw [addD_0, addD_0]
    cases ho : ofV q.2 n with
    | none => exact absurd ⟨rfl, ho⟩ h
    | some c => rfl
  · unfold addD
    simp only [if_neg h0]
theorem addD_var {q : Sv} {t : Te} (h : t.k = 0 ∧ ofV q.2 t.n = none) {a : Int} (ha : 0 ≤ a) : addD q t a = (⟨0, a⟩, q.1, insV q.2 t.n ⟨0, a⟩) := by
  obtain ⟨k, n, nm, l⟩ := t
  obtain ⟨h0, ho⟩ := h
  have h0 : k = 0 := h0
  subst h0
  rw [addD_0, show ofV q.2 n = none from ho]
  show (if a < 0 then _ else _) = _
  rw [if_neg (by omega)]
  rfl
theorem hap1 (s : So) (c : Ce) : D.a ((eS s).fs.set 0 (.r (s.cs.map eC ++ [eC c]))) = eS { s with cs := s.cs ++ [c] } := cs_apps s [c]
def mT1' (ds : List D) : Nat := szT (dT (ds.getD 1 .u))
theorem ok_ref30_add : FOk q1g gAddR := fok_cut (m := mT1') enter_ref30_add fun N ih => fok_ref30_add ok_ref30_symbol ok_ref30_of ok_ref30_Kept ok_ref30_More ih fun ds outs hw hg => by
  obtain ⟨q, r3, rfl, hq, d, r, rfl, hd, f, r2, rfl, hf, rfl⟩ := hw
  obtain ⟨t, rfl, ht⟩ := wfT hd
  obtain ⟨all, rfl, hal, hok⟩ := wfVs hf
  obtain ⟨s, rfl, hs⟩ := wfS hq
  simp only [cutM, mT1', gAddR, List.getD_cons_zero, List.getD_cons_succ, dT_eT, dS_eS, dVs_eVs, Option.ite_none_right_eq_some, Option.some.injEq] at hg
  obtain ⟨hsz, hA, rfl⟩ := hg
  simp only [addQR, Bool.and_eq_true, decide_eq_true_eq] at hA
  obtain ⟨hnd, hsv, hcs, hys⟩ := hA
  have hnl := (nodes_iff t).1 hnd
  obtain ⟨k, n, nm, l⟩ := t
  have hlen := SV.len hsv
  rcases node_cases hnl.1 with ⟨rfl, rfl, h1, h2⟩ | ⟨rfl, rfl⟩ | ⟨rfl, rfl, h1⟩ | ⟨rfl, h1, h2, h3⟩
  · rw [addD_0]
    rcases idxV_of (v := n) 0 all with ⟨e1, e2⟩ | ⟨j, hj, e1, e2⟩
    · have hn : nedT (.mk 0 n nm []) all = 1 := by rw [nedT, cnt_no (by decide), if_pos ⟨rfl, e2⟩]
      rw [hn] at hcs
      simp only [q27, q02, go_br, q01, q03, allSay, X.says, X.ev, X.evs, evl, tblS, List.getD_cons_zero, List.getD_cons_succ, List.getElem?_cons_zero, List.getElem?_cons_succ, tt_b, int_i, str_s, rs_r, Option.isSome_some, Option.getD_some, decide_eq_true_eq, decide_eq_false_iff_not, dS_eS, dC_eC, dU_eU, dW_eW, dY_eY, eC_0, eC_1, eU_0, eU_1, eW_0, eW_1, eW_2, eY_0, eY_1, eS_0, eS_1, eS_2, eS_3, eS_4, eS_5, List.length_map, i_inj, b_inj, s_inj, eC_eq, eU_eq, eW_eq, eY_eq, eS_eq, rng64, List.take_succ_cons, List.take_zero, List.nil_append, List.cons_append, decide_true, decide_false, Bool.or_true, true_and, and_true, dT_eT, eT_0, eT_1, eT_2, eT_3, eT_eq, eT_z, Te.k, Te.n, Te.s, Te.l, eC_mk, gOfV, gMoreV, dVs_eVs, e1, e2, dC_eC]
      have hall : all.length < 5864062014634 := by omega
      simp [hall]
      exact ⟨by omega, hap1 s _⟩
    · rw [Nat.zero_add] at e1
      simp only [q27, q02, go_br, q01, q03, allSay, X.says, X.ev, X.evs, evl, tblS, List.getD_cons_zero, List.getD_cons_succ, List.getElem?_cons_zero, List.getElem?_cons_succ, tt_b, int_i, str_s, rs_r, Option.isSome_some, Option.getD_some, decide_eq_true_eq, decide_eq_false_iff_not, dS_eS, dC_eC, dU_eU, dW_eW, dY_eY, eC_0, eC_1, eU_0, eU_1, eW_0, eW_1, eW_2, eY_0, eY_1, eS_0, eS_1, eS_2, eS_3, eS_4, eS_5, List.length_map, i_inj, b_inj, s_inj, eC_eq, eU_eq, eW_eq, eY_eq, eS_eq, rng64, List.take_succ_cons, List.take_zero, List.nil_append, List.cons_append, decide_true, decide_false, Bool.or_true, true_and, and_true, dT_eT, eT_0, eT_1, eT_2, eT_3, eT_eq, eT_z, Te.k, Te.n, Te.s, Te.l, eC_mk, gOfV, gKept, dVs_eVs, e1, e2, get_n eV hj, eV_1, dC_eC]
      simp
      omega
  · rw [addD_1]
    simp [q27, q02, go_br, q01, q03, allSay, X.says, X.ev, X.evs, evl, tblS, List.getD_cons_zero, List.getD_cons_succ, List.getElem?_cons_zero, List.getElem?_cons_succ, tt_b, int_i, str_s, rs_r, Option.isSome_some, Option.getD_some, decide_eq_true_eq, decide_eq_false_iff_not, dS_eS, dC_eC, dU_eU, dW_eW, dY_eY, eC_0, eC_1, eU_0, eU_1, eW_0, eW_1, eW_2, eY_0, eY_1, eS_0, eS_1, eS_2, eS_3, eS_4, eS_5, List.length_map, i_inj, b_inj, s_inj, eC_eq, eU_eq, eW_eq, eY_eq, eS_eq, rng64, List.take_succ_cons, List.take_zero, List.nil_append, List.cons_append, decide_true, decide_false, Bool.or_true, true_and, and_true, dT_eT, eT_0, eT_1, eT_2, eT_3, eT_eq, eT_z, Te.k, Te.n, Te.s, Te.l, eC_mk]
  · rw [syms_2] at hys
    have hyl : s.ys.length ≤ (symX s.ys ⟨nm, 0⟩).length := symX_len _ _
    have hS : gSymR [eS s, .s nm, .i 0] = some [.i (symN s nm 0).1, eS (symN s nm 0).2] := by simp only [gSymR, dS_eS, str_s, int_i]; rw [if_pos (by omega)]
    rw [addD_2]
    simp [q27, q02, go_br, q01, q03, allSay, X.says, X.ev, X.evs, evl, tblS, List.getD_cons_zero, List.getD_cons_succ, List.getElem?_cons_zero, List.getElem?_cons_succ, tt_b, int_i, str_s, rs_r, Option.isSome_some, Option.getD_some, decide_eq_true_eq, decide_eq_false_iff_not, dS_eS, dC_eC, dU_eU, dW_eW, dY_eY, eC_0, eC_1, eU_0, eU_1, eW_0, eW_1, eW_2, eY_0, eY_1, eS_0, eS_1, eS_2, eS_3, eS_4, eS_5, List.length_map, i_inj, b_inj, s_inj, eC_eq, eU_eq, eW_eq, eY_eq, eS_eq, rng64, List.take_succ_cons, List.take_zero, List.nil_append, List.cons_append, decide_true, decide_false, Bool.or_true, true_and, and_true, dT_eT, eT_0, eT_1, eT_2, eT_3, eT_eq, eT_z, Te.k, Te.n, Te.s, Te.l, eC_mk, hS]
  · rw [syms_3] at hys
    have hys0 : (symX s.ys ⟨nm, (l.length : Nat)⟩).length ≤ 9000000 := Nat.le_trans (symsTs_len l _) hys
    have hyl : s.ys.length ≤ (symX s.ys ⟨nm, (l.length : Nat)⟩).length := symX_len _ _
    obtain ⟨y1, y2, y3, y4, y5, y6⟩ := symN_cs s nm (l.length : Nat)
    have hS : gSymR [eS s, .s nm, .i (l.length : Nat)] = some [.i (symN s nm (l.length : Nat)).1, eS (symN s nm (l.length : Nat)).2] := by simp only [gSymR, dS_eS, str_s, int_i]; rw [if_pos (by omega)]
    rw [ned_no (by decide), cnt_3] at hcs
    rw [addD_3]
    rw [← y3] at hys
    have hcl : s.cs.length = (symN s nm (l.length : Nat)).2.cs.length := by rw [y1]
    rw [← y1]
    generalize symN s nm (l.length : Nat) = S at hS hys hcl y1 y2 ⊢
    have hz : List.replicate l.length (eC ⟨0, 0⟩) = (List.replicate l.length (⟨0, 0⟩ : Ce)).map eC := by rw [List.map_replicate]
    have hz0 : D.a [.i 0, .i 0] = eC ⟨0, 0⟩ := rfl
    have hz1 : ∀ n : Int, D.a [.i 0, .i n] = eC ⟨0, n⟩ := fun n => rfl
    have hz4 : ∀ n : Int, D.a [.i 4, .i n] = eC ⟨4, n⟩ := fun n => rfl
    simp only [q27, q02, go_br, q01, q03, allSay, X.says, X.ev, X.evs, evl, tblS, List.getD_cons_zero, List.getD_cons_succ, List.getElem?_cons_zero, List.getElem?_cons_succ, tt_b, int_i, str_s, rs_r, Option.isSome_some, Option.getD_some, decide_eq_true_eq, decide_eq_false_iff_not, dS_eS, dC_eC, dU_eU, dW_eW, dY_eY, eC_0, eC_1, eU_0, eU_1, eW_0, eW_1, eW_2, eY_0, eY_1, eS_0, eS_1, eS_2, eS_3, eS_4, eS_5, List.length_map, i_inj, b_inj, s_inj, eC_eq, eU_eq, eW_eq, eY_eq, eS_eq, rng64, List.take_succ_cons, List.take_zero, List.nil_append, List.cons_append, decide_true, decide_false, Bool.or_true, true_and, and_true, dT_eT, eT_0, eT_1, eT_2, eT_3, eT_eq, eT_z, Te.k, Te.n, Te.s, Te.l, eC_mk, hS, hap1, cs_apps, hz, Int.toNat_natCast]
    refine ⟨fun h => absurd h (by decide), fun _ => ⟨fun h => absurd h (by decide), fun _ => ⟨fun h => absurd h (by decide), fun _ => ?_⟩⟩⟩
    refine ⟨⟨by omega, by rw [y1]⟩, ⟨by omega, by omega, by simp; omega⟩, ?_⟩
    rw [q1y]
    refine ⟨fun st => ∃ (k : Nat) (al : List Vc) (s' : So), k ≤ l.length ∧ st = [.r (al.map eV), .i k, eS s'] ∧ SV al ∧ s'.cs.length + cntTs (l.drop k) ≤ 9000000 ∧ S.2.cs.length + 1 + l.length ≤ s'.cs.length ∧ (symsTs s'.ys (l.drop k)).length ≤ 9000000 ∧ addAs (s', al) (l.drop k) (S.2.cs.length + 1 + k) = addAs ({ S.2 with cs := S.2.cs ++ (⟨4, S.1⟩ :: List.replicate l.length ⟨0, 0⟩) }, all) l (S.2.cs.length + 1), fun st => l.length - (st.getD 1 .u).int.toNat, ⟨0, all, { S.2 with cs := S.2.cs ++ (⟨4, S.1⟩ :: List.replicate l.length ⟨0, 0⟩) }, Nat.zero_le _, ?_, hsv, ?_, ?_, hys, rfl⟩, ?_⟩
    · simp only [X.evs, q02, go_br, q01, q03, allSay, X.says, X.ev, X.evs, evl, tblS, List.getD_cons_zero, List.getD_cons_succ, List.getElem?_cons_zero, List.getElem?_cons_succ, tt_b, int_i, str_s, rs_r, Option.isSome_some, Option.getD_some, decide_eq_true_eq, decide_eq_false_iff_not, dS_eS, dC_eC, dU_eU, dW_eW, dY_eY, eC_0, eC_1, eU_0, eU_1, eW_0, eW_1, eW_2, eY_0, eY_1, eS_0, eS_1, eS_2, eS_3, eS_4, eS_5, List.length_map, i_inj, b_inj, s_inj, eC_eq, eU_eq, eW_eq, eY_eq, eS_eq, rng64, List.take_succ_cons, List.take_zero, List.nil_append, List.cons_append, decide_true, decide_false, Bool.or_true, true_and, and_true, dT_eT, eT_0, eT_1, eT_2, eT_3, eT_eq, eT_z, Te.k, Te.n, Te.s, Te.l, hS, hap1, cs_apps, hz, Int.toNat_natCast]
      simp [eS, D.fs, D.fld, D.rs, eC]
    · simp
      omega
    · simp
      omega
    rintro st - ⟨k, al, s', hk, rfl, hsv', hc', hb', hy', hP⟩
    rw [go_br]
    refine ⟨fun hlt => ?_, fun hlt => ?_⟩
    · simp only [q02, go_br, q01, q03, allSay, X.says, X.ev, X.evs, evl, tblS, List.getD_cons_zero, List.getD_cons_succ, List.getElem?_cons_zero, List.getElem?_cons_succ, tt_b, int_i, str_s, rs_r, Option.isSome_some, Option.getD_some, decide_eq_true_eq, decide_eq_false_iff_not, dS_eS, dC_eC, dU_eU, dW_eW, dY_eY, eC_0, eC_1, eU_0, eU_1, eW_0, eW_1, eW_2, eY_0, eY_1, eS_0, eS_1, eS_2, eS_3, eS_4, eS_5, List.length_map, i_inj, b_inj, s_inj, eC_eq, eU_eq, eW_eq, eY_eq, eS_eq, rng64, List.take_succ_cons, List.take_zero, List.nil_append, List.cons_append, decide_true, decide_false, Bool.or_true, true_and, and_true, dT_eT, eT_0, eT_1, eT_2, eT_3, eT_eq, eT_z, Te.k, Te.n, Te.s, Te.l] at hlt
      have hkl : k < l.length := by omega
      have ha := arg_sz (t := .mk 3 n nm l) hkl
      simp only [Te.l] at ha
      have hto : ((S.2.cs.length : Int) + 1 + (k : Int)) = ((S.2.cs.length + 1 + k : Nat) : Int) := by omega
      have hdr := drop_get' hkl
      rw [hdr, cntTs] at hc'
      rw [hdr, symsTs] at hy'
      rw [hdr, addAs] at hP
      have hsy := Nat.le_trans (symsTs_len (l.drop (k + 1)) (symsT s'.ys (l.getD k default))) hy'
      have hnk := hnl.2 k hkl
      simp only [Te.l] at hnk
      have hlal := SV.len hsv'
      simp only [q02, go_br, q01, q03, allSay, X.says, X.ev, X.evs, evl, tblS, List.getD_cons_zero, List.getD_cons_succ, List.getElem?_cons_zero, List.getElem?_cons_succ, tt_b, int_i, str_s, rs_r, Option.isSome_some, Option.getD_some, decide_eq_true_eq, decide_eq_false_iff_not, dS_eS, dC_eC, dU_eU, dW_eW, dY_eY, eC_0, eC_1, eU_0, eU_1, eW_0, eW_1, eW_2, eY_0, eY_1, eS_0, eS_1, eS_2, eS_3, eS_4, eS_5, List.length_map, i_inj, b_inj, s_inj, eC_eq, eU_eq, eW_eq, eY_eq, eS_eq, rng64, List.take_succ_cons, List.take_zero, List.nil_append, List.cons_append, decide_true, decide_false, Bool.or_true, true_and, and_true, dT_eT, eT_0, eT_1, eT_2, eT_3, eT_eq, eT_z, get_n eT hkl, gOfV, dVs_eVs, hcl, hto, eC_mk]
      rw [show (Te.mk 3 n nm l).l = l from rfl, get_n eT hkl]
      generalize l.getD k default = a at ha hc' hy' hP hsy hnk ⊢
      obtain ⟨ak, an, anm, als⟩ := a
      simp only [q02, go_br, q01, q03, allSay, X.says, X.ev, X.evs, evl, tblS, List.getD_cons_zero, List.getD_cons_succ, List.getElem?_cons_zero, List.getElem?_cons_succ, tt_b, int_i, str_s, rs_r, Option.isSome_some, Option.getD_some, decide_eq_true_eq, decide_eq_false_iff_not, dS_eS, dC_eC, dU_eU, dW_eW, dY_eY, eC_0, eC_1, eU_0, eU_1, eW_0, eW_1, eW_2, eY_0, eY_1, eS_0, eS_1, eS_2, eS_3, eS_4, eS_5, List.length_map, i_inj, b_inj, s_inj, eC_eq, eU_eq, eW_eq, eY_eq, eS_eq, rng64, List.take_succ_cons, List.take_zero, List.nil_append, List.cons_append, decide_true, decide_false, Bool.or_true, true_and, and_true, dT_eT, eT_0, eT_1, eT_2, eT_3, eT_eq, eT_z, Te.k, Te.n, Te.s, Te.l]
      by_cases hva : ak = 0 ∧ ofV al an = none
      · have hq := addD_var (q := (s', al)) (t := .mk ak an anm als) hva (a := ((S.2.cs.length + 1 + k : Nat) : Int)) (by omega)
        rw [hq] at hP
        have hi : idxV an 0 al = -1 := by
          rcases idxV_of (v := an) 0 al with ⟨e1, -⟩ | ⟨j, -, -, e2⟩
          · exact e1
          · rw [hva.2] at e2
            cases e2
        have hall : al.length < 5864062014634 := by omega
        have hpr := sv_var hnk hva.1
        have h2 := (addD_len (.mk ak an anm als) (s', al) ((S.2.cs.length + 1 + k : Nat) : Int) hnk hsv').2.1
        rw [hq] at h2
        rw [← h2] at hy'
        simp only [hva.1, hi, gMoreV, dVs_eVs, dC_eC, int_i, hall, if_true, set_cs]
        refine ⟨⟨⟨by omega, by omega⟩, by omega, by omega⟩, ⟨by omega, by omega⟩, fun _ => ⟨rfl, ⟨by omega, by omega⟩, ⟨by omega, by omega⟩, ?_⟩, fun h => (by simp at h)⟩
        rw [updB, if_pos rfl]
        refine ⟨⟨k + 1, insV al an ⟨0, ((S.2.cs.length + 1 + k : Nat) : Int)⟩, setC s' (S.2.cs.length + 1 + k) ⟨0, ((S.2.cs.length + 1 + k : Nat) : Int)⟩, by omega, by rw [Int.toNat_natCast]; simp, insV_sv hpr.1 hpr.2 hsv' hva.2, ?_, ?_, hy', hP⟩, ?_⟩
        · rw [setC_len]
          omega
        · rw [setC_len]
          omega
        · simp [D.int]
          omega
      · have hcond : (decide (ak = 0) && decide (idxV an 0 al < 0)) = false := by
          by_cases h0 : ak = 0
          · rcases idxV_of (v := an) 0 al with ⟨-, e1⟩ | ⟨j, -, e2, -⟩
            · exact absurd ⟨h0, e1⟩ hva
            · have : ¬ idxV an 0 al < 0 := by omega
              simp [this]
          · simp [h0]
        have hned : nedT (.mk ak an anm als) al = cntT (.mk ak an anm als) := by
          unfold nedT
          rw [if_neg (show ¬ ((Te.mk ak an anm als).k = 0 ∧ ofV al (Te.mk ak an anm als).n = none) from hva)]
          rfl
        have hQ : addQR s' al (.mk ak an anm als) = true := by
          simp only [addQR, Bool.and_eq_true, decide_eq_true_eq, hned]
          exact ⟨hnk, hsv', by omega, hsy⟩
        have hG : cutM mT1' N gAddR [eS s', eT (.mk ak an anm als), .r (al.map eV)] = some [eC (addD (s', al) (.mk ak an anm als) (-1)).1, .r ((addD (s', al) (.mk ak an anm als) (-1)).2.2.map eV), eS (addD (s', al) (.mk ak an anm als) (-1)).2.1] := by
          simp only [cutM, mT1', gAddR, List.getD_cons_zero, List.getD_cons_succ, dT_eT, dS_eS, dVs_eVs]
          rw [if_pos (by omega), if_pos hQ]
        rw [addD_any (q := (s', al)) (t := .mk ak an anm als) hva _ (-1)] at hP
        obtain ⟨g1, g2, g3, g4⟩ := addD_len (.mk ak an anm als) (s', al) (-1) hnk hsv'
        rw [if_pos (by decide), hned] at g1
        simp only [hcond, hG]
        generalize addD (s', al) (.mk ak an anm als) (-1) = R at g1 g2 g3 g4 hP ⊢
        simp only at g1
        simp only [q02, go_br, q01, q03, allSay, X.says, X.ev, X.evs, evl, tblS, List.getD_cons_zero, List.getD_cons_succ, List.getElem?_cons_zero, List.getElem?_cons_succ, tt_b, int_i, str_s, rs_r, Option.isSome_some, Option.getD_some, decide_eq_true_eq, decide_eq_false_iff_not, dS_eS, dC_eC, dU_eU, dW_eW, dY_eY, eC_0, eC_1, eU_0, eU_1, eW_0, eW_1, eW_2, eY_0, eY_1, eS_0, eS_1, eS_2, eS_3, eS_4, eS_5, List.length_map, i_inj, b_inj, s_inj, eC_eq, eU_eq, eW_eq, eY_eq, eS_eq, rng64, List.take_succ_cons, List.take_zero, List.nil_append, List.cons_append, decide_true, decide_false, Bool.or_true, true_and, and_true, dT_eT, eT_0, eT_1, eT_2, eT_3, eT_eq, eT_z, set_cs, Int.toNat_natCast]
        refine ⟨⟨⟨by omega, by omega⟩, by omega, by omega⟩, ⟨by omega, by omega⟩, fun h => (by cases h), fun _ => ⟨⟨by omega, by omega⟩, ⟨by omega, by omega⟩, ?_⟩⟩
        rw [updB, if_pos rfl]
        refine ⟨⟨k + 1, R.2.2, setC R.2.1 (S.2.cs.length + 1 + k) R.1, by omega, by simp, g4, ?_, ?_, ?_, hP⟩, ?_⟩
        · rw [setC_len, g1]
          omega
        · rw [setC_len, g1]
          omega
        · show (symsTs R.2.1.ys _).length ≤ _
          rw [g2]
          exact hy'
        · simp [D.int]
          omega
    · simp only [q02, go_br, q01, q03, allSay, X.says, X.ev, X.evs, evl, tblS, List.getD_cons_zero, List.getD_cons_succ, List.getElem?_cons_zero, List.getElem?_cons_succ, tt_b, int_i, str_s, rs_r, Option.isSome_some, Option.getD_some, decide_eq_true_eq, decide_eq_false_iff_not, dS_eS, dC_eC, dU_eU, dW_eW, dY_eY, eC_0, eC_1, eU_0, eU_1, eW_0, eW_1, eW_2, eY_0, eY_1, eS_0, eS_1, eS_2, eS_3, eS_4, eS_5, List.length_map, i_inj, b_inj, s_inj, eC_eq, eU_eq, eW_eq, eY_eq, eS_eq, rng64, List.take_succ_cons, List.take_zero, List.nil_append, List.cons_append, decide_true, decide_false, Bool.or_true, true_and, and_true, dT_eT, eT_0, eT_1, eT_2, eT_3, eT_eq, eT_z, Te.k, Te.n, Te.s, Te.l] at hlt
      have : k = l.length := by omega
      subst this
      rw [List.drop_length, addAs] at hP
      simp only [q02, go_br, q01, q03, allSay, X.says, X.ev, X.evs, evl, tblS, List.getD_cons_zero, List.getD_cons_succ, List.getElem?_cons_zero, List.getElem?_cons_succ, tt_b, int_i, str_s, rs_r, Option.isSome_some, Option.getD_some, decide_eq_true_eq, decide_eq_false_iff_not, dS_eS, dC_eC, dU_eU, dW_eW, dY_eY, eC_0, eC_1, eU_0, eU_1, eW_0, eW_1, eW_2, eY_0, eY_1, eS_0, eS_1, eS_2, eS_3, eS_4, eS_5, List.length_map, i_inj, b_inj, s_inj, eC_eq, eU_eq, eW_eq, eY_eq, eS_eq, rng64, List.take_succ_cons, List.take_zero, List.nil_append, List.cons_append, decide_true, decide_false, Bool.or_true, true_and, and_true, dT_eT, eT_0, eT_1, eT_2, eT_3, eT_eq, eT_z, Te.k, Te.n, Te.s, Te.l, hcl, ← hP, eC_mk]
end Go.Proofs.Ytinclokohcommaa


namespace Go.Proofs.Ytinclokohcommaa
open Go.RowKit
set_option linter.unusedVariables false
set_option linter.unusedSimpArgs false

def vAtR (s : So) (l : List Vc) (k : Nat) : Bool := decide (0 ≤ (l.getD k default).v) && (decide ((l.getD k default).v ≤ 1099511627776) && (decide (k = 0 ∨ (l.getD (k - 1) default).v < (l.getD k default).v) && vcR s (l.getD k default).c))
def vvR (s : So) (l : List Vc) : Bool := (List.range l.length).all (vAtR s l)
theorem vv_PR {s : So} (h : validR s = true) (l : List Vc) : vvR s l = vvP s l := by
  have : vAtR s l = vAt s l := by
    funext k
    simp only [vAtR, vAt, (validR_vs h).vc]
  unfold vvR vvP
  rw [this]
theorem ok_ref30_ValidVars : FOk q17 (gVV vvR) := fok_ref30_ValidVars q2n fun ds outs hw hg => by
  obtain ⟨d, r, rfl, hd, e, r', rfl, he, rfl⟩ := hw
  obtain ⟨s, rfl, hs⟩ := wfS hd
  obtain ⟨l, rfl, hl, hok⟩ := wfVs he
  simp only [gVV, dS_eS, dVs_eVs, Option.some.injEq] at hg
  subst hg
  rw [q31, q1y]
  refine ⟨fun st => ∃ k : Nat, k ≤ l.length ∧ st = [.b false, .i k] ∧ ∀ j, j < k → vAtR s l j = true, fun st => l.length - (st.getD 1 .u).int.toNat, ⟨0, Nat.zero_le _, rfl, fun j hj => absurd hj (Nat.not_lt_zero _)⟩, ?_⟩
  rintro st - ⟨k, hk, rfl, hP⟩
  rw [go_br]
  refine ⟨fun hlt => ?_, fun hlt => ?_⟩
  · simp only [q02, go_br, q01, q03, allSay, X.says, X.ev, X.evs, evl, tblS, List.getD_cons_zero, List.getD_cons_succ, List.getElem?_cons_zero, List.getElem?_cons_succ, tt_b, int_i, str_s, rs_r, Option.isSome_some, Option.getD_some, decide_eq_true_eq, decide_eq_false_iff_not, dS_eS, dC_eC, dU_eU, dW_eW, dY_eY, eC_0, eC_1, eU_0, eU_1, eW_0, eW_1, eW_2, eY_0, eY_1, eS_0, eS_1, eS_2, eS_3, eS_4, eS_5, List.length_map, i_inj, b_inj, s_inj, eC_eq, eU_eq, eW_eq, eY_eq, eS_eq, rng64, List.take_succ_cons, List.take_zero, List.nil_append, List.cons_append, decide_true, decide_false, Bool.or_true, true_and, and_true, dT_eT, eT_0, eT_1, eT_2, eT_3, eT_eq, eT_z] at hlt
    have hkl : k < l.length := by omega
    have hvb := (hok _ (getD_mem hkl)).1
    by_cases h0 : k = 0
    · subst h0
      have e1 : decide ((0 : Int) < ((0 : Nat) : Int)) = false := by decide
      simp only [q02, go_br, q01, q03, allSay, X.says, X.ev, X.evs, evl, tblS, List.getD_cons_zero, List.getD_cons_succ, List.getElem?_cons_zero, List.getElem?_cons_succ, tt_b, int_i, str_s, rs_r, Option.isSome_some, Option.getD_some, decide_eq_true_eq, decide_eq_false_iff_not, dS_eS, dC_eC, dU_eU, dW_eW, dY_eY, eC_0, eC_1, eU_0, eU_1, eW_0, eW_1, eW_2, eY_0, eY_1, eS_0, eS_1, eS_2, eS_3, eS_4, eS_5, List.length_map, i_inj, b_inj, s_inj, eC_eq, eU_eq, eW_eq, eY_eq, eS_eq, rng64, List.take_succ_cons, List.take_zero, List.nil_append, List.cons_append, decide_true, decide_false, Bool.or_true, true_and, and_true, dT_eT, eT_0, eT_1, eT_2, eT_3, eT_eq, eT_z, get_n eV hkl, eV_0, eV_1, gSCb, e1, Bool.and_false, Bool.false_and, Bool.not_false, Bool.true_or, Bool.or_false, true_and, and_self]
      refine ⟨(by first | (simp; done) | (simp; omega) | (trace_state; omega)), fun hb => ?_, fun hb => ⟨⟨by omega, by omega⟩, ?_⟩⟩
      · have hv : vAtR s l 0 = false := by
          simp only [vAtR, true_or, decide_true, Bool.true_and]
          generalize l.getD 0 default = z at hb ⊢
          cases hvc : vcR s z.c
          · simp
          · simp [hvc] at hb ⊢
            omega
        rw [vvR, all_not hkl hv]
      · have hv : vAtR s l 0 = true := by
          simp only [vAtR, true_or, decide_true, Bool.true_and]
          generalize l.getD 0 default = z at hb ⊢
          cases hvc : vcR s z.c
          · simp [hvc] at hb
          · simp [hvc] at hb ⊢
            omega
        rw [updB, if_pos rfl]
        exact ⟨⟨1, by omega, by simp, upto_succ hP hv⟩, by simp [D.int]; omega⟩
    · have hk1 : ((k : Int) - 1) = ((k - 1 : Nat) : Int) := by omega
      have hkp : k - 1 < l.length := by omega
      have hp : (0 : Int) < k := by omega
      have hr1 : rngB .i64 ((k - 1 : Nat) : Int) = true := by simp [rngB]; omega
      have hr2 : (0 : Int) ≤ ((k - 1 : Nat) : Int) := by omega
      have hr3 : ((k - 1 : Nat) : Int) < l.length := by omega
      simp only [q02, go_br, q01, q03, allSay, X.says, X.ev, X.evs, evl, tblS, List.getD_cons_zero, List.getD_cons_succ, List.getElem?_cons_zero, List.getElem?_cons_succ, tt_b, int_i, str_s, rs_r, Option.isSome_some, Option.getD_some, decide_eq_true_eq, decide_eq_false_iff_not, dS_eS, dC_eC, dU_eU, dW_eW, dY_eY, eC_0, eC_1, eU_0, eU_1, eW_0, eW_1, eW_2, eY_0, eY_1, eS_0, eS_1, eS_2, eS_3, eS_4, eS_5, List.length_map, i_inj, b_inj, s_inj, eC_eq, eU_eq, eW_eq, eY_eq, eS_eq, rng64, List.take_succ_cons, List.take_zero, List.nil_append, List.cons_append, decide_true, decide_false, Bool.or_true, true_and, and_true, dT_eT, eT_0, eT_1, eT_2, eT_3, eT_eq, eT_z, hk1, hp, hr1, hr2, hr3, get_n eV hkl, get_n eV hkp, eV_0, eV_1, gSCb, Bool.and_true, Bool.true_and]
      refine ⟨(by first | (simp; done) | (simp; omega) | (trace_state; omega)), fun hb => ?_, fun hb => ⟨⟨by omega, by omega⟩, ?_⟩⟩
      · have hv : vAtR s l k = false := by
          simp only [vAtR, h0, false_or]
          generalize l.getD k default = z at hb ⊢
          cases hvc : vcR s z.c
          · simp
          · simp [hvc] at hb ⊢
            omega
        rw [vvR, all_not hkl hv]
      · have hv : vAtR s l k = true := by
          simp only [vAtR, h0, false_or]
          generalize l.getD k default = z at hb ⊢
          cases hvc : vcR s z.c
          · simp [hvc] at hb
          · simp [hvc] at hb ⊢
            omega
        rw [updB, if_pos rfl]
        exact ⟨⟨k + 1, by omega, by simp, upto_succ hP hv⟩, by simp [D.int]; omega⟩
  · simp only [q02, go_br, q01, q03, allSay, X.says, X.ev, X.evs, evl, tblS, List.getD_cons_zero, List.getD_cons_succ, List.getElem?_cons_zero, List.getElem?_cons_succ, tt_b, int_i, str_s, rs_r, Option.isSome_some, Option.getD_some, decide_eq_true_eq, decide_eq_false_iff_not, dS_eS, dC_eC, dU_eU, dW_eW, dY_eY, eC_0, eC_1, eU_0, eU_1, eW_0, eW_1, eW_2, eY_0, eY_1, eS_0, eS_1, eS_2, eS_3, eS_4, eS_5, List.length_map, i_inj, b_inj, s_inj, eC_eq, eU_eq, eW_eq, eY_eq, eS_eq, rng64, List.take_succ_cons, List.take_zero, List.nil_append, List.cons_append, decide_true, decide_false, Bool.or_true, true_and, and_true, dT_eT, eT_0, eT_1, eT_2, eT_3, eT_eq, eT_z] at hlt ⊢
    have : k = l.length := by omega
    subst this
    simp only [vvR, all_yes hP]

def gVqS : List D → Option (List D)
  | [p, q] => some [.b (decide (dVs p = dVs q))]
  | _ => none
theorem ok_law30_varsS : FOk q14 gVqS := fok_law30_vars fun ds outs hw hg => by
  obtain ⟨d, r, rfl, hd, e, r', rfl, he, rfl⟩ := hw
  obtain ⟨l, rfl, hl, -⟩ := wfVs hd
  obtain ⟨m, rfl, hm, -⟩ := wfVs he
  simp only [gVqS, dVs_eVs, Option.some.injEq] at hg
  subst hg
  rw [q39, go_br]
  refine ⟨fun h => ?_, fun h => ?_⟩
  · simp only [q02, go_br, q01, q03, allSay, X.says, X.ev, X.evs, evl, tblS, List.getD_cons_zero, List.getD_cons_succ, List.getElem?_cons_zero, List.getElem?_cons_succ, tt_b, int_i, str_s, rs_r, Option.isSome_some, Option.getD_some, decide_eq_true_eq, decide_eq_false_iff_not, dS_eS, dC_eC, dU_eU, dW_eW, dY_eY, eC_0, eC_1, eU_0, eU_1, eW_0, eW_1, eW_2, eY_0, eY_1, eS_0, eS_1, eS_2, eS_3, eS_4, eS_5, List.length_map, i_inj, b_inj, s_inj, eC_eq, eU_eq, eW_eq, eY_eq, eS_eq, rng64, List.take_succ_cons, List.take_zero, List.nil_append, List.cons_append, decide_true, decide_false, Bool.or_true, true_and, and_true, dT_eT, eT_0, eT_1, eT_2, eT_3, eT_eq, eT_z] at h
    have hne : ¬ l = m := fun e => by subst e; simp at h
    simp only [q01, q02, go_br, q01, q03, allSay, X.says, X.ev, X.evs, evl, tblS, List.getD_cons_zero, List.getD_cons_succ, List.getElem?_cons_zero, List.getElem?_cons_succ, tt_b, int_i, str_s, rs_r, Option.isSome_some, Option.getD_some, decide_eq_true_eq, decide_eq_false_iff_not, dS_eS, dC_eC, dU_eU, dW_eW, dY_eY, eC_0, eC_1, eU_0, eU_1, eW_0, eW_1, eW_2, eY_0, eY_1, eS_0, eS_1, eS_2, eS_3, eS_4, eS_5, List.length_map, i_inj, b_inj, s_inj, eC_eq, eU_eq, eW_eq, eY_eq, eS_eq, rng64, List.take_succ_cons, List.take_zero, List.nil_append, List.cons_append, decide_true, decide_false, Bool.or_true, true_and, and_true, dT_eT, eT_0, eT_1, eT_2, eT_3, eT_eq, eT_z, decide_eq_false hne]
  · simp only [q02, go_br, q01, q03, allSay, X.says, X.ev, X.evs, evl, tblS, List.getD_cons_zero, List.getD_cons_succ, List.getElem?_cons_zero, List.getElem?_cons_succ, tt_b, int_i, str_s, rs_r, Option.isSome_some, Option.getD_some, decide_eq_true_eq, decide_eq_false_iff_not, dS_eS, dC_eC, dU_eU, dW_eW, dY_eY, eC_0, eC_1, eU_0, eU_1, eW_0, eW_1, eW_2, eY_0, eY_1, eS_0, eS_1, eS_2, eS_3, eS_4, eS_5, List.length_map, i_inj, b_inj, s_inj, eC_eq, eU_eq, eW_eq, eY_eq, eS_eq, rng64, List.take_succ_cons, List.take_zero, List.nil_append, List.cons_append, decide_true, decide_false, Bool.or_true, true_and, and_true, dT_eT, eT_0, eT_1, eT_2, eT_3, eT_eq, eT_z, Bool.not_eq_false', decide_eq_true_eq] at h
    have hlm : l.length = m.length := by omega
    rw [q1y]
    refine ⟨fun st => ∃ k : Nat, k ≤ l.length ∧ st = [.b false, .i k] ∧ ∀ j, j < k → l.getD j default = m.getD j default, fun st => l.length - (st.getD 1 .u).int.toNat, ⟨0, Nat.zero_le _, rfl, fun j hj => absurd hj (Nat.not_lt_zero _)⟩, ?_⟩
    rintro st - ⟨k, hk, rfl, hP⟩
    rw [go_br]
    refine ⟨fun hlt => ?_, fun hlt => ?_⟩
    · simp only [q02, go_br, q01, q03, allSay, X.says, X.ev, X.evs, evl, tblS, List.getD_cons_zero, List.getD_cons_succ, List.getElem?_cons_zero, List.getElem?_cons_succ, tt_b, int_i, str_s, rs_r, Option.isSome_some, Option.getD_some, decide_eq_true_eq, decide_eq_false_iff_not, dS_eS, dC_eC, dU_eU, dW_eW, dY_eY, eC_0, eC_1, eU_0, eU_1, eW_0, eW_1, eW_2, eY_0, eY_1, eS_0, eS_1, eS_2, eS_3, eS_4, eS_5, List.length_map, i_inj, b_inj, s_inj, eC_eq, eU_eq, eW_eq, eY_eq, eS_eq, rng64, List.take_succ_cons, List.take_zero, List.nil_append, List.cons_append, decide_true, decide_false, Bool.or_true, true_and, and_true, dT_eT, eT_0, eT_1, eT_2, eT_3, eT_eq, eT_z] at hlt
      have hkl : k < l.length := by omega
      have hkm : k < m.length := by omega
      simp only [q02, go_br, q01, q03, q02, go_br, q01, q03, allSay, X.says, X.ev, X.evs, evl, tblS, List.getD_cons_zero, List.getD_cons_succ, List.getElem?_cons_zero, List.getElem?_cons_succ, tt_b, int_i, str_s, rs_r, Option.isSome_some, Option.getD_some, decide_eq_true_eq, decide_eq_false_iff_not, dS_eS, dC_eC, dU_eU, dW_eW, dY_eY, eC_0, eC_1, eU_0, eU_1, eW_0, eW_1, eW_2, eY_0, eY_1, eS_0, eS_1, eS_2, eS_3, eS_4, eS_5, List.length_map, i_inj, b_inj, s_inj, eC_eq, eU_eq, eW_eq, eY_eq, eS_eq, rng64, List.take_succ_cons, List.take_zero, List.nil_append, List.cons_append, decide_true, decide_false, Bool.or_true, true_and, and_true, dT_eT, eT_0, eT_1, eT_2, eT_3, eT_eq, eT_z, get_n eV hkl, get_n eV hkm, eV_eq]
      refine ⟨⟨by omega, by omega, by omega, by omega⟩, fun hb => ?_, fun hb => ⟨⟨by omega, by omega⟩, ?_⟩⟩
      · have hne : ¬ l = m := fun e => by subst e; simp at hb
        rw [decide_eq_false hne]
      · rw [updB, if_pos rfl]
        exact ⟨⟨k + 1, by omega, by simp, upto_succ hP (by simpa using hb)⟩, by simp [D.int]; omega⟩
    · simp only [q02, go_br, q01, q03, allSay, X.says, X.ev, X.evs, evl, tblS, List.getD_cons_zero, List.getD_cons_succ, List.getElem?_cons_zero, List.getElem?_cons_succ, tt_b, int_i, str_s, rs_r, Option.isSome_some, Option.getD_some, decide_eq_true_eq, decide_eq_false_iff_not, dS_eS, dC_eC, dU_eU, dW_eW, dY_eY, eC_0, eC_1, eU_0, eU_1, eW_0, eW_1, eW_2, eY_0, eY_1, eS_0, eS_1, eS_2, eS_3, eS_4, eS_5, List.length_map, i_inj, b_inj, s_inj, eC_eq, eU_eq, eW_eq, eY_eq, eS_eq, rng64, List.take_succ_cons, List.take_zero, List.nil_append, List.cons_append, decide_true, decide_false, Bool.or_true, true_and, and_true, dT_eT, eT_0, eT_1, eT_2, eT_3, eT_eq, eT_z] at hlt ⊢
      have : k = l.length := by omega
      subst this
      have he : l = m := List.ext_getElem hlm fun i h1 h2 => by
        have := hP i h1
        rwa [getD_el h1, getD_el h2] at this
      simp [he]

theorem ok_ref30_Put : FOk q23 gPut := fok_ref30_Put ok_ref03_Valid ok_ref30_ValidVars ok_ref30_Clone ok_ref30_add fun ds outs hw hg => by
  obtain ⟨d, r, rfl, hd, e, r', rfl, he, f, r2, rfl, hf, rfl⟩ := hw
  obtain ⟨s, rfl, hs⟩ := wfS hd
  obtain ⟨t, rfl, ht⟩ := wfT he
  obtain ⟨l, rfl, hl, hok⟩ := wfVs hf
  simp only [gPut, dS_eS, dT_eT, dVs_eVs, Option.ite_none_right_eq_some, Option.some.injEq] at hg
  obtain ⟨hv, rfl⟩ := hg
  obtain ⟨h1, h2, h3, h4⟩ := vr_hd hv
  have hz : D.a [.i 0, .i 0] = eC ⟨0, 0⟩ := rfl
  have hc : gClone [eS s] = some [eS s] := by simp only [gClone, dS_eS, clQ_of hs, if_true]
  have hR : ∀ (a : Bool), a = (decide ((1048576 : Int) < (((addD (s, l) t (-1)).2.1.ys.length : Nat) : Int)) || decide (s.mx < (((addD (s, l) t (-1)).2.1.cs.length : Nat) : Int))) → validT t = true → vvP s l = true → a = !roomB s t l := fun a ha hvt hvl => by
    simp only [validT, Bool.and_eq_true, decide_eq_true_eq] at hvt
    obtain ⟨g1, g2, g3, g4⟩ := addD_len t (s, l) (-1) hvt.2 (vvP_iff.1 hvl).1
    rw [if_pos (by decide)] at g1
    simp only at g1 g2
    rw [ha, g1, g2]
    have hm := congrArg List.length (visM_T t s.ys [])
    rw [List.append_nil, List.length_append] at hm
    unfold roomB
    rw [← hm]
    by_cases q1 : ((nedT t l : Nat) : Int) ≤ s.mx - s.cs.length <;> by_cases q2 : ((visM s.ys [] t).length : Int) ≤ 1048576 - s.ys.length
    all_goals simp [q1, q2]
    all_goals omega
  have hQ : validT t = true → vvP s l = true → addQR s l t = true := fun hvt hvl => by
    simp only [validT, Bool.and_eq_true, decide_eq_true_eq] at hvt
    simp only [addQR, Bool.and_eq_true, decide_eq_true_eq]
    have hm := congrArg List.length (visM_T t s.ys [])
    rw [List.append_nil, List.length_append] at hm
    have hv := visM_len t s.ys []
    have hc := cntT_sz t
    have hn : nedT t l ≤ cntT t + 1 := by unfold nedT; split <;> omega
    simp at hv
    exact ⟨hvt.2, (vvP_iff.1 hvl).1, by omega, by omega⟩
  simp only [q4o, q02, go_br, q01, q03, allSay, X.says, X.ev, X.evs, evl, tblS, List.getD_cons_zero, List.getD_cons_succ, List.getElem?_cons_zero, List.getElem?_cons_succ, tt_b, int_i, str_s, rs_r, Option.isSome_some, Option.getD_some, decide_eq_true_eq, decide_eq_false_iff_not, dS_eS, dC_eC, dU_eU, dW_eW, dY_eY, eC_0, eC_1, eU_0, eU_1, eW_0, eW_1, eW_2, eY_0, eY_1, eS_0, eS_1, eS_2, eS_3, eS_4, eS_5, List.length_map, i_inj, b_inj, s_inj, eC_eq, eU_eq, eW_eq, eY_eq, eS_eq, rng64, List.take_succ_cons, List.take_zero, List.nil_append, List.cons_append, decide_true, decide_false, Bool.or_true, true_and, and_true, dT_eT, eT_0, eT_1, eT_2, eT_3, eT_eq, eT_z, gTb, gVV, hz, dVs_eVs, putV, vv_PR hv, hc, Int.toNat_natCast, List.drop_zero]
  cases hvt : validT t
  · simp
  cases hvl : vvP s l
  · simp
  have hq := hQ hvt hvl
  have hr := hR _ rfl hvt hvl
  have hmx : (addD (s, l) t (-1)).2.1.mx = s.mx := by
    simp only [validT, Bool.and_eq_true, decide_eq_true_eq] at hvt
    exact (addD_len t (s, l) (-1) hvt.2 (vvP_iff.1 hvl).1).2.2.1.1
  have hg : gAddR [eS s, eT t, .r (l.map eV)] = some [eC (addD (s, l) t (-1)).1, .r ((addD (s, l) t (-1)).2.2.map eV), eS (addD (s, l) t (-1)).2.1] := by
    simp only [gAddR, dS_eS, dT_eT, dVs_eVs, hq, if_true]
  simp only [hg]
  generalize addD (s, l) t (-1) = R at hr hmx
  simp only [q02, go_br, q01, q03, allSay, X.says, X.ev, X.evs, evl, tblS, List.getD_cons_zero, List.getD_cons_succ, List.getElem?_cons_zero, List.getElem?_cons_succ, tt_b, int_i, str_s, rs_r, Option.isSome_some, Option.getD_some, decide_eq_true_eq, decide_eq_false_iff_not, dS_eS, dC_eC, dU_eU, dW_eW, dY_eY, eC_0, eC_1, eU_0, eU_1, eW_0, eW_1, eW_2, eY_0, eY_1, eS_0, eS_1, eS_2, eS_3, eS_4, eS_5, List.length_map, i_inj, b_inj, s_inj, eC_eq, eU_eq, eW_eq, eY_eq, eS_eq, rng64, List.take_succ_cons, List.take_zero, List.nil_append, List.cons_append, decide_true, decide_false, Bool.or_true, true_and, and_true, dT_eT, eT_0, eT_1, eT_2, eT_3, eT_eq, eT_z, hmx]
  rw [hr]
  cases roomB s t l
  · simp
    omega
  · simp
    omega
theorem putV_len (s : So) (t : Te) (l : List Vc) : (putV s t l).2.1.length ≤ 5864062014634 := by
  unfold putV
  split
  · rename_i h
    simp only [validT, Bool.and_eq_true, decide_eq_true_eq] at h
    split
    · have := SV.len (addD_len t (s, l) (-1) h.1.2 (vvP_iff.1 h.2).1).2.2.2
      show (addD (s, l) t (-1)).2.2.length ≤ _
      omega
    · simp
  · simp
theorem law_CellsPuts : FOk q1z gYes := fok_law30_CellsPuts ok_ref30_Valid ok_law30_awake ok_ref30_Clone ok_cells_Put ok_ref30_Put ok_law30_varsS ok_ref30_Same fun ds outs hw hg => by
  obtain ⟨d, r, rfl, hd, e, r', rfl, he, f, r2, rfl, hf, rfl⟩ := hw
  obtain ⟨s, rfl, hs⟩ := wfS hd
  obtain ⟨t, rfl, ht⟩ := wfT he
  obtain ⟨l, rfl, hl, hok⟩ := wfVs hf
  simp only [gYes, Option.some.injEq] at hg
  subst hg
  have hc : gClone [eS s] = some [eS s] := by simp only [gClone, dS_eS, clQ_of hs, if_true]
  cases hv : validR s with
  | false =>
    simp only [q2f, q02, go_br, q01, q03, allSay, X.says, X.ev, X.evs, evl, tblS, List.getD_cons_zero, List.getD_cons_succ, List.getElem?_cons_zero, List.getElem?_cons_succ, tt_b, int_i, str_s, rs_r, Option.isSome_some, Option.getD_some, decide_eq_true_eq, decide_eq_false_iff_not, dS_eS, dC_eC, dU_eU, dW_eW, dY_eY, eC_0, eC_1, eU_0, eU_1, eW_0, eW_1, eW_2, eY_0, eY_1, eS_0, eS_1, eS_2, eS_3, eS_4, eS_5, List.length_map, i_inj, b_inj, s_inj, eC_eq, eU_eq, eW_eq, eY_eq, eS_eq, rng64, List.take_succ_cons, List.take_zero, List.nil_append, List.cons_append, decide_true, decide_false, Bool.or_true, true_and, and_true, dT_eT, eT_0, eT_1, eT_2, eT_3, eT_eq, eT_z, gSb, gYes, hv]
    simp
  | true =>
  have hp : gPut [eS s, eT t, .r (l.map eV)] = some [eC (putV s t l).1, .r ((putV s t l).2.1.map eV), .i (putV s t l).2.2.1, eS (putV s t l).2.2.2] := by
    simp only [gPut, dS_eS, dT_eT, dVs_eVs, hv, if_true]
  have hq : ∀ m : List Vc, gVqS [.r (m.map eV), .r (m.map eV)] = some [.b true] := fun m => by simp [gVqS, dVs_eVs]
  have hsm : ∀ a : D, gSame [a, a] = some [.b true] := fun a => by simp [gSame]
  simp only [q2f, q02, go_br, q01, q03, allSay, X.says, X.ev, X.evs, evl, tblS, List.getD_cons_zero, List.getD_cons_succ, List.getElem?_cons_zero, List.getElem?_cons_succ, tt_b, int_i, str_s, rs_r, Option.isSome_some, Option.getD_some, decide_eq_true_eq, decide_eq_false_iff_not, dS_eS, dC_eC, dU_eU, dW_eW, dY_eY, eC_0, eC_1, eU_0, eU_1, eW_0, eW_1, eW_2, eY_0, eY_1, eS_0, eS_1, eS_2, eS_3, eS_4, eS_5, List.length_map, i_inj, b_inj, s_inj, eC_eq, eU_eq, eW_eq, eY_eq, eS_eq, rng64, List.take_succ_cons, List.take_zero, List.nil_append, List.cons_append, decide_true, decide_false, Bool.or_true, true_and, and_true, dT_eT, eT_0, eT_1, eT_2, eT_3, eT_eq, eT_z, gSb, gYes, hv, hc, hp, hq, hsm]
  refine ⟨fun h => (by cases h), fun _ => ⟨by omega, fun h => (by cases h), fun _ => ?_⟩⟩
  rw [q1y]
  refine ⟨fun st => ∃ (k : Nat) (m : List D), k ≤ m.length ∧ st = [.i k, .r m] ∧ m.length ≤ 5864062014634, fun st => (st.getD 1 .u).rs.length - (st.getD 0 .u).int.toNat, ⟨0, (putV s t l).2.1.map eV, Nat.zero_le _, ?_, ?_⟩, ?_⟩
  · simp only [X.evs, q02, go_br, q01, q03, allSay, X.says, X.ev, X.evs, evl, tblS, List.getD_cons_zero, List.getD_cons_succ, List.getElem?_cons_zero, List.getElem?_cons_succ, tt_b, int_i, str_s, rs_r, Option.isSome_some, Option.getD_some, decide_eq_true_eq, decide_eq_false_iff_not, dS_eS, dC_eC, dU_eU, dW_eW, dY_eY, eC_0, eC_1, eU_0, eU_1, eW_0, eW_1, eW_2, eY_0, eY_1, eS_0, eS_1, eS_2, eS_3, eS_4, eS_5, List.length_map, i_inj, b_inj, s_inj, eC_eq, eU_eq, eW_eq, eY_eq, eS_eq, rng64, List.take_succ_cons, List.take_zero, List.nil_append, List.cons_append, decide_true, decide_false, Bool.or_true, true_and, and_true, dT_eT, eT_0, eT_1, eT_2, eT_3, eT_eq, eT_z, hc, hp]
    rfl
  · rw [List.length_map]
    exact putV_len s t l
  rintro st - ⟨k, m, hk, rfl, hm⟩
  rw [go_br]
  refine ⟨fun hlt => ?_, fun hlt => ?_⟩
  · simp only [q02, go_br, q01, q03, allSay, X.says, X.ev, X.evs, evl, tblS, List.getD_cons_zero, List.getD_cons_succ, List.getElem?_cons_zero, List.getElem?_cons_succ, tt_b, int_i, str_s, rs_r, Option.isSome_some, Option.getD_some, decide_eq_true_eq, decide_eq_false_iff_not, dS_eS, dC_eC, dU_eU, dW_eW, dY_eY, eC_0, eC_1, eU_0, eU_1, eW_0, eW_1, eW_2, eY_0, eY_1, eS_0, eS_1, eS_2, eS_3, eS_4, eS_5, List.length_map, i_inj, b_inj, s_inj, eC_eq, eU_eq, eW_eq, eY_eq, eS_eq, rng64, List.take_succ_cons, List.take_zero, List.nil_append, List.cons_append, decide_true, decide_false, Bool.or_true, true_and, and_true, dT_eT, eT_0, eT_1, eT_2, eT_3, eT_eq, eT_z] at hlt
    have hkl : k < m.length := by omega
    simp only [q02, go_br, q01, q03, allSay, X.says, X.ev, X.evs, evl, tblS, List.getD_cons_zero, List.getD_cons_succ, List.getElem?_cons_zero, List.getElem?_cons_succ, tt_b, int_i, str_s, rs_r, Option.isSome_some, Option.getD_some, decide_eq_true_eq, decide_eq_false_iff_not, dS_eS, dC_eC, dU_eU, dW_eW, dY_eY, eC_0, eC_1, eU_0, eU_1, eW_0, eW_1, eW_2, eY_0, eY_1, eS_0, eS_1, eS_2, eS_3, eS_4, eS_5, List.length_map, i_inj, b_inj, s_inj, eC_eq, eU_eq, eW_eq, eY_eq, eS_eq, rng64, List.take_succ_cons, List.take_zero, List.nil_append, List.cons_append, decide_true, decide_false, Bool.or_true, true_and, and_true, dT_eT, eT_0, eT_1, eT_2, eT_3, eT_eq, eT_z, Int.toNat_natCast]
    refine ⟨⟨by omega, by omega⟩, ⟨by omega, by omega⟩, ?_⟩
    rw [updB, if_pos rfl]
    refine ⟨⟨k + 1, _, ?_, by simp; rfl, ?_⟩, ?_⟩
    · simp
      omega
    · simpa using hm
    · simp [D.int, D.rs]
      omega
  · simp only [q02, go_br, q01, q03, allSay, X.says, X.ev, X.evs, evl, tblS, List.getD_cons_zero, List.getD_cons_succ, List.getElem?_cons_zero, List.getElem?_cons_succ, tt_b, int_i, str_s, rs_r, Option.isSome_some, Option.getD_some, decide_eq_true_eq, decide_eq_false_iff_not, dS_eS, dC_eC, dU_eU, dW_eW, dY_eY, eC_0, eC_1, eU_0, eU_1, eW_0, eW_1, eW_2, eY_0, eY_1, eS_0, eS_1, eS_2, eS_3, eS_4, eS_5, List.length_map, i_inj, b_inj, s_inj, eC_eq, eU_eq, eW_eq, eY_eq, eS_eq, rng64, List.take_succ_cons, List.take_zero, List.nil_append, List.cons_append, decide_true, decide_false, Bool.or_true, true_and, and_true, dT_eT, eT_0, eT_1, eT_2, eT_3, eT_eq, eT_z, hq, gYes]
    simp
end Go.Proofs.Ytinclokohcommaa


namespace Go.Proofs.Ytinclokohcommaa
open Go.ChangeShapes Go.WideShapes Go.ChangeAt Go.RowKit
set_option linter.unusedVariables false
set_option maxRecDepth 100000

theorem own_knobD : ownKnob Try.prog.godebug = none := by kernel_rfl
theorem laid_outD : laidOutB Try.prog = true := by kernel_rfl

section
variable {H : Type} {enc : TypeId × Value → H} {W : World} {base : Nat} {spare : Nat → Bool} {held : Bool}

def LightD (t : TypeId) (d : DataW H) : Prop := ∀ n ∈ d.weights Try.prog t, n ≤ reachBytes

theorem weightsAll_memD {e : TypeId} : ∀ {l : List (DataW H)} {d : DataW H}, d ∈ l → ∀ n ∈ d.weights Try.prog e, n ∈ DataW.weightsAll Try.prog e l
  | [], _, h, _, _ => by cases h
  | x :: l, d, h, n, hn => by
    simp only [DataW.weightsAll, List.mem_append]
    rcases List.mem_cons.1 h with rfl | h
    · exact .inl hn
    · exact .inr (weightsAll_memD h n hn)

theorem LightD.each {ts : List TypeId} {l : List (DataW H)} {k : Nat} {t : TypeId} {d : DataW H} (h : ∀ n ∈ DataW.weightsEach Try.prog ts l, n ≤ reachBytes) (ht : ts[k]? = some t) (hd : l[k]? = some d) : LightD t d := fun n hn =>
  h n (DataW.weights_mem_each ht hd n hn)

theorem reach_eqD : reachBytes = LIM := rfl

theorem cells_w {T : TypeId} {t : Ty} (h : tyOf T = some t) : Try.prog.cellsOf T = t.w := by
  obtain ⟨i, hi, h1, -⟩ := row_info h
  simp [Program.cellsOf, hi, h1]

theorem rng_wf {k : IntKind} {t : TypeId} (ht : tyOf t = some (.int k)) {n : Int} (h : (Lit.int k n).wf = true) : rngB k n = true := by
  have h0 := (row_int ht).2.1
  cases k <;> first | (simp [rngB] at h0; done) | (simp [Lit.wf, IntKind.min, IntKind.max, IntKind.signed, IntKind.bits] at h; simp [rngB]; omega)

theorem spot_noneD {a : Addr} {v : Value} (h : W.cell? a = some v) : a.spot = none := by
  unfold World.cell? at h
  split at h
  · split at h
    · cases h
    · rename_i hs; simpa using hs
  · cases h

theorem rdF_of {F : Nat → Prop} {cs : List Value} : ∀ {fl : List Field} {fs : List Ty} {o : Nat}, fieldsB fl fs o = true → (∀ (j : Nat) (f : Field) (t : Ty), fl[j]? = some f → fs[j]? = some t → ∃ y, Rd W F y t ((cs.drop f.offset).take t.w)) → cs.length = o + widths fs → ∃ ds, RdF W F ds fs (cs.drop o)
  | [], [], o, _, _, hl => by
    simp [widths] at hl
    exact ⟨[], rfl, by rw [List.drop_eq_nil_iff]; omega⟩
  | f :: l, t :: ts, o, hb, hf, hl => by
    simp only [fieldsB, Bool.and_eq_true] at hb
    obtain ⟨⟨⟨h1, -⟩, -⟩, h3⟩ := hb
    have ho := Nat.eq_of_beq_eq_true h1
    rw [widths_cons] at hl
    obtain ⟨ds, hds⟩ := rdF_of h3 (fun j f' t' hj ht => hf (j + 1) f' t' (by simpa using hj) (by simpa using ht)) (by omega)
    obtain ⟨y, hy⟩ := hf 0 f t rfl rfl
    refine ⟨y :: ds, t, ts, (cs.drop o).take t.w, cs.drop (o + t.w), rfl, ?_, by rw [← ho]; exact hy, hds⟩
    rw [← List.drop_drop, List.take_append_drop]
  | [], _ :: _, o, hb, _, _ => by cases hb
  | _ :: _, [], o, hb, _, _ => by cases hb

theorem open_recD : ∀ (fuel : Nat) {T : TypeId} {t : Ty} (cs : List Value) (x : DataW H × List MemPlace), tyOf T = some t → isMp t = false → DataW.trod enc Try.prog W base spare held fuel T cs = some x → LightD T x.1 → ∃ y, Rd W (fun _ => True) y t cs := by
  intro fuel
  induction fuel with
  | zero => intro T t cs x _ _ h; simp [DataW.trod] at h
  | succ fuel ih =>
    intro T t cs x hT hM h hL
    cases t with
    | map K V => cases hM
    | int k =>
      obtain ⟨n, rfl, -, hw⟩ := DataW.trod_int (row_int hT).1 h
      exact ⟨.i n, k, rfl, rfl, rng_wf hT hw⟩
    | bool =>
      obtain ⟨b, rfl, -⟩ := DataW.trod_bool (row_bool hT).1 h
      exact ⟨.b b, rfl, rfl⟩
    | str =>
      obtain ⟨s, rfl, rfl, -⟩ := DataW.trod_string (row_str hT).1 h
      have := hL s.data.toList.length (by simp [DataW.weights])
      exact ⟨.s s, rfl, rfl, by rw [reach_eqD] at this; simpa using this⟩
    | st S =>
      obtain ⟨fields, fs, zc, i, hu, hfs, hfb, hi, hsz, -, -, -, -⟩ := row_st hT
      obtain ⟨xs, n, hn, hx, hlen, hxl, hf⟩ := DataW.trod_struct hu h
      obtain rfl : fuel = n := by omega
      have hw : ∀ n ∈ DataW.weightsEach Try.prog (fields.toList.map (·.type)) (xs.map (·.1)), n ≤ reachBytes := fun n hn => hL n (by rw [hx]; simp only [DataW.weights, hu]; exact hn)
      have hcl : cs.length = 0 + widths fs := by rw [hlen, cells_w hT, (fld_okD hfs).1]; omega
      obtain ⟨ds, hds⟩ := rdF_of (W := W) (F := fun _ => True) hfb (fun j f t hj ht => by
        obtain ⟨f', hf', ho, hty, -⟩ := fieldsB_get hfb ht
        obtain rfl := Option.some.inj (hj.symm.trans hf')
        have h5 := hf j f (by rw [← Array.getElem?_toList]; exact hj)
        have hjl : j < fields.toList.length := (List.getElem?_eq_some_iff.1 hj).1
        have hjx : j < xs.length := by rw [hxl]; simpa using hjl
        rw [cells_w hty, List.getElem?_eq_getElem hjx] at h5
        refine ih _ _ hty (fld_noM hfs (List.mem_of_getElem? ht)) h5 (LightD.each (k := j) hw ?_ ?_)
        · rw [List.getElem?_map, hj]; rfl
        · rw [List.getElem?_map, List.getElem?_eq_getElem hjx]; rfl) hcl
      exact ⟨.a ds, S, fs, rfl, hfs, by simpa using hds⟩
    | row E =>
      obtain ⟨hu, ⟨te, hte⟩, -⟩ := row_row hT
      rcases DataW.trod_slice hu h with ⟨rfl, hx⟩ | ⟨a, len, cap, elems, rest, n, hn, rfl, hx, hb, hl, hm, hlen, hel, -⟩
      · exact ⟨.r [], E, te, none, 0, rfl, hte, rfl, by simp, by simp, by simp [maxLen], by simp [RdE]⟩
      · obtain rfl : fuel = n := by omega
        have hwd := tyOf_pos hte
        rw [cells_w hte] at hel
        have hw := hL
        rw [hx] at hw
        simp only [LightD, DataW.weights, hu, List.mem_cons, List.mem_append] at hw
        have hlen2 : len ≤ LM te := by
          have := hw _ (.inl rfl)
          rw [reach_eqD] at this
          have hbe : Try.prog.bytesOf E = te.by := by
            obtain ⟨i, hi, -⟩ := row_info hte
            simp [Program.bytesOf, hi, row_bytes hte hi]
          refine (Nat.le_div_iff_mul_le (by_pos hte).1).2 ?_
          simp [hbe] at this
          have h2 : len * te.by ≤ (elems.length + rest.length) * te.by := Nat.mul_le_mul_right _ (by omega)
          exact Nat.le_trans h2 this
        have spot : 0 < len → a.spot = none := fun h0 => by
          have h2 := hel 0 h0
          rw [List.getElem?_eq_getElem (by omega)] at h2
          cases hc0 : W.cells? base (a.add (0 * te.w)) te.w with
          | none => rw [hc0] at h2; cases h2
          | some cs0 =>
            obtain ⟨_, hcl0, hat0⟩ := World.cells?_some hc0
            have hp : 0 < cs0.length := by omega
            have := hat0 0 (by omega)
            rw [List.getElem?_eq_getElem hp] at this
            exact spot_noneD (a := a) (v := cs0[0]) (by simpa [Addr.add] using this)
        have each : ∀ i, i < len → ∃ y, RdEl W (fun _ => True) y te (some a) i := fun i hi => by
          have h1 := hel i hi
          rw [List.getElem?_eq_getElem (by omega)] at h1
          cases hc : W.cells? base (a.add (i * te.w)) te.w with
          | none => rw [hc] at h1; cases h1
          | some cs' =>
            rw [hc] at h1
            obtain ⟨_, hcl, hat⟩ := World.cells?_some hc
            obtain ⟨y, hy⟩ := ih cs' _ hte (row_noM hT hte) h1 (fun n hn => hw n (.inr (.inl (weightsAll_memD (List.mem_map.2 ⟨_, List.getElem_mem (by omega), rfl⟩) n hn))))
            have hsp := spot (by omega)
            obtain ⟨b, o, sp⟩ := a
            obtain rfl : sp = none := hsp
            have add : ∀ k, (Addr.add ⟨b, o, none⟩ (i * te.w)).add k = ⟨b, o + i * te.w + k, none⟩ := fun k => by
              unfold Addr.add
              split <;> split <;> simp <;> omega
            refine ⟨y, b, o, cs', rfl, trivial, fun j v hj => ?_, hy⟩
            have hj' := (List.getElem?_eq_some_iff.1 hj).1
            have := hat j (by omega)
            rw [add, hj] at this
            exact this
        have pick : ∀ n, n ≤ len → ∃ l : List D, l.length = n ∧ ∀ i (h : i < l.length), RdEl W (fun _ => True) l[i] te (some a) i := by
          intro n
          induction n with
          | zero => exact fun _ => ⟨[], rfl, fun i hi => by simp at hi⟩
          | succ n ihn =>
            intro hn
            obtain ⟨l, hl1, hl2⟩ := ihn (by omega)
            obtain ⟨t, ht⟩ := each n (by omega)
            refine ⟨l ++ [t], by simp [hl1], fun i hi => ?_⟩
            by_cases hin : i < l.length
            · rw [List.getElem_append_left hin]; exact hl2 i hin
            · obtain rfl : i = l.length := by simp at hi; omega
              rw [List.getElem_append_right (by omega)]
              simp [hl1]
              exact ht
        obtain ⟨l, hl1, hl2⟩ := pick len (Nat.le_refl _)
        exact ⟨.r l, E, te, some a, cap, rfl, hte, by rw [hl1], by omega, by omega, hm, rdE_iff.2 fun j hj => by rw [Nat.zero_add]; exact hl2 j hj⟩

theorem open_D {T : TypeId} {t : Ty} (hT : tyOf T = some t) (hM : isMp t = false) {v : Value} {d : DataW H} {p : List MemPlace} {b0 : Nat} {r : Reach} (hv : Value.okWide Try.prog W r b0 T v) (h : DataW.Trod enc Try.prog W base spare held T v d p) (hL : LightD T d) :
    ∃ x cs, Pack t cs v ∧ Rd W (fun b => b < W.heap.size) x t cs := by
  obtain ⟨fuel, hf⟩ := h
  obtain ⟨y, hy⟩ := open_recD fuel _ _ hT hM hf hL
  refine ⟨y, v.cells.toList, ?_, Rd.keeps (fun b o _ ho => ⟨ho, lt_of_heap ho⟩) _ hy⟩
  cases t with
  | int k => obtain ⟨n, rfl⟩ := okWide_int (row_int hT).1 hv; rfl
  | bool => obtain ⟨n, rfl⟩ := okWide_bool (row_bool hT).1 hv; rfl
  | str => obtain ⟨n, rfl⟩ := okWide_string (row_str hT).1 hv; rfl
  | map K V => cases hM
  | row E => obtain ⟨A, l, c, rfl⟩ := okWide_slice (row_row hT).1 hv; rfl
  | st S =>
    obtain ⟨fields, fs, zc, i, hu, -⟩ := row_st hT
    obtain ⟨cs, rfl, -⟩ := okWide_struct hu hv
    simp [Pack, Value.cells]
end

def ArgsV (W : World) : List Ar → List Value → List D → Prop
  | [], vs, ds => vs = [] ∧ ds = []
  | .val t :: l, vs, ds => ∃ v r d ds', vs = v :: r ∧ ds = d :: ds' ∧ (∃ cs, Pack t cs v ∧ Rd W (FFD (fun _ => True) (fun _ => none) []) d t cs) ∧ ArgsV W l r ds'
  | _ :: _, _, _ => False
theorem ArgsV.ok {W : World} {V : List Value} : ∀ {i : Nat} {ar : List Ar} {vs : List Value} {ds : List D}, ArgsV W ar vs ds → ArgsOk V (fun _ => True) (fun _ => none) W (idx i ar) vs ds ∧ vs.length = ar.length
  | _, [], vs, ds, h => ⟨h, by rw [h.1]; rfl⟩
  | i, .val t :: l, vs, ds, ⟨v, r, d, ds', e1, e2, h1, h⟩ => by
    obtain ⟨h2, h3⟩ := ArgsV.ok (V := V) (i := i + 1) h
    exact ⟨⟨v, r, d, ds', e1, e2, h1, h2⟩, by rw [e1]; simp [h3]⟩
  | _, .ref _ :: _, _, _, h => h.elim
  | _, .rref _ :: _, _, _, h => h.elim
  | _, .own _ :: _, _, _, h => h.elim
  | _, .mref _ :: _, _, _, h => h.elim
  | _, .nils :: _, _, _, h => h.elim
  | _, .nilp :: _, _, _, h => h.elim
  | _, .fn _ _ :: _, _, _, h => h.elim
  | _, .cell _ _ :: _, _, _, h => h.elim
theorem law_calls {ct : Ct} {g : List D → Option (List D)} (h : FOk ct g) (hrs : ct.rs = [(.bool, false)]) (hvr : ct.vr = []) {W : World} {vs : List Value} {ds : List D} (ha : ArgsV W ct.ar vs ds) (hg : g ds = some [.b true]) :
    Calls Try.prog ct.f vs.toArray W fun e W' => e = .returned (.bool true) ∧ But Nil W W' := by
  obtain ⟨h1, h2⟩ := ArgsV.ok (V := vs ++ []) (i := 0) ha
  refine (h.call (fun _ => True) (fun _ => none) W vs [] ds _ hg (by constructor <;> simp) h2 (by simpa [Ct.all, hvr, idx] using h1)).mono ?_
  rintro e W' (⟨T, -, ho, -⟩ | ⟨rs, p', rfl, hb, hr, -⟩)
  · cases ho
  rw [hrs] at hr
  obtain ⟨v, r, d, ds', rfl, hd, ⟨cs, hp, hc⟩, rfl⟩ := hr
  simp at hd
  obtain ⟨rfl, rfl⟩ := hd
  obtain ⟨e1, e2⟩ : D.b true = .b true ∧ cs = [.bool true] := ⟨rfl, by
    have hc' : Rd W' (FFD (fun _ => True) p' []) (.b true) .bool cs := hc
    exact hc'.2⟩
  subst e2
  have hpv : [Value.bool true] = [v] := hp
  injection hpv with hpv
  subst hpv
  exact ⟨rfl, hb.but.mono fun i hi _ => by obtain ⟨x, hx⟩ := hi; cases hx⟩
end Go.Proofs.Ytinclokohcommaa

