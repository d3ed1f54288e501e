/-
  Lemmas of the walk and plain laws, put together. No condition.
-/
import Derived.ChangeArms
import Derived.OpenShut
import Derived.ProofKit
import Derived.SizedLaws
import Derived.Test.YtflahdpkkgmpeaaRows
import Derived.Test.YtflahdpkkgmpeaaZe
namespace Go.Proofs.Ytflahdpkkgmpeaa
open Go.RowKit
set_option linter.unusedVariables false
set_option linter.unusedSimpArgs false

theorem varsK_nodup (c : Cla) : (varsK c).Nodup := varsTs_nodup _ _ List.nodup_nil
theorem posL_injK (c : Cla) : ∀ x ∈ varsK c, ∀ y ∈ varsK c, posL (varsK c) x = posL (varsK c) y → x = y := fun x hx y hy h => posL_inj hx hy h
theorem vars_can (c : Cla) : varsK (canK c) = rangeI (varsK c).length := by
  have h := varsTs_map (f := posL (varsK c)) [c.1, c.2] [] (posL_injK c)
  have e : varsTs [] [c.1, c.2] = varsK c := rfl
  rw [e, posL_range _ (varsK_nodup c)] at h
  exact h
theorem len_range (n : Nat) : (rangeI n).length = n := by simp [rangeI]
theorem get_r0 (x : D) (l : List D) : (D.r (x :: l)).get 0 = x := rfl
theorem get_r1 (x y : D) (l : List D) : (D.r (x :: y :: l)).get 1 = y := rfl
theorem canA_ok {h g : Te} (hz : szT h + szT g ≤ 2000) : gCanA [D.r [eT h, eT g]] = some [.r [eT (canK (h, g)).1, eT (canK (h, g)).2]] := by
  have : szTs [h, g] ≤ 100000 := by simp only [szTs]; omega
  have e : ([eT h, eT g].map dT) = [h, g] := by simp [dT_eT]
  simp only [gCanA, rs_r, e, if_pos this]
  rfl
theorem varsA_ok {h g : Te} (hz : szT h + szT g ≤ 2000) : gVarsA [D.r [eT h, eT g]] = some [eIs (varsK (h, g))] := by
  have : szTs [h, g] ≤ 100000 := by simp only [szTs]; omega
  have e : ([eT h, eT g].map dT) = [h, g] := by simp [dT_eT]
  simp only [gVarsA, rs_r, e, if_pos this]
  rfl
theorem varsC_ok {h g : Te} (hz : szT h + szT g ≤ 2000) : gVarsA [D.r [eT (canK (h, g)).1, eT (canK (h, g)).2]] = some [eIs (rangeI (varsK (h, g)).length)] := by
  have h1 : szT (canK (h, g)).1 = szT h := szT_mapV _
  have h2 : szT (canK (h, g)).2 = szT g := szT_mapV _
  rw [varsA_ok (by omega)]
  rw [show ((canK (h, g)).1, (canK (h, g)).2) = canK (h, g) from rfl, vars_can]
theorem rule_is {t : Te} (hv : validT t = true) : isT t sNeck 2 = ruleB t := by
  have hk := valid_kind hv
  rw [Bool.eq_iff_iff]
  simp only [isT, ruleB, Bool.and_eq_true, Bool.or_eq_true, decide_eq_true_eq]
  constructor
  · rintro ⟨⟨h1, h2⟩, h3⟩
    exact ⟨⟨by omega, h2⟩, h3⟩
  · rintro ⟨⟨h1, h2⟩, h3⟩
    exact ⟨⟨.inr h1, h2⟩, h3⟩
theorem call_int {t : Te} (hv : validT t = true) (h0 : t.k ≠ 0) : callT t = !decide (t.k = 1) := by
  have hk := valid_kind hv
  rw [Bool.eq_iff_iff]
  simp only [callT, Bool.or_eq_true, decide_eq_true_eq, Bool.not_eq_true', decide_eq_false_iff_not]
  omega
theorem min_sum (a b : Te) (h : szT a + szT b ≤ 2000) : ¬ (2000 : Int) < min (szT a : Int) 2001 + min (szT b : Int) 2001 := by omega
theorem min_sum' (a b : Te) (h : ¬ szT a + szT b ≤ 2000) : (2000 : Int) < min (szT a : Int) 2001 + min (szT b : Int) 2001 := by
  have h1 := szT_pos a
  have h2 := szT_pos b
  omega
theorem min_rng (a b : Te) : -9223372036854775808 ≤ min (szT a : Int) 2001 + min (szT b : Int) 2001 ∧ min (szT a : Int) 2001 + min (szT b : Int) 2001 ≤ 9223372036854775807 := by omega
theorem ok_ref16_Clause : FOk ct_ref16_Clause gCla := fok_ref16_Clause ok_ref03_Valid ok_ref16_Is ok_ref06_Inst ok_ref06_Type ok_ref16_convert ok_ref03_Size ok_ref03_CanonAll ok_ref03_VarsAll fun ds outs hw hg => by
  obtain ⟨d, r, rfl, hd, rfl⟩ := hw
  obtain ⟨t, rfl, ht⟩ := wfT hd
  simp only [gCla, dT_eT, Option.some.injEq] at hg
  subst hg
  cases hv : validT t with
  | false => simp [tree_ref16_Clause, go_need, go_br, go_leaf, go_back, allSay, X.says, X.ev, X.evs, evl, tblS, List.getD_cons_zero, List.getD_cons_succ, List.getElem?_cons_zero, List.getElem?_cons_succ, tt_b, int_i, str_s, rs_r, Option.isSome_some, Option.getD_some, decide_eq_true_eq, decide_eq_false_iff_not, List.length_map, i_inj, b_inj, s_inj, rng64, List.take_succ_cons, List.take_zero, List.nil_append, List.cons_append, decide_true, decide_false, Bool.or_true, true_and, and_true, dT_eT, eT_0, eT_1, eT_2, eT_3, eT_eq, eT_z, gTb, hv, clauseT, zK, eK]
  | true =>
    have hi := rule_is hv
    cases hr : ruleB t with
    | true =>
      rw [hr] at hi
      have hl := rule_len hr
      have g0 : (D.r (t.l.map eT)).get 0 = eT (t.l.getD 0 default) := get_t (k := 0) (by omega)
      have g1 : (D.r (t.l.map eT)).get 1 = eT (t.l.getD 1 default) := get_t (k := 1) (by omega)
      have v0 := valid_getD hv (j := 0) (by omega)
      have v1 := valid_getD hv (j := 1) (by omega)
      have hl2 : (t.l.length : Int) = 2 := by omega
      simp only [clauseT, hv, hr, if_true]
      simp only [tree_ref16_Clause, go_need, go_br, go_leaf, go_back, allSay, X.says, X.ev, X.evs, evl, tblS, List.getD_cons_zero, List.getD_cons_succ, List.getElem?_cons_zero, List.getElem?_cons_succ, tt_b, int_i, str_s, rs_r, Option.isSome_some, Option.getD_some, decide_eq_true_eq, decide_eq_false_iff_not, List.length_map, i_inj, b_inj, s_inj, rng64, List.take_succ_cons, List.take_zero, List.nil_append, List.cons_append, decide_true, decide_false, Bool.or_true, true_and, and_true, dT_eT, eT_0, eT_1, eT_2, eT_3, eT_eq, eT_z, gTb, hv, gIs, hi, g0, g1, hl2]
      generalize t.l.getD 0 default = head at *
      generalize t.l.getD 1 default = rest at *
      have hcc := conv_eq rest v1
      by_cases h0 : head.k = 0
      · simp [go_need, go_br, go_leaf, go_back, allSay, X.says, X.ev, X.evs, evl, tblS, List.getD_cons_zero, List.getD_cons_succ, List.getElem?_cons_zero, List.getElem?_cons_succ, tt_b, int_i, str_s, rs_r, Option.isSome_some, Option.getD_some, decide_eq_true_eq, decide_eq_false_iff_not, List.length_map, i_inj, b_inj, s_inj, rng64, List.take_succ_cons, List.take_zero, List.nil_append, List.cons_append, decide_true, decide_false, Bool.or_true, true_and, and_true, dT_eT, eT_0, eT_1, eT_2, eT_3, eT_eq, eT_z, h0, clauseC, zK, eK, inst_eq]
      have hci := call_int v0 h0
      by_cases h1 : head.k = 1
      · have hc : callT head = false := by rw [hci]; simp [h1]
        simp [go_need, go_br, go_leaf, go_back, allSay, X.says, X.ev, X.evs, evl, tblS, List.getD_cons_zero, List.getD_cons_succ, List.getElem?_cons_zero, List.getElem?_cons_succ, tt_b, int_i, str_s, rs_r, Option.isSome_some, Option.getD_some, decide_eq_true_eq, decide_eq_false_iff_not, List.length_map, i_inj, b_inj, s_inj, rng64, List.take_succ_cons, List.take_zero, List.nil_append, List.cons_append, decide_true, decide_false, Bool.or_true, true_and, and_true, dT_eT, eT_0, eT_1, eT_2, eT_3, eT_eq, eT_z, h0, h1, clauseC, zK, eK, hc, gTy, (type_eq v0).2.1]
      have hc : callT head = true := by rw [hci]; simp [h1]
      cases hb : buildT rest with
      | none =>
        rw [hb] at hcc
        simp [go_need, go_br, go_leaf, go_back, allSay, X.says, X.ev, X.evs, evl, tblS, List.getD_cons_zero, List.getD_cons_succ, List.getElem?_cons_zero, List.getElem?_cons_succ, tt_b, int_i, str_s, rs_r, Option.isSome_some, Option.getD_some, decide_eq_true_eq, decide_eq_false_iff_not, List.length_map, i_inj, b_inj, s_inj, rng64, List.take_succ_cons, List.take_zero, List.nil_append, List.cons_append, decide_true, decide_false, Bool.or_true, true_and, and_true, dT_eT, eT_0, eT_1, eT_2, eT_3, eT_eq, eT_z, h0, h1, clauseC, zK, eK, hc, gTy, gCv, v1, hb, hcc, (type_eq v1).2.1]
      | some g =>
        rw [hb] at hcc
        by_cases hz : szT head + szT g ≤ 2000
        · by_cases h64 : (varsK (head, g)).length ≤ 64
          · have h65 : ¬ (64 : Int) < ((varsK (head, g)).length : Nat) := by omega
            simp [go_need, go_br, go_leaf, go_back, allSay, X.says, X.ev, X.evs, evl, tblS, List.getD_cons_zero, List.getD_cons_succ, List.getElem?_cons_zero, List.getElem?_cons_succ, tt_b, int_i, str_s, rs_r, Option.isSome_some, Option.getD_some, decide_eq_true_eq, decide_eq_false_iff_not, List.length_map, i_inj, b_inj, s_inj, rng64, List.take_succ_cons, List.take_zero, List.nil_append, List.cons_append, decide_true, decide_false, Bool.or_true, true_and, and_true, dT_eT, eT_0, eT_1, eT_2, eT_3, eT_eq, eT_z, h0, h1, clauseC, hc, gTi, gCv, v1, hb, hcc, min_sum _ _ hz, min_rng, canA_ok hz, varsC_ok hz, eIs_len, len_range, hz, h64, h65, get_r0, get_r1, rs_r, eK_mk]
          · have h65 : (64 : Int) < ((varsK (head, g)).length : Nat) := by omega
            simp [go_need, go_br, go_leaf, go_back, allSay, X.says, X.ev, X.evs, evl, tblS, List.getD_cons_zero, List.getD_cons_succ, List.getElem?_cons_zero, List.getElem?_cons_succ, tt_b, int_i, str_s, rs_r, Option.isSome_some, Option.getD_some, decide_eq_true_eq, decide_eq_false_iff_not, List.length_map, i_inj, b_inj, s_inj, rng64, List.take_succ_cons, List.take_zero, List.nil_append, List.cons_append, decide_true, decide_false, Bool.or_true, true_and, and_true, dT_eT, eT_0, eT_1, eT_2, eT_3, eT_eq, eT_z, h0, h1, clauseC, hc, gTi, gCv, v1, hb, hcc, min_sum _ _ hz, min_rng, canA_ok hz, varsC_ok hz, eIs_len, len_range, hz, h64, h65, get_r0, get_r1, rs_r, zK, eK]
        · simp [go_need, go_br, go_leaf, go_back, allSay, X.says, X.ev, X.evs, evl, tblS, List.getD_cons_zero, List.getD_cons_succ, List.getElem?_cons_zero, List.getElem?_cons_succ, tt_b, int_i, str_s, rs_r, Option.isSome_some, Option.getD_some, decide_eq_true_eq, decide_eq_false_iff_not, List.length_map, i_inj, b_inj, s_inj, rng64, List.take_succ_cons, List.take_zero, List.nil_append, List.cons_append, decide_true, decide_false, Bool.or_true, true_and, and_true, dT_eT, eT_0, eT_1, eT_2, eT_3, eT_eq, eT_z, h0, h1, clauseC, zK, eK, hc, gTi, gCv, v1, hb, hcc, min_sum' _ _ hz, min_rng, hz]
    | false =>
      rw [hr] at hi
      simp only [clauseT, hv, hr, if_true]
      have hb : buildT (atomR sTrue) = some (atomR sTrue) := rfl
      have v1 := true_valid
      have hcc := conv_eq _ v1
      rw [hb] at hcc
      have et : D.a (((eT zT).fs.set 0 (.i 2)).set 2 (.s sTrue)) = eT (atomR sTrue) := rfl
      have et' : D.a ((D.a ((eT zT).fs.set 0 (.i 2))).fs.set 2 (.s sTrue)) = eT (atomR sTrue) := rfl
      simp only [tree_ref16_Clause, go_need, go_br, go_leaf, go_back, allSay, X.says, X.ev, X.evs, evl, tblS, List.getD_cons_zero, List.getD_cons_succ, List.getElem?_cons_zero, List.getElem?_cons_succ, tt_b, int_i, str_s, rs_r, Option.isSome_some, Option.getD_some, decide_eq_true_eq, decide_eq_false_iff_not, List.length_map, i_inj, b_inj, s_inj, rng64, List.take_succ_cons, List.take_zero, List.nil_append, List.cons_append, decide_true, decide_false, Bool.or_true, true_and, and_true, dT_eT, eT_0, eT_1, eT_2, eT_3, eT_eq, eT_z, gTb, hv, gIs, hi, et, et']
      generalize atomR sTrue = rest at *
      by_cases h0 : t.k = 0
      · simp [go_need, go_br, go_leaf, go_back, allSay, X.says, X.ev, X.evs, evl, tblS, List.getD_cons_zero, List.getD_cons_succ, List.getElem?_cons_zero, List.getElem?_cons_succ, tt_b, int_i, str_s, rs_r, Option.isSome_some, Option.getD_some, decide_eq_true_eq, decide_eq_false_iff_not, List.length_map, i_inj, b_inj, s_inj, rng64, List.take_succ_cons, List.take_zero, List.nil_append, List.cons_append, decide_true, decide_false, Bool.or_true, true_and, and_true, dT_eT, eT_0, eT_1, eT_2, eT_3, eT_eq, eT_z, h0, clauseC, zK, eK, inst_eq]
      have hci := call_int hv h0
      by_cases h1 : t.k = 1
      · have hc : callT t = false := by rw [hci]; simp [h1]
        simp [go_need, go_br, go_leaf, go_back, allSay, X.says, X.ev, X.evs, evl, tblS, List.getD_cons_zero, List.getD_cons_succ, List.getElem?_cons_zero, List.getElem?_cons_succ, tt_b, int_i, str_s, rs_r, Option.isSome_some, Option.getD_some, decide_eq_true_eq, decide_eq_false_iff_not, List.length_map, i_inj, b_inj, s_inj, rng64, List.take_succ_cons, List.take_zero, List.nil_append, List.cons_append, decide_true, decide_false, Bool.or_true, true_and, and_true, dT_eT, eT_0, eT_1, eT_2, eT_3, eT_eq, eT_z, h0, h1, clauseC, zK, eK, hc, gTy, (type_eq hv).2.1]
      have hc : callT t = true := by rw [hci]; simp [h1]
      by_cases hz : szT t + szT rest ≤ 2000
      · by_cases h64 : (varsK (t, rest)).length ≤ 64
        · have h65 : ¬ (64 : Int) < ((varsK (t, rest)).length : Nat) := by omega
          simp [go_need, go_br, go_leaf, go_back, allSay, X.says, X.ev, X.evs, evl, tblS, List.getD_cons_zero, List.getD_cons_succ, List.getElem?_cons_zero, List.getElem?_cons_succ, tt_b, int_i, str_s, rs_r, Option.isSome_some, Option.getD_some, decide_eq_true_eq, decide_eq_false_iff_not, List.length_map, i_inj, b_inj, s_inj, rng64, List.take_succ_cons, List.take_zero, List.nil_append, List.cons_append, decide_true, decide_false, Bool.or_true, true_and, and_true, dT_eT, eT_0, eT_1, eT_2, eT_3, eT_eq, eT_z, h0, h1, clauseC, hc, gTi, gCv, v1, hb, hcc, min_sum _ _ hz, min_rng, canA_ok hz, varsC_ok hz, eIs_len, len_range, hz, h64, h65, get_r0, get_r1, rs_r, eK_mk]
        · have h65 : (64 : Int) < ((varsK (t, rest)).length : Nat) := by omega
          simp [go_need, go_br, go_leaf, go_back, allSay, X.says, X.ev, X.evs, evl, tblS, List.getD_cons_zero, List.getD_cons_succ, List.getElem?_cons_zero, List.getElem?_cons_succ, tt_b, int_i, str_s, rs_r, Option.isSome_some, Option.getD_some, decide_eq_true_eq, decide_eq_false_iff_not, List.length_map, i_inj, b_inj, s_inj, rng64, List.take_succ_cons, List.take_zero, List.nil_append, List.cons_append, decide_true, decide_false, Bool.or_true, true_and, and_true, dT_eT, eT_0, eT_1, eT_2, eT_3, eT_eq, eT_z, h0, h1, clauseC, hc, gTi, gCv, v1, hb, hcc, min_sum _ _ hz, min_rng, canA_ok hz, varsC_ok hz, eIs_len, len_range, hz, h64, h65, get_r0, get_r1, rs_r, zK, eK]
      · simp [go_need, go_br, go_leaf, go_back, allSay, X.says, X.ev, X.evs, evl, tblS, List.getD_cons_zero, List.getD_cons_succ, List.getElem?_cons_zero, List.getElem?_cons_succ, tt_b, int_i, str_s, rs_r, Option.isSome_some, Option.getD_some, decide_eq_true_eq, decide_eq_false_iff_not, List.length_map, i_inj, b_inj, s_inj, rng64, List.take_succ_cons, List.take_zero, List.nil_append, List.cons_append, decide_true, decide_false, Bool.or_true, true_and, and_true, dT_eT, eT_0, eT_1, eT_2, eT_3, eT_eq, eT_z, h0, h1, clauseC, zK, eK, hc, gTi, gCv, v1, hb, hcc, min_sum' _ _ hz, min_rng, hz]
def sameK (c d : Cla) : Bool := sameT c.1 d.1 && sameT c.2 d.2
def gKKb (f : Cla → Cla → Bool) : List D → Option (List D)
  | [c, d] => some [.b (f (dK c) (dK d))]
  | _ => none
theorem ok_ref16_SameClause : FOk ct_ref16_SameClause (gKKb sameK) := fok_ref16_SameClause ok_ref03_Same fun ds outs hw hg => by
  obtain ⟨d, r, rfl, hd, e, r', rfl, he, rfl⟩ := hw
  obtain ⟨c, rfl, -⟩ := wfK hd
  obtain ⟨c', rfl, -⟩ := wfK he
  simp only [gKKb, dK_eK, Option.some.injEq] at hg
  subst hg
  simp only [tree_ref16_SameClause, go_need, go_br, go_leaf, go_back, allSay, X.says, X.ev, X.evs, evl, tblS, List.getD_cons_zero, List.getD_cons_succ, List.getElem?_cons_zero, List.getElem?_cons_succ, tt_b, int_i, str_s, rs_r, Option.isSome_some, Option.getD_some, decide_eq_true_eq, decide_eq_false_iff_not, List.length_map, i_inj, b_inj, s_inj, rng64, List.take_succ_cons, List.take_zero, List.nil_append, List.cons_append, decide_true, decide_false, Bool.or_true, true_and, and_true, dT_eT, eT_0, eT_1, eT_2, eT_3, eT_eq, eT_z, eK_0, eK_1, gTTb, sameK]
/-! ### Valid, Term -/
def validK (c : Cla) : Bool := (validT c.1 && callT c.1) && (fitsK c && (validT c.2 && (decide (buildT c.2 = some c.2) && (decide ((varsK c).length ≤ 64) && decide (canK c = c)))))
theorem sameT_id {t u : Te} (h : validT t = true) : sameT u t = decide (u = t) := by
  rw [Bool.eq_iff_iff]
  simp only [sameT, Bool.and_eq_true, decide_eq_true_eq, idT_iff]
  exact ⟨fun q => q.2.2, fun q => ⟨by rw [q]; exact h, h, q⟩⟩
theorem canK_eq (c : Cla) : decide (canK c = c) = (decide ((canK c).1 = c.1) && decide ((canK c).2 = c.2)) := by
  rw [Bool.eq_iff_iff]
  simp only [Bool.and_eq_true, decide_eq_true_eq]
  exact ⟨fun h => ⟨by rw [h], by rw [h]⟩, fun h => Prod.ext h.1 h.2⟩
theorem goal_same {t : Te} (hv : validT t = true) : ((goalT t).2 && sameT (goalT t).1 t) = decide (buildT t = some t) := by
  rw [sameT_id hv]
  have hz := (validT_iff.1 hv).1
  simp only [goalT, hv, if_true]
  cases hb : buildT t with
  | none => simp
  | some u =>
    by_cases h : u = t
    · subst h
      have : ¬ 2000 < szT u := by omega
      simp [this]
    · by_cases h2 : 2000 < szT u
      · simp [h2, h]
      · simp [h2, h]
theorem ok_body_Valid : FOk ct_body_Valid (gKb validK) := fok_body_Valid ok_term_Valid ok_body_callable ok_body_fits ok_body_Goal ok_term_Same ok_body_canonical fun ds outs hw hg => by
  obtain ⟨d, r, rfl, hd, rfl⟩ := hw
  obtain ⟨c, rfl, -⟩ := wfK hd
  simp only [gKb, dK_eK, Option.some.injEq] at hg
  subst hg
  have hfo : gKb fitsK [eK c] = some [.b (fitsK c)] := by simp only [gKb, dK_eK]
  cases hv : validT c.1 with
  | false => simp [tree_body_Valid, go_need, go_br, go_leaf, go_back, allSay, X.says, X.ev, X.evs, evl, tblS, List.getD_cons_zero, List.getD_cons_succ, List.getElem?_cons_zero, List.getElem?_cons_succ, tt_b, int_i, str_s, rs_r, Option.isSome_some, Option.getD_some, decide_eq_true_eq, decide_eq_false_iff_not, List.length_map, i_inj, b_inj, s_inj, rng64, List.take_succ_cons, List.take_zero, List.nil_append, List.cons_append, decide_true, decide_false, Bool.or_true, true_and, and_true, dT_eT, eT_0, eT_1, eT_2, eT_3, eT_eq, eT_z, eK_0, eK_1, gTb, hv, validK, hfo]
  | true =>
    cases hc : callT c.1 with
    | false => simp [tree_body_Valid, go_need, go_br, go_leaf, go_back, allSay, X.says, X.ev, X.evs, evl, tblS, List.getD_cons_zero, List.getD_cons_succ, List.getElem?_cons_zero, List.getElem?_cons_succ, tt_b, int_i, str_s, rs_r, Option.isSome_some, Option.getD_some, decide_eq_true_eq, decide_eq_false_iff_not, List.length_map, i_inj, b_inj, s_inj, rng64, List.take_succ_cons, List.take_zero, List.nil_append, List.cons_append, decide_true, decide_false, Bool.or_true, true_and, and_true, dT_eT, eT_0, eT_1, eT_2, eT_3, eT_eq, eT_z, eK_0, eK_1, gTb, hv, hc, validK, hfo]
    | true =>
      cases hf : fitsK c with
      | false => simp [tree_body_Valid, go_need, go_br, go_leaf, go_back, allSay, X.says, X.ev, X.evs, evl, tblS, List.getD_cons_zero, List.getD_cons_succ, List.getElem?_cons_zero, List.getElem?_cons_succ, tt_b, int_i, str_s, rs_r, Option.isSome_some, Option.getD_some, decide_eq_true_eq, decide_eq_false_iff_not, List.length_map, i_inj, b_inj, s_inj, rng64, List.take_succ_cons, List.take_zero, List.nil_append, List.cons_append, decide_true, decide_false, Bool.or_true, true_and, and_true, dT_eT, eT_0, eT_1, eT_2, eT_3, eT_eq, eT_z, eK_0, eK_1, gTb, hv, hc, validK, hfo, hf, tt_b]
      | true =>
        have hz := (fits_iff c).1 hf
        have hco : gCan [eK c] = some [eK (canK c), .i ((varsK c).length : Nat)] := can_ok (head := c.1) (g := c.2) hz
        cases hv2 : validT c.2 with
        | false =>
          have : (goalT c.2).2 = false := by simp [goalT, hv2]
          simp [tree_body_Valid, go_need, go_br, go_leaf, go_back, allSay, X.says, X.ev, X.evs, evl, tblS, List.getD_cons_zero, List.getD_cons_succ, List.getElem?_cons_zero, List.getElem?_cons_succ, tt_b, int_i, str_s, rs_r, Option.isSome_some, Option.getD_some, decide_eq_true_eq, decide_eq_false_iff_not, List.length_map, i_inj, b_inj, s_inj, rng64, List.take_succ_cons, List.take_zero, List.nil_append, List.cons_append, decide_true, decide_false, Bool.or_true, true_and, and_true, dT_eT, eT_0, eT_1, eT_2, eT_3, eT_eq, eT_z, eK_0, eK_1, gTb, hv, hc, validK, hfo, hf, tt_b, gTTB, this, hv2]
        | true =>
          have hgs := goal_same hv2
          cases hg2 : (goalT c.2).2 with
          | false =>
            rw [hg2, Bool.false_and] at hgs
            simp [tree_body_Valid, go_need, go_br, go_leaf, go_back, allSay, X.says, X.ev, X.evs, evl, tblS, List.getD_cons_zero, List.getD_cons_succ, List.getElem?_cons_zero, List.getElem?_cons_succ, tt_b, int_i, str_s, rs_r, Option.isSome_some, Option.getD_some, decide_eq_true_eq, decide_eq_false_iff_not, List.length_map, i_inj, b_inj, s_inj, rng64, List.take_succ_cons, List.take_zero, List.nil_append, List.cons_append, decide_true, decide_false, Bool.or_true, true_and, and_true, dT_eT, eT_0, eT_1, eT_2, eT_3, eT_eq, eT_z, eK_0, eK_1, gTb, hv, hc, validK, hfo, hf, tt_b, gTTB, hg2, hv2, ← hgs]
            all_goals exact fun q => absurd q (of_decide_eq_false hgs.symm)
          | true =>
            rw [hg2, Bool.true_and] at hgs
            cases hs : sameT (goalT c.2).1 c.2 with
            | false =>
              rw [hs] at hgs
              simp [tree_body_Valid, go_need, go_br, go_leaf, go_back, allSay, X.says, X.ev, X.evs, evl, tblS, List.getD_cons_zero, List.getD_cons_succ, List.getElem?_cons_zero, List.getElem?_cons_succ, tt_b, int_i, str_s, rs_r, Option.isSome_some, Option.getD_some, decide_eq_true_eq, decide_eq_false_iff_not, List.length_map, i_inj, b_inj, s_inj, rng64, List.take_succ_cons, List.take_zero, List.nil_append, List.cons_append, decide_true, decide_false, Bool.or_true, true_and, and_true, dT_eT, eT_0, eT_1, eT_2, eT_3, eT_eq, eT_z, eK_0, eK_1, gTb, hv, hc, validK, hfo, hf, tt_b, gTTB, hg2, hv2, gTTb, hs]
              all_goals exact fun q => absurd q (of_decide_eq_false hgs.symm)
            | true =>
              rw [hs] at hgs
              have hbb := of_decide_eq_true hgs.symm
              by_cases h64 : (varsK c).length ≤ 64
              · have h65 : ((varsK c).length : Int) ≤ 64 := by omega
                simp [tree_body_Valid, go_need, go_br, go_leaf, go_back, allSay, X.says, X.ev, X.evs, evl, tblS, List.getD_cons_zero, List.getD_cons_succ, List.getElem?_cons_zero, List.getElem?_cons_succ, tt_b, int_i, str_s, rs_r, Option.isSome_some, Option.getD_some, decide_eq_true_eq, decide_eq_false_iff_not, List.length_map, i_inj, b_inj, s_inj, rng64, List.take_succ_cons, List.take_zero, List.nil_append, List.cons_append, decide_true, decide_false, Bool.or_true, true_and, and_true, dT_eT, eT_0, eT_1, eT_2, eT_3, eT_eq, eT_z, eK_0, eK_1, gTb, hv, hc, validK, hfo, hf, tt_b, gTTB, hg2, hv2, gTTb, hs, hco, h64, h65, hbb, sameT_id hv, sameT_id hv2, canK_eq]
              · have h65 : ¬ ((varsK c).length : Int) ≤ 64 := by omega
                simp [tree_body_Valid, go_need, go_br, go_leaf, go_back, allSay, X.says, X.ev, X.evs, evl, tblS, List.getD_cons_zero, List.getD_cons_succ, List.getElem?_cons_zero, List.getElem?_cons_succ, tt_b, int_i, str_s, rs_r, Option.isSome_some, Option.getD_some, decide_eq_true_eq, decide_eq_false_iff_not, List.length_map, i_inj, b_inj, s_inj, rng64, List.take_succ_cons, List.take_zero, List.nil_append, List.cons_append, decide_true, decide_false, Bool.or_true, true_and, and_true, dT_eT, eT_0, eT_1, eT_2, eT_3, eT_eq, eT_z, eK_0, eK_1, gTb, hv, hc, validK, hfo, hf, tt_b, gTTB, hg2, hv2, gTTb, hs, hco, h64, h65]
theorem kind_call {t : Te} : (!decide (t.k = 2) && !decide (t.k = 3)) = !callT t := by simp [callT]
theorem ok_ref16_Valid : FOk ct_ref16_Valid (gKb validK) := fok_ref16_Valid ok_ref03_Valid ok_ref16_convert ok_ref03_Same ok_ref03_Size ok_ref03_VarsAll ok_ref03_CanonAll ok_ref03_SameAll fun ds outs hw hg => by
  obtain ⟨d, r, rfl, hd, rfl⟩ := hw
  obtain ⟨c, rfl, -⟩ := wfK hd
  simp only [gKb, dK_eK, Option.some.injEq] at hg
  subst hg
  cases hv : validT c.1 with
  | false => simp [tree_ref16_Valid, go_need, go_br, go_leaf, go_back, allSay, X.says, X.ev, X.evs, evl, tblS, List.getD_cons_zero, List.getD_cons_succ, List.getElem?_cons_zero, List.getElem?_cons_succ, tt_b, int_i, str_s, rs_r, Option.isSome_some, Option.getD_some, decide_eq_true_eq, decide_eq_false_iff_not, List.length_map, i_inj, b_inj, s_inj, rng64, List.take_succ_cons, List.take_zero, List.nil_append, List.cons_append, decide_true, decide_false, Bool.or_true, true_and, and_true, dT_eT, eT_0, eT_1, eT_2, eT_3, eT_eq, eT_z, eK_0, eK_1, gTb, hv, validK]
  | true =>
    cases hv2 : validT c.2 with
    | false => simp [tree_ref16_Valid, go_need, go_br, go_leaf, go_back, allSay, X.says, X.ev, X.evs, evl, tblS, List.getD_cons_zero, List.getD_cons_succ, List.getElem?_cons_zero, List.getElem?_cons_succ, tt_b, int_i, str_s, rs_r, Option.isSome_some, Option.getD_some, decide_eq_true_eq, decide_eq_false_iff_not, List.length_map, i_inj, b_inj, s_inj, rng64, List.take_succ_cons, List.take_zero, List.nil_append, List.cons_append, decide_true, decide_false, Bool.or_true, true_and, and_true, dT_eT, eT_0, eT_1, eT_2, eT_3, eT_eq, eT_z, eK_0, eK_1, gTb, hv, hv2, validK]
    | true =>
      simp only [tree_ref16_Valid, go_need, go_br, go_leaf, go_back, allSay, X.says, X.ev, X.evs, evl, tblS, List.getD_cons_zero, List.getD_cons_succ, List.getElem?_cons_zero, List.getElem?_cons_succ, tt_b, int_i, str_s, rs_r, Option.isSome_some, Option.getD_some, decide_eq_true_eq, decide_eq_false_iff_not, List.length_map, i_inj, b_inj, s_inj, rng64, List.take_succ_cons, List.take_zero, List.nil_append, List.cons_append, decide_true, decide_false, Bool.or_true, true_and, and_true, dT_eT, eT_0, eT_1, eT_2, eT_3, eT_eq, eT_z, eK_0, eK_1, gTb, hv, hv2, kind_call]
      cases hc : callT c.1 with
      | false => simp [go_need, go_br, go_leaf, go_back, allSay, X.says, X.ev, X.evs, evl, tblS, List.getD_cons_zero, List.getD_cons_succ, List.getElem?_cons_zero, List.getElem?_cons_succ, tt_b, int_i, str_s, rs_r, Option.isSome_some, Option.getD_some, decide_eq_true_eq, decide_eq_false_iff_not, List.length_map, i_inj, b_inj, s_inj, rng64, List.take_succ_cons, List.take_zero, List.nil_append, List.cons_append, decide_true, decide_false, Bool.or_true, true_and, and_true, dT_eT, eT_0, eT_1, eT_2, eT_3, eT_eq, eT_z, hc, validK]
      | true =>
        have hcc := conv_eq c.2 hv2
        have hz2 := (validT_iff.1 hv2).1
        cases hb : buildT c.2 with
        | none =>
          rw [hb] at hcc
          simp [go_need, go_br, go_leaf, go_back, allSay, X.says, X.ev, X.evs, evl, tblS, List.getD_cons_zero, List.getD_cons_succ, List.getElem?_cons_zero, List.getElem?_cons_succ, tt_b, int_i, str_s, rs_r, Option.isSome_some, Option.getD_some, decide_eq_true_eq, decide_eq_false_iff_not, List.length_map, i_inj, b_inj, s_inj, rng64, List.take_succ_cons, List.take_zero, List.nil_append, List.cons_append, decide_true, decide_false, Bool.or_true, true_and, and_true, dT_eT, eT_0, eT_1, eT_2, eT_3, eT_eq, eT_z, gCv, hv2, hcc, hc, validK, hb]
        | some u =>
          rw [hb] at hcc
          have hs := sameT_id (u := u) hv2
          by_cases hu : u = c.2
          · subst hu
            by_cases hz : szT c.1 + szT c.2 ≤ 2000
            · have hf := (fits_iff c).2 hz
              have e1 := varsA_ok hz
              have e2 := canA_ok hz
              by_cases h64 : (varsK c).length ≤ 64
              · have h65 : ((varsK c).length : Int) ≤ 64 := by omega
                have e3 : gLLb sameAllT [D.r [eT (canK c).1, eT (canK c).2], D.r [eT c.1, eT c.2]] = some [.b (sameT (canK c).1 c.1 && sameT (canK c).2 c.2)] := by
                  have q1 : ([eT (canK c).1, eT (canK c).2].map dT) = [(canK c).1, (canK c).2] := by simp [dT_eT]
                  have q2 : ([eT c.1, eT c.2].map dT) = [c.1, c.2] := by simp [dT_eT]
                  simp only [gLLb, rs_r, q1, q2]
                  congr 3
                  simp only [sameAllT, List.length_cons, List.length_nil]
                  show (decide (0 + 1 + 1 = 0 + 1 + 1) && (List.range 2).all _) = _
                  rw [show List.range 2 = [0, 1] from rfl]
                  simp
                simp [go_need, go_br, go_leaf, go_back, allSay, X.says, X.ev, X.evs, evl, tblS, List.getD_cons_zero, List.getD_cons_succ, List.getElem?_cons_zero, List.getElem?_cons_succ, tt_b, int_i, str_s, rs_r, Option.isSome_some, Option.getD_some, decide_eq_true_eq, decide_eq_false_iff_not, List.length_map, i_inj, b_inj, s_inj, rng64, List.take_succ_cons, List.take_zero, List.nil_append, List.cons_append, decide_true, decide_false, Bool.or_true, true_and, and_true, dT_eT, eT_0, eT_1, eT_2, eT_3, eT_eq, eT_z, gCv, hv2, hcc, hc, validK, hb, hv, gTTb, hs, gTi, min_sum _ _ hz, min_rng, e1, e2, eIs_len, h64, h65, hf, e3, canK_eq, sameT_id hv, sameT_id hv2]
              · have h65 : ¬ ((varsK c).length : Int) ≤ 64 := by omega
                simp [go_need, go_br, go_leaf, go_back, allSay, X.says, X.ev, X.evs, evl, tblS, List.getD_cons_zero, List.getD_cons_succ, List.getElem?_cons_zero, List.getElem?_cons_succ, tt_b, int_i, str_s, rs_r, Option.isSome_some, Option.getD_some, decide_eq_true_eq, decide_eq_false_iff_not, List.length_map, i_inj, b_inj, s_inj, rng64, List.take_succ_cons, List.take_zero, List.nil_append, List.cons_append, decide_true, decide_false, Bool.or_true, true_and, and_true, dT_eT, eT_0, eT_1, eT_2, eT_3, eT_eq, eT_z, gCv, hv2, hcc, hc, validK, hb, hv, gTTb, hs, gTi, min_sum _ _ hz, min_rng, e1, e2, eIs_len, h64, h65, hf]
            · have hf : fitsK c = false := by rw [Bool.eq_false_iff]; exact fun q => hz ((fits_iff _).1 q)
              simp [go_need, go_br, go_leaf, go_back, allSay, X.says, X.ev, X.evs, evl, tblS, List.getD_cons_zero, List.getD_cons_succ, List.getElem?_cons_zero, List.getElem?_cons_succ, tt_b, int_i, str_s, rs_r, Option.isSome_some, Option.getD_some, decide_eq_true_eq, decide_eq_false_iff_not, List.length_map, i_inj, b_inj, s_inj, rng64, List.take_succ_cons, List.take_zero, List.nil_append, List.cons_append, decide_true, decide_false, Bool.or_true, true_and, and_true, dT_eT, eT_0, eT_1, eT_2, eT_3, eT_eq, eT_z, gCv, hv2, hcc, hc, validK, hb, hv, gTTb, hs, gTi, min_sum' _ _ hz, min_rng, hf]
          · simp [go_need, go_br, go_leaf, go_back, allSay, X.says, X.ev, X.evs, evl, tblS, List.getD_cons_zero, List.getD_cons_succ, List.getElem?_cons_zero, List.getElem?_cons_succ, tt_b, int_i, str_s, rs_r, Option.isSome_some, Option.getD_some, decide_eq_true_eq, decide_eq_false_iff_not, List.length_map, i_inj, b_inj, s_inj, rng64, List.take_succ_cons, List.take_zero, List.nil_append, List.cons_append, decide_true, decide_false, Bool.or_true, true_and, and_true, dT_eT, eT_0, eT_1, eT_2, eT_3, eT_eq, eT_z, gCv, hv2, hcc, hc, validK, hb, hv, gTTb, hs, hu]
def termK (c : Cla) : Te := if validK c then (if (decide (c.2.k = 2) && decide (c.2.s = sTrue)) && !ruleB c.1 then c.1 else cloneT (.mk 3 0 sNeck [c.1, c.2])) else zT
def gKT (f : Cla → Te) : List D → Option (List D)
  | [c] => some [eT (f (dK c))]
  | _ => none
theorem validK_1 {c : Cla} (h : validK c = true) : validT c.1 = true ∧ validT c.2 = true := by
  simp only [validK, Bool.and_eq_true] at h
  exact ⟨h.1.1, h.2.2.1⟩
theorem ok_body_Term : FOk ct_body_Term (gKT termK) := fok_body_Term ok_body_Valid ok_term_cloneT ok_term_Struct fun ds outs hw hg => by
  obtain ⟨d, r, rfl, hd, rfl⟩ := hw
  obtain ⟨c, rfl, -⟩ := wfK hd
  simp only [gKT, dK_eK, Option.some.injEq] at hg
  subst hg
  have hvo : gKb validK [eK c] = some [.b (validK c)] := by simp only [gKb, dK_eK]
  have hso : gSL struT [D.s sNeck, D.r [eT c.1, eT c.2]] = some [eT (cloneT (.mk 3 0 sNeck [c.1, c.2]))] := by
    have q2 : ([eT c.1, eT c.2].map dT) = [c.1, c.2] := by simp [dT_eT]
    simp only [gSL, rs_r, str_s, q2]
    rfl
  cases hv : validK c with
  | false => simp [tree_body_Term, go_need, go_br, go_leaf, go_back, allSay, X.says, X.ev, X.evs, evl, tblS, List.getD_cons_zero, List.getD_cons_succ, List.getElem?_cons_zero, List.getElem?_cons_succ, tt_b, int_i, str_s, rs_r, Option.isSome_some, Option.getD_some, decide_eq_true_eq, decide_eq_false_iff_not, List.length_map, i_inj, b_inj, s_inj, rng64, List.take_succ_cons, List.take_zero, List.nil_append, List.cons_append, decide_true, decide_false, Bool.or_true, true_and, and_true, dT_eT, eT_0, eT_1, eT_2, eT_3, eT_eq, eT_z, hvo, hv, termK]
  | true =>
    obtain ⟨h1, h2⟩ := validK_1 hv
    simp only [tree_body_Term, go_need, go_br, go_leaf, go_back, allSay, X.says, X.ev, X.evs, evl, tblS, List.getD_cons_zero, List.getD_cons_succ, List.getElem?_cons_zero, List.getElem?_cons_succ, tt_b, int_i, str_s, rs_r, Option.isSome_some, Option.getD_some, decide_eq_true_eq, decide_eq_false_iff_not, List.length_map, i_inj, b_inj, s_inj, rng64, List.take_succ_cons, List.take_zero, List.nil_append, List.cons_append, decide_true, decide_false, Bool.or_true, true_and, and_true, dT_eT, eT_0, eT_1, eT_2, eT_3, eT_eq, eT_z, hvo, hv, termK, eK_0, eK_1, hso, gTT, cloneT_of h1]
    cases hq : ((decide (c.2.k = 2) && decide (c.2.s = sTrue)) && !ruleB c.1) with
    | true =>
      refine ⟨by simp, fun _ => ⟨fun _ => rfl, fun q => ?_⟩⟩
      rw [ruleB] at hq
      rw [hq] at q
      cases q
    | false =>
      refine ⟨by simp, fun _ => ⟨fun q => ?_, fun _ => rfl⟩⟩
      rw [ruleB] at hq
      rw [hq] at q
      cases q
theorem true_is {t : Te} (hv : validT t = true) : isT t sTrue 0 = (decide (t.k = 2) && decide (t.s = sTrue)) := by
  have hk := valid_kind hv
  rw [Bool.eq_iff_iff]
  simp only [isT, Bool.and_eq_true, Bool.or_eq_true, decide_eq_true_eq]
  constructor
  · rintro ⟨⟨h1, h2⟩, h3⟩
    exact ⟨by omega, h2⟩
  · rintro ⟨h1, h2⟩
    exact ⟨⟨.inl h1, h2⟩, by omega⟩
theorem ok_ref16_Term : FOk ct_ref16_Term (gKT termK) := fok_ref16_Term ok_ref16_Valid ok_ref16_Is ok_ref03_Clone fun ds outs hw hg => by
  obtain ⟨d, r, rfl, hd, rfl⟩ := hw
  obtain ⟨c, rfl, -⟩ := wfK hd
  simp only [gKT, dK_eK, Option.some.injEq] at hg
  subst hg
  have hvo : gKb validK [eK c] = some [.b (validK c)] := by simp only [gKb, dK_eK]
  have hme : D.a (((eT zT).fs.set 0 (.i 3)).set 2 (.s sNeck) |>.set 3 (.r [eT c.1, eT c.2])) = eT (.mk 3 0 sNeck [c.1, c.2]) := by rw [eT_mk]; rfl
  cases hv : validK c with
  | false => simp [tree_ref16_Term, go_need, go_br, go_leaf, go_back, allSay, X.says, X.ev, X.evs, evl, tblS, List.getD_cons_zero, List.getD_cons_succ, List.getElem?_cons_zero, List.getElem?_cons_succ, tt_b, int_i, str_s, rs_r, Option.isSome_some, Option.getD_some, decide_eq_true_eq, decide_eq_false_iff_not, List.length_map, i_inj, b_inj, s_inj, rng64, List.take_succ_cons, List.take_zero, List.nil_append, List.cons_append, decide_true, decide_false, Bool.or_true, true_and, and_true, dT_eT, eT_0, eT_1, eT_2, eT_3, eT_eq, eT_z, hvo, hv, termK]
  | true =>
    obtain ⟨h1, h2⟩ := validK_1 hv
    simp only [tree_ref16_Term, go_need, go_br, go_leaf, go_back, allSay, X.says, X.ev, X.evs, evl, tblS, List.getD_cons_zero, List.getD_cons_succ, List.getElem?_cons_zero, List.getElem?_cons_succ, tt_b, int_i, str_s, rs_r, Option.isSome_some, Option.getD_some, decide_eq_true_eq, decide_eq_false_iff_not, List.length_map, i_inj, b_inj, s_inj, rng64, List.take_succ_cons, List.take_zero, List.nil_append, List.cons_append, decide_true, decide_false, Bool.or_true, true_and, and_true, dT_eT, eT_0, eT_1, eT_2, eT_3, eT_eq, eT_z, hvo, hv, termK, eK_0, eK_1, gTT, cloneT_of h1, gIs, true_is h2, rule_is h1, fs_a, hme]
    cases hq : ((decide (c.2.k = 2) && decide (c.2.s = sTrue)) && !ruleB c.1) with
    | true => simp
    | false => simp
end Go.Proofs.Ytflahdpkkgmpeaa

namespace Go.Proofs.Ytflahdpkkgmpeaa
open Go.RowKit
set_option linter.unusedVariables false
set_option linter.unusedSimpArgs false

theorem ok_body_Add_1 : FOk ct_body_Add_1 (gTb fun t => !validT t) := fok_body_Add_1 ok_term_Valid fun ds outs hw hg => by
  obtain ⟨d, r, rfl, hd, rfl⟩ := hw
  obtain ⟨t, rfl, ht⟩ := wfT hd
  simp only [gTb, dT_eT, Option.some.injEq] at hg
  subst hg
  simp only [tree_body_Add_1, go_need, go_br, go_leaf, go_back, allSay, X.says, X.ev, X.evs, evl, tblS, List.getD_cons_zero, List.getD_cons_succ, List.getElem?_cons_zero, List.getElem?_cons_succ, tt_b, int_i, str_s, rs_r, Option.isSome_some, Option.getD_some, decide_eq_true_eq, decide_eq_false_iff_not, List.length_map, i_inj, b_inj, s_inj, rng64, List.take_succ_cons, List.take_zero, List.nil_append, List.cons_append, decide_true, decide_false, Bool.or_true, true_and, and_true, dT_eT, eT_0, eT_1, eT_2, eT_3, eT_eq, eT_z, gTb]
/-- Whether one of the terms is not valid. -/
def gBadL : List D → Option (List D)
  | [l] => some [.b (!(l.rs.map dT).all validT)]
  | _ => none
def badI (l : List Te) (r : Int) : Prop := (r = -1 ∧ l.all validT = true) ∨ (0 ≤ r ∧ l.all validT = false)
def gIF : List D → Option (List D)
  | [l] => some [.i (if (l.rs.map dT).all validT then -1 else ((l.rs.map dT).findIdx fun t => !validT t : Nat))]
  | _ => none
theorem ok_slices_IndexFunc_Term : FOk ct_slices_IndexFunc_Term gIF := fok_slices_IndexFunc_Term ok_body_Add_1 fun ds outs hw hg => by
  obtain ⟨d, r, rfl, hd, hw⟩ := hw
  obtain rfl : r = [] := hw
  obtain ⟨l, rfl, hl, -⟩ := wfTs hd
  simp only [gIF, rs_r, map_dT, Option.some.injEq] at hg
  subst hg
  rw [tree_slices_IndexFunc_Term, go_loop]
  refine ⟨fun st => ∃ k : Nat, k ≤ l.length ∧ st = [.i 0, .i k] ∧ ∀ j, j < k → validT (l.getD j default) = true, fun st => l.length - (st.getD 1 .u).int.toNat, ⟨0, Nat.zero_le _, rfl, fun j hj => absurd hj (Nat.not_lt_zero _)⟩, ?_⟩
  rintro st - ⟨k, hk, rfl, hP⟩
  rw [go_br]
  refine ⟨fun hlt => ?_, fun hlt => ?_⟩
  · simp only [go_need, go_br, go_leaf, go_back, allSay, X.says, X.ev, X.evs, evl, tblS, List.getD_cons_zero, List.getD_cons_succ, List.getElem?_cons_zero, List.getElem?_cons_succ, tt_b, int_i, str_s, rs_r, Option.isSome_some, Option.getD_some, decide_eq_true_eq, decide_eq_false_iff_not, List.length_map, i_inj, b_inj, s_inj, rng64, List.take_succ_cons, List.take_zero, List.nil_append, List.cons_append, decide_true, decide_false, Bool.or_true, true_and, and_true, dT_eT, eT_0, eT_1, eT_2, eT_3, eT_eq, eT_z] at hlt
    have hkl : k < l.length := by omega
    simp only [go_need, go_br, go_leaf, go_back, allSay, X.says, X.ev, X.evs, evl, tblS, List.getD_cons_zero, List.getD_cons_succ, List.getElem?_cons_zero, List.getElem?_cons_succ, tt_b, int_i, str_s, rs_r, Option.isSome_some, Option.getD_some, decide_eq_true_eq, decide_eq_false_iff_not, List.length_map, i_inj, b_inj, s_inj, rng64, List.take_succ_cons, List.take_zero, List.nil_append, List.cons_append, decide_true, decide_false, Bool.or_true, true_and, and_true, dT_eT, eT_0, eT_1, eT_2, eT_3, eT_eq, eT_z, get_t hkl, gTb]
    refine ⟨⟨by omega, by omega⟩, fun hx => ?_, fun hx => ⟨⟨by omega, by omega⟩, ?_⟩⟩
    · have hx : validT (l.getD k default) = false := by simpa using hx
      have ha : l.all validT = false := by
        rw [Bool.eq_false_iff]
        intro q
        rw [List.all_eq_true.1 q _ (getD_mem hkl)] at hx
        cases hx
      have hf : (l.findIdx fun t => !validT t) = k := by
        rw [List.findIdx_eq hkl]
        have e : ∀ j (hj : j < l.length), l[j] = l.getD j default := fun j hj => by rw [List.getD_eq_getElem?_getD, List.getElem?_eq_getElem hj]; rfl
        refine ⟨by rw [e, hx]; rfl, fun j hj => ?_⟩
        rw [e, hP j hj]
        rfl
      rw [ha, hf]
      rfl
    · rw [updB, if_pos rfl]
      refine ⟨⟨k + 1, by omega, by simp, upto_succ hP (by simpa using hx)⟩, ?_⟩
      simp [D.int]
      omega
  · simp only [go_need, go_br, go_leaf, go_back, allSay, X.says, X.ev, X.evs, evl, tblS, List.getD_cons_zero, List.getD_cons_succ, List.getElem?_cons_zero, List.getElem?_cons_succ, tt_b, int_i, str_s, rs_r, Option.isSome_some, Option.getD_some, decide_eq_true_eq, decide_eq_false_iff_not, List.length_map, i_inj, b_inj, s_inj, rng64, List.take_succ_cons, List.take_zero, List.nil_append, List.cons_append, decide_true, decide_false, Bool.or_true, true_and, and_true, dT_eT, eT_0, eT_1, eT_2, eT_3, eT_eq, eT_z] at hlt ⊢
    have : k = l.length := by omega
    subst this
    have ha : l.all validT = true := List.all_eq_true.2 fun t ht => by
      obtain ⟨j, hj, rfl⟩ := List.getElem_of_mem ht
      have := hP j hj
      rwa [List.getD_eq_getElem?_getD, List.getElem?_eq_getElem hj] at this
    rw [ha]
    rfl
theorem ok_slices_ContainsFunc_Term : FOk ct_slices_ContainsFunc_Term gBadL := fok_slices_ContainsFunc_Term ok_body_Add_1 ok_slices_IndexFunc_Term fun ds outs hw hg => by
  obtain ⟨d, r, rfl, hd, hw⟩ := hw
  obtain rfl : r = [] := hw
  obtain ⟨l, rfl, hl, -⟩ := wfTs hd
  simp only [gBadL, rs_r, map_dT, Option.some.injEq] at hg
  subst hg
  simp only [tree_slices_ContainsFunc_Term, go_need, go_br, go_leaf, go_back, allSay, X.says, X.ev, X.evs, evl, tblS, List.getD_cons_zero, List.getD_cons_succ, List.getElem?_cons_zero, List.getElem?_cons_succ, tt_b, int_i, str_s, rs_r, Option.isSome_some, Option.getD_some, decide_eq_true_eq, decide_eq_false_iff_not, List.length_map, i_inj, b_inj, s_inj, rng64, List.take_succ_cons, List.take_zero, List.nil_append, List.cons_append, decide_true, decide_false, Bool.or_true, true_and, and_true, dT_eT, eT_0, eT_1, eT_2, eT_3, eT_eq, eT_z, gIF, rs_r, map_dT]
  cases h : l.all validT with
  | true => simp
  | false => simp
def gGr : List D → Option (List D)
  | [n] => if decide (0 ≤ n.int) && decide (n.int ≤ 1000000) then some [.r []] else none
  | _ => none
theorem ok_slices_Grow_Term : FOk ct_slices_Grow_Term gGr := fok_slices_Grow_Term fun ds outs hw hg => by
  obtain ⟨d, r, rfl, hd, rfl⟩ := hw
  obtain ⟨n, rfl, hn⟩ := wfI hd
  unfold gGr at hg
  simp only at hg
  split at hg
  · rename_i hc
    rw [Bool.and_eq_true, decide_eq_true_eq, decide_eq_true_eq] at hc
    obtain ⟨h0, h1⟩ : 0 ≤ n ∧ n ≤ 1000000 := hc
    injection hg with hg
    subst hg
    have e1 : ¬ n < 0 := by omega
    simp only [tree_slices_Grow_Term, go_need, go_br, go_leaf, go_back, allSay, X.says, X.ev, X.evs, evl, tblS, List.getD_cons_zero, List.getD_cons_succ, List.getElem?_cons_zero, List.getElem?_cons_succ, tt_b, int_i, str_s, rs_r, Option.isSome_some, Option.getD_some, decide_eq_true_eq, decide_eq_false_iff_not, List.length_map, i_inj, b_inj, s_inj, rng64, List.take_succ_cons, List.take_zero, List.nil_append, List.cons_append, decide_true, decide_false, Bool.or_true, true_and, and_true, dT_eT, eT_0, eT_1, eT_2, eT_3, eT_eq, eT_z, e1, Int.sub_zero]
    refine ⟨fun q => (by first | exact q.elim | cases q), fun _ => ⟨⟨by omega, by omega⟩, fun h2 => ⟨⟨by omega, by omega, by omega, by omega⟩, by simp⟩, fun h2 => by first | trivial | rfl⟩⟩
  · cases hg
def gCc : List D → Option (List D)
  | [.r [.r x, .r y]] => if x.length + y.length ≤ 1000000 then some [.r (x ++ y)] else none
  | _ => none
theorem ok_slices_Concat_Term : FOk ct_slices_Concat_Term gCc := fok_slices_Concat_Term ok_slices_Grow_Term fun ds outs hw hg => by
  obtain ⟨d, r, rfl, hd, rfl⟩ := hw
  unfold gCc at hg
  split at hg
  · rename_i x y heq
    simp only [List.cons.injEq, and_true] at heq
    subst heq
    simp only [Option.ite_none_right_eq_some, Option.some.injEq] at hg
    obtain ⟨hxy, rfl⟩ := hg
    rw [tree_slices_Concat_Term, go_loop]
    refine ⟨fun st => st = [.i 0, .i 0] ∨ st = [.i x.length, .i 1] ∨ st = [.i (x.length + y.length : Nat), .i 2], fun st => 2 - (st.getD 1 .u).int.toNat, .inl rfl, ?_⟩
    have l2 : ((D.r [D.r x, D.r y]).rs.length : Int) = 2 := rfl
    have g0 : (D.r [D.r x, D.r y]).get 0 = .r x := rfl
    have g1 : (D.r [D.r x, D.r y]).get 1 = .r y := rfl
    rintro st - (rfl | rfl | rfl)
    · simp only [go_need, go_br, go_leaf, go_back, allSay, X.says, X.ev, X.evs, evl, tblS, List.getD_cons_zero, List.getD_cons_succ, List.getElem?_cons_zero, List.getElem?_cons_succ, tt_b, int_i, str_s, rs_r, Option.isSome_some, Option.getD_some, decide_eq_true_eq, decide_eq_false_iff_not, List.length_map, i_inj, b_inj, s_inj, rng64, List.take_succ_cons, List.take_zero, List.nil_append, List.cons_append, decide_true, decide_false, Bool.or_true, true_and, and_true, dT_eT, eT_0, eT_1, eT_2, eT_3, eT_eq, eT_z, l2, g0, rs_r, List.length_cons, List.length_nil]
      refine ⟨fun _ => ⟨⟨by omega, by omega⟩, by omega, fun q => by omega, fun _ => ⟨by omega, ?_⟩⟩, fun q => by omega⟩
      rw [updB, if_pos rfl]
      exact ⟨.inr (.inl (by simp)), by simp [D.int]⟩
    · simp only [go_need, go_br, go_leaf, go_back, allSay, X.says, X.ev, X.evs, evl, tblS, List.getD_cons_zero, List.getD_cons_succ, List.getElem?_cons_zero, List.getElem?_cons_succ, tt_b, int_i, str_s, rs_r, Option.isSome_some, Option.getD_some, decide_eq_true_eq, decide_eq_false_iff_not, List.length_map, i_inj, b_inj, s_inj, rng64, List.take_succ_cons, List.take_zero, List.nil_append, List.cons_append, decide_true, decide_false, Bool.or_true, true_and, and_true, dT_eT, eT_0, eT_1, eT_2, eT_3, eT_eq, eT_z, l2, g1, rs_r, List.length_cons, List.length_nil]
      refine ⟨fun _ => ⟨⟨by omega, by omega⟩, by omega, fun q => by omega, fun _ => ⟨by omega, ?_⟩⟩, fun q => by omega⟩
      rw [updB, if_pos rfl]
      exact ⟨.inr (.inr (by simp)), by simp [D.int]⟩
    · have hgr : gGr [.i (x.length + y.length : Nat)] = some [.r []] := by
        have q1 : decide ((0 : Int) ≤ (x.length + y.length : Nat)) = true := decide_eq_true (by omega)
        have q2 : decide (((x.length + y.length : Nat) : Int) ≤ 1000000) = true := decide_eq_true (by omega)
        unfold gGr
        simp only
        rw [if_pos (by rw [Bool.and_eq_true]; exact ⟨q1, q2⟩)]
      simp only [go_br, go_need, go_br, go_leaf, go_back, allSay, X.says, X.ev, X.evs, evl, tblS, List.getD_cons_zero, List.getD_cons_succ, List.getElem?_cons_zero, List.getElem?_cons_succ, tt_b, int_i, str_s, rs_r, Option.isSome_some, Option.getD_some, decide_eq_true_eq, decide_eq_false_iff_not, List.length_map, i_inj, b_inj, s_inj, rng64, List.take_succ_cons, List.take_zero, List.nil_append, List.cons_append, decide_true, decide_false, Bool.or_true, true_and, and_true, dT_eT, eT_0, eT_1, eT_2, eT_3, eT_eq, eT_z, l2, rs_r, List.length_cons, List.length_nil, hgr]
      refine ⟨fun q => by omega, fun _ => ?_⟩
      rw [go_loop]
      refine ⟨fun st => st = [.r [], .i 0] ∨ st = [.r x, .i 1] ∨ st = [.r (x ++ y), .i 2], fun st => 2 - (st.getD 1 .u).int.toNat, .inl (by simp only [go_need, go_br, go_leaf, go_back, allSay, X.says, X.ev, X.evs, evl, tblS, List.getD_cons_zero, List.getD_cons_succ, List.getElem?_cons_zero, List.getElem?_cons_succ, tt_b, int_i, str_s, rs_r, Option.isSome_some, Option.getD_some, decide_eq_true_eq, decide_eq_false_iff_not, List.length_map, i_inj, b_inj, s_inj, rng64, List.take_succ_cons, List.take_zero, List.nil_append, List.cons_append, decide_true, decide_false, Bool.or_true, true_and, and_true, dT_eT, eT_0, eT_1, eT_2, eT_3, eT_eq, eT_z, hgr]), ?_⟩
      rintro st - (rfl | rfl | rfl)
      · simp only [go_need, go_br, go_leaf, go_back, allSay, X.says, X.ev, X.evs, evl, tblS, List.getD_cons_zero, List.getD_cons_succ, List.getElem?_cons_zero, List.getElem?_cons_succ, tt_b, int_i, str_s, rs_r, Option.isSome_some, Option.getD_some, decide_eq_true_eq, decide_eq_false_iff_not, List.length_map, i_inj, b_inj, s_inj, rng64, List.take_succ_cons, List.take_zero, List.nil_append, List.cons_append, decide_true, decide_false, Bool.or_true, true_and, and_true, dT_eT, eT_0, eT_1, eT_2, eT_3, eT_eq, eT_z, l2, g0, rs_r, List.length_cons, List.length_nil]
        refine ⟨fun _ => ⟨⟨by omega, by omega⟩, by omega, by omega, ?_⟩, fun q => by omega⟩
        rw [updB, if_pos rfl]
        exact ⟨.inr (.inl (by simp)), by simp [D.int]⟩
      · simp only [go_need, go_br, go_leaf, go_back, allSay, X.says, X.ev, X.evs, evl, tblS, List.getD_cons_zero, List.getD_cons_succ, List.getElem?_cons_zero, List.getElem?_cons_succ, tt_b, int_i, str_s, rs_r, Option.isSome_some, Option.getD_some, decide_eq_true_eq, decide_eq_false_iff_not, List.length_map, i_inj, b_inj, s_inj, rng64, List.take_succ_cons, List.take_zero, List.nil_append, List.cons_append, decide_true, decide_false, Bool.or_true, true_and, and_true, dT_eT, eT_0, eT_1, eT_2, eT_3, eT_eq, eT_z, l2, g1, rs_r, List.length_cons, List.length_nil]
        refine ⟨fun _ => ⟨⟨by omega, by omega⟩, by omega, by omega, ?_⟩, fun q => by omega⟩
        rw [updB, if_pos rfl]
        exact ⟨.inr (.inr (by simp)), by simp [D.int]⟩
      · simp only [go_need, go_br, go_leaf, go_back, allSay, X.says, X.ev, X.evs, evl, tblS, List.getD_cons_zero, List.getD_cons_succ, List.getElem?_cons_zero, List.getElem?_cons_succ, tt_b, int_i, str_s, rs_r, Option.isSome_some, Option.getD_some, decide_eq_true_eq, decide_eq_false_iff_not, List.length_map, i_inj, b_inj, s_inj, rng64, List.take_succ_cons, List.take_zero, List.nil_append, List.cons_append, decide_true, decide_false, Bool.or_true, true_and, and_true, dT_eT, eT_0, eT_1, eT_2, eT_3, eT_eq, eT_z, l2, rs_r, List.length_cons, List.length_nil]
        exact ⟨fun q => by omega, fun _ => by first | trivial | rfl⟩
  · cases hg
def addT (g : Te) (args : List Te) : Te × Te × Int :=
  if validT g && args.all validT then (if args.length = 0 then (g, zT, 0) else if g.k = 0 then (zT, instT, 8) else if callT g then
    (if 8 < g.l.length + args.length then (zT, zT, 2) else if 2000 < szT g + szTs args then (zT, zT, 2) else (.mk 3 0 g.s (g.l ++ args), zT, 0))
    else (zT, typeT g, 8)) else (zT, zT, 1)
def gAdd : List D → Option (List D)
  | [g, l] => some [eT (addT (dT g) (l.rs.map dT)).1, eT (addT (dT g) (l.rs.map dT)).2.1, .i (addT (dT g) (l.rs.map dT)).2.2]
  | _ => none
theorem valid_le {l : List Te} (h : l.all validT = true) : ∀ t ∈ l, szT t ≤ 2000 ∧ nodesT t = true := fun t ht => validT_iff.1 (List.all_eq_true.1 h t ht)
theorem sum_take {l : List Te} (h : ∀ t ∈ l, szT t ≤ 2000) {k : Nat} : szTs (l.take k) ≤ 2000 * k := by
  induction k with
  | zero => simp [szTs]
  | succ k ih =>
    by_cases hk : k < l.length
    · rw [szTs_snoc hk]
      have := h _ (getD_mem hk)
      omega
    · rw [List.take_of_length_le (by omega)]
      rw [List.take_of_length_le (by omega)] at ih
      omega
theorem name_ok {g : Te} (hv : validT g = true) (hc : callT g = true) : g.s.size ≤ 100 ∧ ∀ t ∈ g.l, nodesT t = true := by
  have h := (validT_iff.1 hv).2
  have h1 := ((nodes_iff g).1 h).1
  simp only [callT, Bool.or_eq_true, decide_eq_true_eq] at hc
  refine ⟨?_, ?_⟩
  · unfold nodeT at h1
    rw [if_neg (by omega), if_neg (by omega)] at h1
    split at h1
    · simp only [Bool.and_eq_true, decide_eq_true_eq] at h1
      omega
    · rw [if_pos (by omega)] at h1
      simp only [Bool.and_eq_true, decide_eq_true_eq] at h1
      omega
  · cases g with
    | mk k n s l =>
      rw [nodesT, Bool.and_eq_true] at h
      exact nodesTs_iff.1 h.2
theorem add_valid {g : Te} {l : List Te} (hv : validT g = true) (hc : callT g = true) (ha : l.all validT = true) (h1 : l.length ≠ 0) (h8 : ¬ 8 < g.l.length + l.length) (hz : ¬ 2000 < szT g + szTs l) : validT (.mk 3 0 g.s (g.l ++ l)) = true := by
  obtain ⟨hn, hg⟩ := name_ok hv hc
  have hs := szT_l g
  refine str_valid hn (by rw [List.length_append]; omega) (by rw [List.length_append]; omega) (fun t ht => ?_) (by rw [szTs_app]; omega)
  rcases List.mem_append.1 ht with ht | ht
  · exact hg t ht
  · exact (valid_le ha t ht).2
theorem ok_body_Add : FOk ct_body_Add gAdd := fok_body_Add ok_term_Valid ok_slices_ContainsFunc_Term ok_term_cloneT ok_balls_Inst ok_body_callable ok_balls_Type ok_term_Size ok_slices_Concat_Term ok_term_Struct fun ds outs hw hg => by
  obtain ⟨d, r, rfl, hd, e, r', rfl, he, rfl⟩ := hw
  obtain ⟨g, rfl, ht⟩ := wfT hd
  obtain ⟨l, rfl, hl, -⟩ := wfTs he
  simp only [gAdd, rs_r, map_dT, dT_eT, Option.some.injEq] at hg
  subst hg
  have hbo : gBadL [.r (l.map eT)] = some [.b (!l.all validT)] := by simp only [gBadL, rs_r, map_dT]
  cases hv : validT g with
  | false => simp [tree_body_Add, go_need, go_br, go_leaf, go_back, allSay, X.says, X.ev, X.evs, evl, tblS, List.getD_cons_zero, List.getD_cons_succ, List.getElem?_cons_zero, List.getElem?_cons_succ, tt_b, int_i, str_s, rs_r, Option.isSome_some, Option.getD_some, decide_eq_true_eq, decide_eq_false_iff_not, List.length_map, i_inj, b_inj, s_inj, rng64, List.take_succ_cons, List.take_zero, List.nil_append, List.cons_append, decide_true, decide_false, Bool.or_true, true_and, and_true, dT_eT, eT_0, eT_1, eT_2, eT_3, eT_eq, eT_z, gTb, hv, addT]
  | true =>
    cases ha : l.all validT with
    | false => simp [tree_body_Add, go_need, go_br, go_leaf, go_back, allSay, X.says, X.ev, X.evs, evl, tblS, List.getD_cons_zero, List.getD_cons_succ, List.getElem?_cons_zero, List.getElem?_cons_succ, tt_b, int_i, str_s, rs_r, Option.isSome_some, Option.getD_some, decide_eq_true_eq, decide_eq_false_iff_not, List.length_map, i_inj, b_inj, s_inj, rng64, List.take_succ_cons, List.take_zero, List.nil_append, List.cons_append, decide_true, decide_false, Bool.or_true, true_and, and_true, dT_eT, eT_0, eT_1, eT_2, eT_3, eT_eq, eT_z, gTb, hv, hbo, ha, addT]
    | true =>
      by_cases h0 : l.length = 0
      · have h0' : l = [] := List.length_eq_zero_iff.1 h0
        subst h0'
        rw [List.map_nil, List.all_nil] at hbo
        simp [tree_body_Add, go_need, go_br, go_leaf, go_back, allSay, X.says, X.ev, X.evs, evl, tblS, List.getD_cons_zero, List.getD_cons_succ, List.getElem?_cons_zero, List.getElem?_cons_succ, tt_b, int_i, str_s, rs_r, Option.isSome_some, Option.getD_some, decide_eq_true_eq, decide_eq_false_iff_not, List.length_map, i_inj, b_inj, s_inj, rng64, List.take_succ_cons, List.take_zero, List.nil_append, List.cons_append, decide_true, decide_false, Bool.or_true, true_and, and_true, dT_eT, eT_0, eT_1, eT_2, eT_3, eT_eq, eT_z, gTb, hv, hbo, addT, gTT, cloneT_of hv]
      by_cases hk : g.k = 0
      · have h0i : ¬ (l.length : Int) = 0 := by omega
        have h0l : ¬ l = [] := fun q => h0 (by rw [q]; rfl)
        simp [tree_body_Add, go_need, go_br, go_leaf, go_back, allSay, X.says, X.ev, X.evs, evl, tblS, List.getD_cons_zero, List.getD_cons_succ, List.getElem?_cons_zero, List.getElem?_cons_succ, tt_b, int_i, str_s, rs_r, Option.isSome_some, Option.getD_some, decide_eq_true_eq, decide_eq_false_iff_not, List.length_map, i_inj, b_inj, s_inj, rng64, List.take_succ_cons, List.take_zero, List.nil_append, List.cons_append, decide_true, decide_false, Bool.or_true, true_and, and_true, dT_eT, eT_0, eT_1, eT_2, eT_3, eT_eq, eT_z, gTb, hv, hbo, ha, addT, h0l, hk]
      have h0l : ¬ l = [] := fun q => h0 (by rw [q]; rfl)
      cases hc : callT g with
      | false => simp [tree_body_Add, go_need, go_br, go_leaf, go_back, allSay, X.says, X.ev, X.evs, evl, tblS, List.getD_cons_zero, List.getD_cons_succ, List.getElem?_cons_zero, List.getElem?_cons_succ, tt_b, int_i, str_s, rs_r, Option.isSome_some, Option.getD_some, decide_eq_true_eq, decide_eq_false_iff_not, List.length_map, i_inj, b_inj, s_inj, rng64, List.take_succ_cons, List.take_zero, List.nil_append, List.cons_append, decide_true, decide_false, Bool.or_true, true_and, and_true, dT_eT, eT_0, eT_1, eT_2, eT_3, eT_eq, eT_z, gTb, hv, hbo, ha, addT, h0l, hk, hc, gTy]
      | true =>
        have hgl : g.l.length ≤ 8 := by
          have h := ((nodes_iff g).1 (validT_iff.1 hv).2).1
          simp only [callT, Bool.or_eq_true, decide_eq_true_eq] at hc
          unfold nodeT at h
          rw [if_neg (by omega), if_neg (by omega)] at h
          split at h
          · simp only [Bool.and_eq_true, decide_eq_true_eq] at h; omega
          · rw [if_pos (by omega)] at h
            simp only [Bool.and_eq_true, decide_eq_true_eq] at h; omega
        by_cases h8 : 8 < g.l.length + l.length
        · have h8i : (8 : Int) - (g.l.length : Nat) < (l.length : Nat) := by omega
          simp [tree_body_Add, go_need, go_br, go_leaf, go_back, allSay, X.says, X.ev, X.evs, evl, tblS, List.getD_cons_zero, List.getD_cons_succ, List.getElem?_cons_zero, List.getElem?_cons_succ, tt_b, int_i, str_s, rs_r, Option.isSome_some, Option.getD_some, decide_eq_true_eq, decide_eq_false_iff_not, List.length_map, i_inj, b_inj, s_inj, rng64, List.take_succ_cons, List.take_zero, List.nil_append, List.cons_append, decide_true, decide_false, Bool.or_true, true_and, and_true, dT_eT, eT_0, eT_1, eT_2, eT_3, eT_eq, eT_z, gTb, hv, hbo, ha, addT, h0l, hk, hc, h8, h8i]
          omega
        · have h8i : ¬ (8 : Int) - (g.l.length : Nat) < (l.length : Nat) := by omega
          have hle := fun t ht => (valid_le ha t ht).1
          have hgz := (validT_iff.1 hv).1
          have hr8 : -9223372036854775808 ≤ (8 : Int) - (g.l.length : Nat) ∧ (8 : Int) - (g.l.length : Nat) ≤ 9223372036854775807 := by omega
          simp only [tree_body_Add, go_need, go_br, go_leaf, go_back, allSay, X.says, X.ev, X.evs, evl, tblS, List.getD_cons_zero, List.getD_cons_succ, List.getElem?_cons_zero, List.getElem?_cons_succ, tt_b, int_i, str_s, rs_r, Option.isSome_some, Option.getD_some, decide_eq_true_eq, decide_eq_false_iff_not, List.length_map, i_inj, b_inj, s_inj, rng64, List.take_succ_cons, List.take_zero, List.nil_append, List.cons_append, decide_true, decide_false, Bool.or_true, true_and, and_true, dT_eT, eT_0, eT_1, eT_2, eT_3, eT_eq, eT_z, gTb, hv, hbo, ha, hk, hc, h8i, gTi, show ¬ (l.length : Int) = 0 by omega, hr8, Bool.not_true, Bool.or_self, Bool.not_false, Bool.true_or]
          refine ⟨fun q => (by cases q), fun _ => ⟨fun q => (by cases q), fun _ => ⟨fun q => (by cases q), fun _ => ⟨fun q => (by cases q), fun _ => ⟨fun q => (by cases q), fun _ => ?_⟩⟩⟩⟩⟩
          rw [go_loop]
          refine ⟨fun st => ∃ (k : Nat) (z : Int), k ≤ l.length ∧ st = [.i z, .i k] ∧ 0 ≤ z ∧ z ≤ 2001 * (k + 1) ∧ (z = szT g + szTs (l.take k)), fun st => l.length - (st.getD 1 .u).int.toNat, ⟨0, szT g, Nat.zero_le _, ?_, by omega, by omega, by simp [szTs]⟩, ?_⟩
          · simp only [go_need, go_br, go_leaf, go_back, allSay, X.says, X.ev, X.evs, evl, tblS, List.getD_cons_zero, List.getD_cons_succ, List.getElem?_cons_zero, List.getElem?_cons_succ, tt_b, int_i, str_s, rs_r, Option.isSome_some, Option.getD_some, decide_eq_true_eq, decide_eq_false_iff_not, List.length_map, i_inj, b_inj, s_inj, rng64, List.take_succ_cons, List.take_zero, List.nil_append, List.cons_append, decide_true, decide_false, Bool.or_true, true_and, and_true, dT_eT, eT_0, eT_1, eT_2, eT_3, eT_eq, eT_z, gTi]
            rw [show min (szT g : Int) 2001 = szT g by omega]
            rfl
          rintro st - ⟨k, z, hkl0, rfl, z0, z1, hz⟩
          rw [go_br]
          refine ⟨fun hlt => ?_, fun hlt => ?_⟩
          · simp only [go_need, go_br, go_leaf, go_back, allSay, X.says, X.ev, X.evs, evl, tblS, List.getD_cons_zero, List.getD_cons_succ, List.getElem?_cons_zero, List.getElem?_cons_succ, tt_b, int_i, str_s, rs_r, Option.isSome_some, Option.getD_some, decide_eq_true_eq, decide_eq_false_iff_not, List.length_map, i_inj, b_inj, s_inj, rng64, List.take_succ_cons, List.take_zero, List.nil_append, List.cons_append, decide_true, decide_false, Bool.or_true, true_and, and_true, dT_eT, eT_0, eT_1, eT_2, eT_3, eT_eq, eT_z] at hlt
            have hkl : k < l.length := by omega
            have hak := hle _ (getD_mem hkl)
            have hs := szTs_snoc hkl
            have hl8 : l.length ≤ 8 := by omega
            have hmin : min (szT (l.getD k default) : Int) 2001 = szT (l.getD k default) := by omega
            simp only [go_need, go_br, go_leaf, go_back, allSay, X.says, X.ev, X.evs, evl, tblS, List.getD_cons_zero, List.getD_cons_succ, List.getElem?_cons_zero, List.getElem?_cons_succ, tt_b, int_i, str_s, rs_r, Option.isSome_some, Option.getD_some, decide_eq_true_eq, decide_eq_false_iff_not, List.length_map, i_inj, b_inj, s_inj, rng64, List.take_succ_cons, List.take_zero, List.nil_append, List.cons_append, decide_true, decide_false, Bool.or_true, true_and, and_true, dT_eT, eT_0, eT_1, eT_2, eT_3, eT_eq, eT_z, get_t hkl, gTi, hmin]
            refine ⟨⟨by omega, by omega⟩, ⟨by omega, by omega⟩, ⟨by omega, by omega⟩, ?_⟩
            rw [updB, if_pos rfl]
            refine ⟨⟨k + 1, _, by omega, rfl, by omega, by omega, by omega⟩, ?_⟩
            simp [D.int]
            omega
          · simp only [go_need, go_br, go_leaf, go_back, allSay, X.says, X.ev, X.evs, evl, tblS, List.getD_cons_zero, List.getD_cons_succ, List.getElem?_cons_zero, List.getElem?_cons_succ, tt_b, int_i, str_s, rs_r, Option.isSome_some, Option.getD_some, decide_eq_true_eq, decide_eq_false_iff_not, List.length_map, i_inj, b_inj, s_inj, rng64, List.take_succ_cons, List.take_zero, List.nil_append, List.cons_append, decide_true, decide_false, Bool.or_true, true_and, and_true, dT_eT, eT_0, eT_1, eT_2, eT_3, eT_eq, eT_z] at hlt
            have : k = l.length := by omega
            subst this
            rw [List.take_length] at hz
            have hcc : gCc [.r [.r (g.l.map eT), .r (l.map eT)]] = some [.r ((g.l ++ l).map eT)] := by
              simp only [gCc, List.length_map]
              rw [if_pos (by omega), List.map_append]
            have hss : gSL struT [.s g.s, .r ((g.l ++ l).map eT)] = some [eT (cloneT (.mk 3 0 g.s (g.l ++ l)))] := by
              simp only [gSL, str_s, rs_r, map_dT, struT]
              rw [if_neg (by rw [List.length_append]; omega)]
            have e0 : addT g l = if 2000 < szT g + szTs l then (zT, zT, 2) else (.mk 3 0 g.s (g.l ++ l), zT, 0) := by
              simp only [addT, hv, ha, Bool.and_self, if_true, if_neg h0, if_neg hk, hc, if_neg h8]
            rw [e0]
            by_cases h2 : 2000 < szT g + szTs l
            · have h2i : (2000 : Int) < z := by omega
              simp only [go_need, go_br, go_leaf, go_back, allSay, X.says, X.ev, X.evs, evl, tblS, List.getD_cons_zero, List.getD_cons_succ, List.getElem?_cons_zero, List.getElem?_cons_succ, tt_b, int_i, str_s, rs_r, Option.isSome_some, Option.getD_some, decide_eq_true_eq, decide_eq_false_iff_not, List.length_map, i_inj, b_inj, s_inj, rng64, List.take_succ_cons, List.take_zero, List.nil_append, List.cons_append, decide_true, decide_false, Bool.or_true, true_and, and_true, dT_eT, eT_0, eT_1, eT_2, eT_3, eT_eq, eT_z, h2i, if_pos h2]
              simp
            · have h2i : ¬ (2000 : Int) < z := by omega
              simp only [go_need, go_br, go_leaf, go_back, allSay, X.says, X.ev, X.evs, evl, tblS, List.getD_cons_zero, List.getD_cons_succ, List.getElem?_cons_zero, List.getElem?_cons_succ, tt_b, int_i, str_s, rs_r, Option.isSome_some, Option.getD_some, decide_eq_true_eq, decide_eq_false_iff_not, List.length_map, i_inj, b_inj, s_inj, rng64, List.take_succ_cons, List.take_zero, List.nil_append, List.cons_append, decide_true, decide_false, Bool.or_true, true_and, and_true, dT_eT, eT_0, eT_1, eT_2, eT_3, eT_eq, eT_z, h2i, if_neg h2, hcc, hss, cloneT_of (add_valid hv hc ha h0 h8 h2)]
              simp
theorem ok_ref16_Add : FOk ct_ref16_Add gAdd := fok_ref16_Add ok_ref03_Valid ok_ref03_Clone ok_ref06_Inst ok_ref06_Type ok_ref16_small fun ds outs hw hg => by
  obtain ⟨d, r, rfl, hd, e, r', rfl, he, rfl⟩ := hw
  obtain ⟨g, rfl, ht⟩ := wfT hd
  obtain ⟨l, rfl, hl, -⟩ := wfTs he
  simp only [gAdd, rs_r, map_dT, dT_eT, Option.some.injEq] at hg
  subst hg
  simp only [tree_ref16_Add, go_need, go_br, go_leaf, go_back, allSay, X.says, X.ev, X.evs, evl, tblS, List.getD_cons_zero, List.getD_cons_succ, List.getElem?_cons_zero, List.getElem?_cons_succ, tt_b, int_i, str_s, rs_r, Option.isSome_some, Option.getD_some, decide_eq_true_eq, decide_eq_false_iff_not, List.length_map, i_inj, b_inj, s_inj, rng64, List.take_succ_cons, List.take_zero, List.nil_append, List.cons_append, decide_true, decide_false, Bool.or_true, true_and, and_true, dT_eT, eT_0, eT_1, eT_2, eT_3, eT_eq, eT_z, gTb]
  refine ⟨fun q => ?_, fun q => ?_⟩
  · have hv : validT g = false := by simpa using q
    simp [addT, hv]
  have hv : validT g = true := by simpa using q
  rw [go_loop]
  refine ⟨fun st => ∃ k : Nat, k ≤ l.length ∧ st = [.i 0, .i k, eT zT, eT zT] ∧ ∀ j, j < k → validT (l.getD j default) = true, fun st => l.length - (st.getD 1 .u).int.toNat, ⟨0, Nat.zero_le _, rfl, fun j hj => absurd hj (Nat.not_lt_zero _)⟩, ?_⟩
  rintro st - ⟨k, hk, rfl, hP⟩
  rw [go_br]
  refine ⟨fun hlt => ?_, fun hlt => ?_⟩
  · simp only [go_need, go_br, go_leaf, go_back, allSay, X.says, X.ev, X.evs, evl, tblS, List.getD_cons_zero, List.getD_cons_succ, List.getElem?_cons_zero, List.getElem?_cons_succ, tt_b, int_i, str_s, rs_r, Option.isSome_some, Option.getD_some, decide_eq_true_eq, decide_eq_false_iff_not, List.length_map, i_inj, b_inj, s_inj, rng64, List.take_succ_cons, List.take_zero, List.nil_append, List.cons_append, decide_true, decide_false, Bool.or_true, true_and, and_true, dT_eT, eT_0, eT_1, eT_2, eT_3, eT_eq, eT_z] at hlt
    have hkl : k < l.length := by omega
    simp only [go_need, go_br, go_leaf, go_back, allSay, X.says, X.ev, X.evs, evl, tblS, List.getD_cons_zero, List.getD_cons_succ, List.getElem?_cons_zero, List.getElem?_cons_succ, tt_b, int_i, str_s, rs_r, Option.isSome_some, Option.getD_some, decide_eq_true_eq, decide_eq_false_iff_not, List.length_map, i_inj, b_inj, s_inj, rng64, List.take_succ_cons, List.take_zero, List.nil_append, List.cons_append, decide_true, decide_false, Bool.or_true, true_and, and_true, dT_eT, eT_0, eT_1, eT_2, eT_3, eT_eq, eT_z, get_t hkl, gTb]
    refine ⟨⟨by omega, by omega⟩, fun hx => ?_, fun hx => ⟨⟨by omega, by omega⟩, ?_⟩⟩
    · have hx : validT (l.getD k default) = false := by simpa using hx
      have ha : l.all validT = false := by
        rw [Bool.eq_false_iff]
        intro q
        rw [List.all_eq_true.1 q _ (getD_mem hkl)] at hx
        cases hx
      simp [addT, ha]
    · rw [updB, if_pos rfl]
      refine ⟨⟨k + 1, by omega, by simp, upto_succ hP (by simpa using hx)⟩, ?_⟩
      simp [D.int]
      omega
  simp only [go_need, go_br, go_leaf, go_back, allSay, X.says, X.ev, X.evs, evl, tblS, List.getD_cons_zero, List.getD_cons_succ, List.getElem?_cons_zero, List.getElem?_cons_succ, tt_b, int_i, str_s, rs_r, Option.isSome_some, Option.getD_some, decide_eq_true_eq, decide_eq_false_iff_not, List.length_map, i_inj, b_inj, s_inj, rng64, List.take_succ_cons, List.take_zero, List.nil_append, List.cons_append, decide_true, decide_false, Bool.or_true, true_and, and_true, dT_eT, eT_0, eT_1, eT_2, eT_3, eT_eq, eT_z] at hlt
  have : k = l.length := by omega
  subst this
  have ha : l.all validT = true := List.all_eq_true.2 fun t ht => by
    obtain ⟨j, hj, rfl⟩ := List.getElem_of_mem ht
    have := hP j hj
    rwa [List.getD_eq_getElem?_getD, List.getElem?_eq_getElem hj] at this
  by_cases h0 : l.length = 0
  · have h0' : l = [] := List.length_eq_zero_iff.1 h0
    subst h0'
    simp [go_need, go_br, go_leaf, go_back, allSay, X.says, X.ev, X.evs, evl, tblS, List.getD_cons_zero, List.getD_cons_succ, List.getElem?_cons_zero, List.getElem?_cons_succ, tt_b, int_i, str_s, rs_r, Option.isSome_some, Option.getD_some, decide_eq_true_eq, decide_eq_false_iff_not, List.length_map, i_inj, b_inj, s_inj, rng64, List.take_succ_cons, List.take_zero, List.nil_append, List.cons_append, decide_true, decide_false, Bool.or_true, true_and, and_true, dT_eT, eT_0, eT_1, eT_2, eT_3, eT_eq, eT_z, addT, hv, gTT, cloneT_of hv]
  have h0l : ¬ l = [] := fun q => h0 (by rw [q]; rfl)
  by_cases hk0 : g.k = 0
  · simp [go_need, go_br, go_leaf, go_back, allSay, X.says, X.ev, X.evs, evl, tblS, List.getD_cons_zero, List.getD_cons_succ, List.getElem?_cons_zero, List.getElem?_cons_succ, tt_b, int_i, str_s, rs_r, Option.isSome_some, Option.getD_some, decide_eq_true_eq, decide_eq_false_iff_not, List.length_map, i_inj, b_inj, s_inj, rng64, List.take_succ_cons, List.take_zero, List.nil_append, List.cons_append, decide_true, decide_false, Bool.or_true, true_and, and_true, dT_eT, eT_0, eT_1, eT_2, eT_3, eT_eq, eT_z, addT, hv, ha, h0l, hk0, inst_eq]
  have hci := call_int hv hk0
  by_cases hk1 : g.k = 1
  · have hc : callT g = false := by rw [hci]; simp [hk1]
    simp [go_need, go_br, go_leaf, go_back, allSay, X.says, X.ev, X.evs, evl, tblS, List.getD_cons_zero, List.getD_cons_succ, List.getElem?_cons_zero, List.getElem?_cons_succ, tt_b, int_i, str_s, rs_r, Option.isSome_some, Option.getD_some, decide_eq_true_eq, decide_eq_false_iff_not, List.length_map, i_inj, b_inj, s_inj, rng64, List.take_succ_cons, List.take_zero, List.nil_append, List.cons_append, decide_true, decide_false, Bool.or_true, true_and, and_true, dT_eT, eT_0, eT_1, eT_2, eT_3, eT_eq, eT_z, addT, hv, ha, h0l, hk0, hk1, hc, gTy, (type_eq hv).2.1]
  have hc : callT g = true := by rw [hci]; simp [hk1]
  have hgl : g.l.length ≤ 8 := by
    have h := ((nodes_iff g).1 (validT_iff.1 hv).2).1
    have hk := valid_kind hv
    unfold nodeT at h
    rw [if_neg hk0, if_neg hk1] at h
    split at h
    · simp only [Bool.and_eq_true, decide_eq_true_eq] at h; omega
    · rw [if_pos (by omega)] at h
      simp only [Bool.and_eq_true, decide_eq_true_eq] at h; omega
  have hr8 : -9223372036854775808 ≤ (8 : Int) - (g.l.length : Nat) ∧ (8 : Int) - (g.l.length : Nat) ≤ 9223372036854775807 := by omega
  by_cases h8 : 8 < g.l.length + l.length
  · have h8i : (8 : Int) - (g.l.length : Nat) < (l.length : Nat) := by omega
    simp [go_need, go_br, go_leaf, go_back, allSay, X.says, X.ev, X.evs, evl, tblS, List.getD_cons_zero, List.getD_cons_succ, List.getElem?_cons_zero, List.getElem?_cons_succ, tt_b, int_i, str_s, rs_r, Option.isSome_some, Option.getD_some, decide_eq_true_eq, decide_eq_false_iff_not, List.length_map, i_inj, b_inj, s_inj, rng64, List.take_succ_cons, List.take_zero, List.nil_append, List.cons_append, decide_true, decide_false, Bool.or_true, true_and, and_true, dT_eT, eT_0, eT_1, eT_2, eT_3, eT_eq, eT_z, addT, hv, ha, h0l, hk0, hk1, hc, h8, h8i]
    omega
  · have h8i : ¬ (8 : Int) - (g.l.length : Nat) < (l.length : Nat) := by omega
    have e1 : D.a (((eT zT).fs.set 0 (.i 3)).set 2 (.s g.s)) = eT (.mk 3 0 g.s []) := rfl
    have e2 : (eT (.mk 3 0 g.s [])).fld 3 = .r ([].map eT) := eT_3 _
    have e3 : ∀ m : List Te, (eT (.mk 3 0 g.s m)).fld 3 = .r (m.map eT) := fun m => eT_3 _
    have e0 : addT g l = if 2000 < szT g + szTs l then (zT, zT, 2) else (.mk 3 0 g.s (g.l ++ l), zT, 0) := by
      simp only [addT, hv, ha, Bool.and_self, if_true, if_neg h0, if_neg hk0, hc, if_neg h8]
    have hs := szT_l g
    have hz : szT (.mk 3 0 g.s (g.l ++ l)) = szT g + szTs l := by rw [szT, szTs_app]; omega
    have h0i : ¬ (l.length : Int) = 0 := by omega
    have a1 : [].map eT ++ g.l.map eT = g.l.map eT := rfl
    have a2 : g.l.map eT ++ l.map eT = (g.l ++ l).map eT := List.map_append.symm
    have es : ∀ (m m' : List Te), D.a ((eT (.mk 3 0 g.s m)).fs.set 3 (.r (m'.map eT))) = eT (.mk 3 0 g.s m') := fun m m' => eT_s3 _ _ _ _ _
    simp only [go_need, go_br, go_leaf, go_back, allSay, X.says, X.ev, X.evs, evl, tblS, List.getD_cons_zero, List.getD_cons_succ, List.getElem?_cons_zero, List.getElem?_cons_succ, tt_b, int_i, str_s, rs_r, Option.isSome_some, Option.getD_some, decide_eq_true_eq, decide_eq_false_iff_not, List.length_map, i_inj, b_inj, s_inj, rng64, List.take_succ_cons, List.take_zero, List.nil_append, List.cons_append, decide_true, decide_false, Bool.or_true, true_and, and_true, dT_eT, eT_0, eT_1, eT_2, eT_3, eT_eq, eT_z, h0i, hk0, hk1, h8i, fs_a, e1, e3, rs_r, a1, es, a2, gTb, List.map_nil, List.length_nil, hz, e0]
    refine ⟨fun q => (by cases q), fun _ => ⟨fun q => (by cases q), fun _ => ⟨fun q => (by cases q), fun _ => ?_⟩⟩⟩
    have hrr : (-9223372036854775808 ≤ (8 : Int) - (g.l.length : Nat) ∧ (8 : Int) - (g.l.length : Nat) ≤ 9223372036854775807) := hr8
    by_cases h2 : 2000 < szT g + szTs l
    · have hm : decide (min ((szT g + szTs l : Nat) : Int) 2001 ≤ 2000) = false := decide_eq_false (by omega)
      simp only [hm, h2, if_true]
      exact ⟨⟨by omega, by omega⟩, fun q => (by cases q), fun _ => ⟨by omega, by omega, fun _ => (by first | trivial | rfl), fun q => (by cases q)⟩⟩
    · have hm : decide (min ((szT g + szTs l : Nat) : Int) 2001 ≤ 2000) = true := decide_eq_true (by omega)
      have hcl := cloneT_of (add_valid hv hc ha h0 h8 h2)
      simp only [hm, h2, gTT, hcl, dT_eT, if_false]
      exact ⟨⟨by omega, by omega⟩, fun q => (by cases q), fun _ => ⟨by omega, by omega, fun q => (by cases q), fun _ => ⟨rfl, rfl⟩⟩⟩
end Go.Proofs.Ytflahdpkkgmpeaa

namespace Go.Proofs.Ytflahdpkkgmpeaa
open Go.RowKit
set_option linter.unusedVariables false
set_option maxRecDepth 100000

def ann_law16_awake : Ann := ⟨[0, 1, 2, 4, 7, 8, 10, 13, 14, 16, 19], []⟩
end Go.Proofs.Ytflahdpkkgmpeaa

namespace Go.Proofs.Ytflahdpkkgmpeaa
open Go.RowKit
set_option linter.unusedVariables false
set_option linter.unusedSimpArgs false
set_option maxRecDepth 100000

theorem ok_law16_same : FOk ct_law16_same (gTTb sameT) := fok_law16_same ok_ref03_Same fun ds outs hw hg => by
  obtain ⟨d, r, rfl, hd, e, r', rfl, he, rfl⟩ := hw
  obtain ⟨t, rfl, ht⟩ := wfT hd
  obtain ⟨u, rfl, hu⟩ := wfT he
  simp only [gTTb, dT_eT, Option.some.injEq] at hg
  subst hg
  simp only [tree_law16_same, go_need, go_br, go_leaf, go_back, allSay, X.says, X.ev, X.evs, evl, tblS, List.getD_cons_zero, List.getD_cons_succ, List.getElem?_cons_zero, List.getElem?_cons_succ, tt_b, int_i, str_s, rs_r, Option.isSome_some, Option.getD_some, decide_eq_true_eq, decide_eq_false_iff_not, List.length_map, i_inj, b_inj, s_inj, rng64, List.take_succ_cons, List.take_zero, List.nil_append, List.cons_append, decide_true, decide_false, Bool.or_true, true_and, and_true, dT_eT, eT_0, eT_1, eT_2, eT_3, eT_eq, eT_z, gTTb]
def gIt (f : Int → Te) : List D → Option (List D)
  | [n] => some [eT (f n.int)]
  | _ => none
theorem ok_law16_x : FOk ct_law16_x (gIt fun n => .mk 0 n ⟨#[]⟩ []) := fok_law16_x fun ds outs hw hg => by
  obtain ⟨d, r, rfl, hd, rfl⟩ := hw
  obtain ⟨n, rfl, hn⟩ := wfI hd
  simp only [gIt, int_i, Option.some.injEq] at hg
  subst hg
  simp only [tree_law16_x, go_need, go_br, go_leaf, go_back, allSay, X.says, X.ev, X.evs, evl, tblS, List.getD_cons_zero, List.getD_cons_succ, List.getElem?_cons_zero, List.getElem?_cons_succ, tt_b, int_i, str_s, rs_r, Option.isSome_some, Option.getD_some, decide_eq_true_eq, decide_eq_false_iff_not, List.length_map, i_inj, b_inj, s_inj, rng64, List.take_succ_cons, List.take_zero, List.nil_append, List.cons_append, decide_true, decide_false, Bool.or_true, true_and, and_true, dT_eT, eT_0, eT_1, eT_2, eT_3, eT_eq, eT_z]
  rfl
theorem ok_law16_n : FOk ct_law16_n (gIt fun n => .mk 1 n ⟨#[]⟩ []) := fok_law16_n fun ds outs hw hg => by
  obtain ⟨d, r, rfl, hd, rfl⟩ := hw
  obtain ⟨n, rfl, hn⟩ := wfI hd
  simp only [gIt, int_i, Option.some.injEq] at hg
  subst hg
  simp only [tree_law16_n, go_need, go_br, go_leaf, go_back, allSay, X.says, X.ev, X.evs, evl, tblS, List.getD_cons_zero, List.getD_cons_succ, List.getElem?_cons_zero, List.getElem?_cons_succ, tt_b, int_i, str_s, rs_r, Option.isSome_some, Option.getD_some, decide_eq_true_eq, decide_eq_false_iff_not, List.length_map, i_inj, b_inj, s_inj, rng64, List.take_succ_cons, List.take_zero, List.nil_append, List.cons_append, decide_true, decide_false, Bool.or_true, true_and, and_true, dT_eT, eT_0, eT_1, eT_2, eT_3, eT_eq, eT_z]
  rfl
theorem ok_law16_a : FOk ct_law16_a (gAt atomR) := fok_law16_a fun ds outs hw hg => by
  obtain ⟨d, r, rfl, hd, rfl⟩ := hw
  obtain ⟨s, rfl, hs⟩ := hd.str
  simp only [gAt, str_s, Option.some.injEq] at hg
  subst hg
  simp only [tree_law16_a, go_need, go_br, go_leaf, go_back, allSay, X.says, X.ev, X.evs, evl, tblS, List.getD_cons_zero, List.getD_cons_succ, List.getElem?_cons_zero, List.getElem?_cons_succ, tt_b, int_i, str_s, rs_r, Option.isSome_some, Option.getD_some, decide_eq_true_eq, decide_eq_false_iff_not, List.length_map, i_inj, b_inj, s_inj, rng64, List.take_succ_cons, List.take_zero, List.nil_append, List.cons_append, decide_true, decide_false, Bool.or_true, true_and, and_true, dT_eT, eT_0, eT_1, eT_2, eT_3, eT_eq, eT_z]
  rfl
theorem ok_law16_f : FOk ct_law16_f (gSL fun s l => .mk 3 0 s l) := fok_law16_f fun ds outs hw hg => by
  obtain ⟨d, r, rfl, hd, e, r', rfl, he, rfl⟩ := hw
  obtain ⟨s, rfl, hs⟩ := hd.str
  obtain ⟨l, rfl, hl, -⟩ := wfTs he
  simp only [gSL, str_s, rs_r, map_dT, Option.some.injEq] at hg
  subst hg
  simp only [tree_law16_f, go_need, go_br, go_leaf, go_back, allSay, X.says, X.ev, X.evs, evl, tblS, List.getD_cons_zero, List.getD_cons_succ, List.getElem?_cons_zero, List.getElem?_cons_succ, tt_b, int_i, str_s, rs_r, Option.isSome_some, Option.getD_some, decide_eq_true_eq, decide_eq_false_iff_not, List.length_map, i_inj, b_inj, s_inj, rng64, List.take_succ_cons, List.take_zero, List.nil_append, List.cons_append, decide_true, decide_false, Bool.or_true, true_and, and_true, dT_eT, eT_0, eT_1, eT_2, eT_3, eT_eq, eT_z, eT_mk]
  rfl
def ct_flag : Ct := ⟨43, [], [(.st 4242424242, true)], [], none⟩
theorem ok_flag : FOk ct_flag fun _ => none := ⟨enter_law16_x, fun A p w vs us ds outs h => by cases h⟩
theorem ok_law16_awake : FOk ct_law16_awake fun _ => some [.b true] :=
  fok_of (tbl := [(ct_flag, fun _ => none), (ct_law16_x, gIt fun n => .mk 0 n ⟨#[]⟩ []), (ct_law16_a, gAt atomR), (ct_law16_f, gSL fun s l => .mk 3 0 s l), (ct_law16_n, gIt fun n => .mk 1 n ⟨#[]⟩ []), (ct_body_Goal, gTTB goalT), (ct_body_Check, gTTTB checkT), (ct_body_Clause, gCla), (ct_body_Add, gAdd), (ct_law16_same, gTTb sameT), (ct_body_Cuts, gTb cutsV), (ct_body_Control, gCtl)])
    ann_law16_awake Try.f15 _ (.cons ok_flag (.cons ok_law16_x (.cons ok_law16_a (.cons ok_law16_f (.cons ok_law16_n (.cons ok_body_Goal (.cons ok_body_Check (.cons ok_body_Clause (.cons ok_body_Add (.cons ok_law16_same (.cons ok_body_Cuts (.cons ok_body_Control .nil)))))))))))) rfl rfl enter_law16_awake (by decide) fun ds outs hw hg => by
  obtain rfl : ds = [] := hw
  injection hg with hg
  subst hg
  exact go_denF (fuel := 12) (by kernel_rfl)
end Go.Proofs.Ytflahdpkkgmpeaa

namespace Go.Proofs.Ytflahdpkkgmpeaa
open Go.RowKit
set_option linter.unusedVariables false
set_option linter.unusedSimpArgs false

theorem zT_valid : validT zT = true := by kernel_rfl
theorem clone_valid (t : Te) : validT (cloneT t) = true := by
  unfold cloneT
  split
  · assumption
  · exact zT_valid
theorem same_self {t : Te} (h : validT t = true) : sameT t t = true := by rw [sameT_id h]; simp
mutual
theorem build_nodes : ∀ (t : Te) {u : Te}, nodesT t = true → buildT t = some u → nodesT u = true
  | .mk k n s l, u, hn, hb => by
    rw [buildT] at hb
    split at hb
    · injection hb with hb
      subst hb
      exact nodes_str (by decide) (by simp) (by simp) fun t ht => by rw [List.mem_singleton.1 ht]; exact hn
    split at hb
    · rename_i hbr
      split at hb
      · rename_i m hm
        injection hb with hb
        subst hb
        rw [nodesT, Bool.and_eq_true] at hn
        have hl := (branch_len hbr).1
        have hk := (branch_len hbr).2
        have hl : l.length = 2 := hl
        have hk : k = 3 := hk
        obtain ⟨h1, h2⟩ := builds_nodes l hn.2 hm
        have hs : s.size ≤ 100 := by
          have := hn.1
          rw [nodeT_mk, hk, if_neg (by decide), if_neg (by decide), if_neg (by decide), if_pos rfl] at this
          simp only [Bool.and_eq_true, decide_eq_true_eq] at this
          omega
        exact nodes_str hs (by omega) (by omega) (nodesTs_iff.1 h2)
      · cases hb
    split at hb
    · injection hb with hb
      subst hb
      exact hn
    · cases hb
theorem builds_nodes : ∀ (l : List Te) {m : List Te}, nodesTs l = true → buildTs l = some m → m.length = l.length ∧ nodesTs m = true
  | [], m, _, hb => by
    rw [buildTs] at hb
    injection hb with hb
    subst hb
    exact ⟨rfl, rfl⟩
  | t :: l, m, hn, hb => by
    rw [buildTs] at hb
    rw [nodesTs, Bool.and_eq_true] at hn
    split at hb
    · rename_i x y hx hy
      injection hb with hb
      subst hb
      obtain ⟨h1, h2⟩ := builds_nodes l hn.2 hy
      exact ⟨by simp [h1], by rw [nodesTs, build_nodes t hn.1 hx, h2]; rfl⟩
    · cases hb
end
mutual
theorem build_idem : ∀ (t : Te) {u : Te}, buildT t = some u → buildT u = some u
  | .mk k n s l, u, hb => by
    have hb0 := hb
    rw [buildT] at hb
    split at hb
    · injection hb with hb
      subst hb
      rfl
    rename_i h0
    split at hb
    · rename_i hbr
      split at hb
      · rename_i m hm
        injection hb with hb
        subst hb
        have hl : l.length = 2 := (branch_len hbr).1
        obtain ⟨h1, h2⟩ := builds_idem l hm
        have hbr2 : branchT (.mk 3 0 s m) = true := by
          have hbr0 : ((decide (k = 3) && decide ((l.length : Int) = 2)) && ((decide (s = sComma) || decide (s = sSemi)) || decide (s = sArrow))) = true := hbr
          show ((decide ((3 : Int) = 3) && decide ((m.length : Int) = 2)) && ((decide (s = sComma) || decide (s = sSemi)) || decide (s = sArrow))) = true
          rw [Bool.and_eq_true] at hbr0
          rw [hbr0.2, decide_eq_true (show (m.length : Int) = 2 by omega)]
          rfl
        rw [buildT, if_neg (by decide), if_pos hbr2, h2]
      · cases hb
    split at hb
    · injection hb with hb
      subst hb
      exact hb0
    · cases hb
theorem builds_idem : ∀ (l : List Te) {m : List Te}, buildTs l = some m → m.length = l.length ∧ buildTs m = some m
  | [], m, hb => by
    rw [buildTs] at hb
    injection hb with hb
    subst hb
    exact ⟨rfl, rfl⟩
  | t :: l, m, hb => by
    rw [buildTs] at hb
    split at hb
    · rename_i x y hx hy
      injection hb with hb
      subst hb
      obtain ⟨h1, h2⟩ := builds_idem l hy
      exact ⟨by simp [h1], by rw [buildTs, build_idem t hx, h2]⟩
    · cases hb
end
theorem branch_map (f : Int → Int) (k n : Int) (s : ByteArray) (l : List Te) (n' : Int) : branchT (.mk k n' s (mapVs f l)) = branchT (.mk k n s l) := by
  have e : (mapVs f l).length = l.length := by rw [mapVs_map, List.length_map]
  show ((decide (k = 3) && decide (((mapVs f l).length : Int) = 2)) && _) = ((decide (k = 3) && decide ((l.length : Int) = 2)) && _)
  rw [e]
  rfl
mutual
theorem build_map (f : Int → Int) : ∀ (t : Te), buildT (mapV f t) = (buildT t).map (mapV f)
  | .mk k n s l => by
    rw [mapV, buildT, buildT, branch_map f k n]
    by_cases h0 : k = 0
    · rw [if_pos h0, if_pos h0]
      simp [mapV, mapVs, h0]
    rw [if_neg h0, if_neg h0, if_neg h0]
    by_cases hb : branchT (.mk k n s l) = true
    · rw [if_pos hb, if_pos hb, builds_map f l]
      cases buildTs l with
      | none => rfl
      | some m => simp [mapV]
    rw [if_neg hb, if_neg hb]
    by_cases hc : callT (.mk k n s l) = true
    · have hc' : callT (.mk k n s (mapVs f l)) = true := hc
      rw [if_pos hc, if_pos hc']
      simp [mapV, h0]
    · have hc' : ¬ callT (.mk k n s (mapVs f l)) = true := hc
      rw [if_neg hc, if_neg hc']
      rfl
theorem builds_map (f : Int → Int) : ∀ (l : List Te), buildTs (mapVs f l) = (buildTs l).map (mapVs f)
  | [] => rfl
  | t :: l => by
    rw [mapVs, buildTs, buildTs, build_map f t, builds_map f l]
    cases buildT t with
    | none => rfl
    | some x =>
      cases buildTs l with
      | none => rfl
      | some m => simp [mapVs]
end
theorem goal_valid (t : Te) : validT (goalT t).1 = true := by
  unfold goalT
  split
  · rename_i hv
    split
    · rename_i u hu
      split
      · exact zT_valid
      · rename_i hz
        exact validT_iff.2 ⟨(show szT u ≤ 2000 by omega), build_nodes t (validT_iff.1 hv).2 hu⟩
    · exact zT_valid
  · exact zT_valid
theorem check_valid (t : Te) : validT (checkT t).1 = true ∧ validT (checkT t).2.1 = true := by
  unfold checkT
  split
  · rename_i hv
    split
    · exact ⟨zT_valid, inst_valid⟩
    split
    · rename_i u hu
      split
      · exact ⟨zT_valid, zT_valid⟩
      · rename_i hz
        exact ⟨validT_iff.2 ⟨(show szT u ≤ 2000 by omega), build_nodes t (validT_iff.1 hv).2 hu⟩, zT_valid⟩
    · exact ⟨zT_valid, (type_eq hv).2.2⟩
  · exact ⟨zT_valid, zT_valid⟩
theorem ok_law16_BodyGoals : FOk ct_law16_BodyGoals fun _ => some [.b true] := fok_law16_BodyGoals ok_body_Goal ok_ref16_Goal ok_law16_same ok_body_Check ok_ref16_Check ok_law16_awake fun ds outs hw hg => by
  obtain ⟨d, r, rfl, hd, rfl⟩ := hw
  obtain ⟨t, rfl, ht⟩ := wfT hd
  injection hg with hg
  subst hg
  have h1 := same_self (goal_valid t)
  have h2 := same_self (check_valid t).1
  have h3 := same_self (check_valid t).2
  simp [tree_law16_BodyGoals, go_need, go_br, go_leaf, go_back, allSay, X.says, X.ev, X.evs, evl, tblS, List.getD_cons_zero, List.getD_cons_succ, List.getElem?_cons_zero, List.getElem?_cons_succ, tt_b, int_i, str_s, rs_r, Option.isSome_some, Option.getD_some, decide_eq_true_eq, decide_eq_false_iff_not, List.length_map, i_inj, b_inj, s_inj, rng64, List.take_succ_cons, List.take_zero, List.nil_append, List.cons_append, decide_true, decide_false, Bool.or_true, true_and, and_true, dT_eT, eT_0, eT_1, eT_2, eT_3, eT_eq, eT_z, gTTB, gTTTB, gTTb, h1, h2, h3]
theorem ok_law16_BodyCuts : FOk ct_law16_BodyCuts fun _ => some [.b true] := fok_law16_BodyCuts ok_body_Cuts ok_ref16_Cuts ok_body_Control ok_ref16_Control ok_law16_awake fun ds outs hw hg => by
  obtain ⟨d, r, rfl, hd, e, r', rfl, he, e2, r2, rfl, he2, rfl⟩ := hw
  obtain ⟨t, rfl, ht⟩ := wfT hd
  obtain ⟨s, rfl, hs⟩ := he.str
  obtain ⟨n, rfl, hn⟩ := wfI he2
  injection hg with hg
  subst hg
  simp [tree_law16_BodyCuts, go_need, go_br, go_leaf, go_back, allSay, X.says, X.ev, X.evs, evl, tblS, List.getD_cons_zero, List.getD_cons_succ, List.getElem?_cons_zero, List.getElem?_cons_succ, tt_b, int_i, str_s, rs_r, Option.isSome_some, Option.getD_some, decide_eq_true_eq, decide_eq_false_iff_not, List.length_map, i_inj, b_inj, s_inj, rng64, List.take_succ_cons, List.take_zero, List.nil_append, List.cons_append, decide_true, decide_false, Bool.or_true, true_and, and_true, dT_eT, eT_0, eT_1, eT_2, eT_3, eT_eq, eT_z, gTb, gCtl]
/-- What a clause comes from. -/
theorem clauseC_0 {head rest : Te} (h : (clauseC head rest).2.2 = 0) : ∃ g, buildT rest = some g ∧ head.k ≠ 0 ∧ callT head = true ∧ szT head + szT g ≤ 2000 ∧ (varsK (head, g)).length ≤ 64 ∧ clauseC head rest = (canK (head, g), zT, 0) := by
  unfold clauseC at h ⊢
  split at h
  · cases h
  rename_i h0
  split at h
  · rename_i hc
    split at h
    · rename_i g hg
      split at h
      · rename_i hz
        split at h
        · rename_i hv
          refine ⟨g, hg, h0, hc, hz, hv, ?_⟩
          simp only [if_neg h0, if_pos hc, hg, if_pos hz, if_pos hv]
        · cases h
      · cases h
    · cases h
  · cases h
theorem clauseC_of {head rest g : Te} (h0 : head.k ≠ 0) (hc : callT head = true) (hg : buildT rest = some g) (hz : szT head + szT g ≤ 2000) (hv : (varsK (head, g)).length ≤ 64) : clauseC head rest = (canK (head, g), zT, 0) := by
  simp only [clauseC, if_neg h0, if_pos hc, hg, if_pos hz, if_pos hv]
theorem canK_in (c : Cla) : inV (varsK c) c.1 ∧ inV (varsK c) c.2 := by
  have := varsTs_in [c.1, c.2] []
  exact ⟨this.1, this.2.1⟩
theorem posL_rng {V : List Int} (h : V.length ≤ 64) : ∀ x ∈ V, 0 ≤ posL V x ∧ posL V x ≤ 1099511627776 := fun x hx => by
  have := posL_mem hx
  omega
theorem canK_nodes {c : Cla} (h : (varsK c).length ≤ 64) (h1 : nodesT c.1 = true) (h2 : nodesT c.2 = true) : nodesT (canK c).1 = true ∧ nodesT (canK c).2 = true :=
  ⟨nodesT_map (posL_rng h) _ (canK_in c).1 h1, nodesT_map (posL_rng h) _ (canK_in c).2 h2⟩
theorem canK_can (c : Cla) : canK (canK c) = canK c := by
  have hV := vars_can c
  have hr := posL_range _ (varsK_nodup c)
  have hi := canK_in c
  have key : ∀ t, inV (varsK c) t → numT (varsK (canK c)) (numT (varsK c) t) = numT (varsK c) t := fun t ht => by
    rw [hV]
    have h2 := inV_map (f := posL (varsK c)) t ht
    rw [hr] at h2
    exact mapV_id (fun x hx => rangeI_pos hx) _ h2
  exact Prod.ext (key _ hi.1) (key _ hi.2)
theorem mapV_k (f : Int → Int) (t : Te) : (mapV f t).k = t.k := by cases t; rw [mapV]; rfl
theorem call_map (f : Int → Int) (t : Te) : callT (mapV f t) = callT t := by simp only [callT, mapV_k]
theorem clause_valid {t : Te} (h : (clauseT t).2.2 = 0) : validK (clauseT t).1 = true ∧ (clauseT t).2.1 = zT := by
  cases hv : validT t with
  | false => rw [clauseT, hv] at h; cases h
  | true =>
  unfold clauseT at h ⊢
  rw [if_pos hv] at h ⊢
  have key : ∀ head rest, nodesT head = true → nodesT rest = true → (clauseC head rest).2.2 = 0 → validK (clauseC head rest).1 = true ∧ (clauseC head rest).2.1 = zT := fun head rest hh hr h => by
    obtain ⟨g, hg, h0, hc, hz, h64, e⟩ := clauseC_0 h
    rw [e]
    refine ⟨?_, rfl⟩
    have s1 : szT (canK (head, g)).1 = szT head := szT_mapV _
    have s2 : szT (canK (head, g)).2 = szT g := szT_mapV _
    obtain ⟨n1, n2⟩ := canK_nodes (c := (head, g)) h64 hh (build_nodes rest hr hg)
    have v1 : validT (canK (head, g)).1 = true := validT_iff.2 ⟨by omega, n1⟩
    have v2 : validT (canK (head, g)).2 = true := validT_iff.2 ⟨by omega, n2⟩
    have c1 : callT (canK (head, g)).1 = true := by
      show callT (mapV _ head) = true
      rw [call_map]; exact hc
    have f1 : fitsK (canK (head, g)) = true := (fits_iff _).2 (by omega)
    have b1 : buildT (canK (head, g)).2 = some (canK (head, g)).2 := by
      show buildT (mapV _ g) = some (mapV _ g)
      rw [build_map, build_idem rest hg]
      rfl
    have l1 : (varsK (canK (head, g))).length ≤ 64 := by rw [vars_can, len_range]; exact h64
    simp only [validK, v1, v2, c1, f1, b1, l1, canK_can, decide_true, Bool.and_self]
  split at h
  · rename_i hr
    have hl := rule_len hr
    rw [if_pos hr]
    exact key _ _ (validT_iff.1 (valid_getD hv (by omega))).2 (validT_iff.1 (valid_getD hv (by omega))).2 h
  · rename_i hr
    rw [if_neg hr]
    exact key _ _ (validT_iff.1 hv).2 (validT_iff.1 true_valid).2 h
theorem clause_ball (t : Te) : validT (clauseT t).2.1 = true ∧ ((clauseT t).2.2 ≠ 0 → (clauseT t).1 = zK) := by
  have key : ∀ head rest, validT head = true → validT rest = true → validT (clauseC head rest).2.1 = true ∧ ((clauseC head rest).2.2 ≠ 0 → (clauseC head rest).1 = zK) := fun head rest h1 h2 => by
    unfold clauseC
    split
    · exact ⟨inst_valid, fun _ => rfl⟩
    split
    · split
      · split
        · split
          · exact ⟨zT_valid, fun q => absurd rfl q⟩
          · exact ⟨zT_valid, fun _ => rfl⟩
        · exact ⟨zT_valid, fun _ => rfl⟩
      · exact ⟨(type_eq h2).2.2, fun _ => rfl⟩
    · exact ⟨(type_eq h1).2.2, fun _ => rfl⟩
  unfold clauseT
  split
  · rename_i hv
    split
    · rename_i hr
      have hl := rule_len hr
      exact key _ _ (valid_getD hv (by omega)) (valid_getD hv (by omega))
    · exact key _ _ hv true_valid
  · exact ⟨zT_valid, fun _ => rfl⟩
theorem sameK_self {c : Cla} (h : validK c = true) : sameK c c = true := by
  obtain ⟨h1, h2⟩ := validK_1 h
  rw [sameK, same_self h1, same_self h2]
  rfl
theorem ok_law16_BodyClauses : FOk ct_law16_BodyClauses fun _ => some [.b true] := fok_law16_BodyClauses ok_body_Clause ok_ref16_Clause ok_law16_same ok_law16_awake ok_ref16_SameClause fun ds outs hw hg => by
  obtain ⟨d, r, rfl, hd, rfl⟩ := hw
  obtain ⟨t, rfl, ht⟩ := wfT hd
  injection hg with hg
  subst hg
  obtain ⟨h1, h2⟩ := clause_ball t
  have h1 := same_self h1
  by_cases h0 : (clauseT t).2.2 = 0
  · have h3 := sameK_self (clause_valid h0).1
    simp [tree_law16_BodyClauses, go_need, go_br, go_leaf, go_back, allSay, X.says, X.ev, X.evs, evl, tblS, List.getD_cons_zero, List.getD_cons_succ, List.getElem?_cons_zero, List.getElem?_cons_succ, tt_b, int_i, str_s, rs_r, Option.isSome_some, Option.getD_some, decide_eq_true_eq, decide_eq_false_iff_not, List.length_map, i_inj, b_inj, s_inj, rng64, List.take_succ_cons, List.take_zero, List.nil_append, List.cons_append, decide_true, decide_false, Bool.or_true, true_and, and_true, dT_eT, eT_0, eT_1, eT_2, eT_3, eT_eq, eT_z, gCla, gTTb, gKKb, dK_eK, h1, h0, h3]
  · have h2 := h2 h0
    have z := same_self zT_valid
    simp [tree_law16_BodyClauses, go_need, go_br, go_leaf, go_back, allSay, X.says, X.ev, X.evs, evl, tblS, List.getD_cons_zero, List.getD_cons_succ, List.getElem?_cons_zero, List.getElem?_cons_succ, tt_b, int_i, str_s, rs_r, Option.isSome_some, Option.getD_some, decide_eq_true_eq, decide_eq_false_iff_not, List.length_map, i_inj, b_inj, s_inj, rng64, List.take_succ_cons, List.take_zero, List.nil_append, List.cons_append, decide_true, decide_false, Bool.or_true, true_and, and_true, dT_eT, eT_0, eT_1, eT_2, eT_3, eT_eq, eT_z, gCla, gTTb, gKKb, dK_eK, h1, h0, h2, eK_0, eK_1, zK, z]
theorem add_ok (g : Te) (l : List Te) : validT (addT g l).1 = true ∧ validT (addT g l).2.1 = true := by
  unfold addT
  split
  · rename_i h
    simp only [Bool.and_eq_true] at h
    obtain ⟨hv, ha⟩ := h
    split
    · exact ⟨hv, zT_valid⟩
    rename_i h0
    split
    · exact ⟨zT_valid, inst_valid⟩
    split
    · rename_i hc
      split
      · exact ⟨zT_valid, zT_valid⟩
      rename_i h8
      split
      · exact ⟨zT_valid, zT_valid⟩
      rename_i hz
      exact ⟨add_valid hv hc ha h0 h8 hz, zT_valid⟩
    · exact ⟨zT_valid, (type_eq hv).2.2⟩
  · exact ⟨zT_valid, zT_valid⟩
theorem ok_law16_BodyAdds : FOk ct_law16_BodyAdds fun _ => some [.b true] := fok_law16_BodyAdds ok_body_Add ok_ref16_Add ok_law16_same ok_law16_awake fun ds outs hw hg => by
  obtain ⟨d, r, rfl, hd, e, r', rfl, he, rfl⟩ := hw
  obtain ⟨g, rfl, ht⟩ := wfT hd
  obtain ⟨l, rfl, hl, -⟩ := wfTs he
  injection hg with hg
  subst hg
  have h1 := same_self (add_ok g l).1
  have h2 := same_self (add_ok g l).2
  have hgo : gAdd [eT g, .r (l.map eT)] = some [eT (addT g l).1, eT (addT g l).2.1, .i (addT g l).2.2] := by simp only [gAdd, dT_eT, rs_r, map_dT]
  simp [tree_law16_BodyAdds, go_need, go_br, go_leaf, go_back, allSay, X.says, X.ev, X.evs, evl, tblS, List.getD_cons_zero, List.getD_cons_succ, List.getElem?_cons_zero, List.getElem?_cons_succ, tt_b, int_i, str_s, rs_r, Option.isSome_some, Option.getD_some, decide_eq_true_eq, decide_eq_false_iff_not, List.length_map, i_inj, b_inj, s_inj, rng64, List.take_succ_cons, List.take_zero, List.nil_append, List.cons_append, decide_true, decide_false, Bool.or_true, true_and, and_true, dT_eT, eT_0, eT_1, eT_2, eT_3, eT_eq, eT_z, hgo, gTTb, h1, h2]
theorem ok_law16_BodyConverted : FOk ct_law16_BodyConverted fun _ => some [.b true] := fok_law16_BodyConverted ok_body_Goal ok_body_Check ok_law16_awake ok_ref03_Same fun ds outs hw hg => by
  obtain ⟨d, r, rfl, hd, rfl⟩ := hw
  obtain ⟨t, rfl, ht⟩ := wfT hd
  injection hg with hg
  subst hg
  cases hgo : (goalT t).2 with
  | false =>
    have hch : (checkT t).2.2 = false := by
      cases hv : validT t with
      | false => rw [checkT, hv]; rfl
      | true =>
        rw [goalT, if_pos hv] at hgo
        rw [checkT, if_pos hv]
        by_cases h0 : t.k = 0
        · rw [if_pos h0]
        rw [if_neg h0]
        cases hu : buildT t with
        | none => rfl
        | some u =>
          rw [hu] at hgo
          simp only at hgo ⊢
          split at hgo
          · rename_i hz
            rw [if_pos hz]
          · cases hgo
    simp [tree_law16_BodyConverted, go_need, go_br, go_leaf, go_back, allSay, X.says, X.ev, X.evs, evl, tblS, List.getD_cons_zero, List.getD_cons_succ, List.getElem?_cons_zero, List.getElem?_cons_succ, tt_b, int_i, str_s, rs_r, Option.isSome_some, Option.getD_some, decide_eq_true_eq, decide_eq_false_iff_not, List.length_map, i_inj, b_inj, s_inj, rng64, List.take_succ_cons, List.take_zero, List.nil_append, List.cons_append, decide_true, decide_false, Bool.or_true, true_and, and_true, dT_eT, eT_0, eT_1, eT_2, eT_3, eT_eq, eT_z, gTTB, gTTTB, hgo, hch]
  | true =>
    obtain ⟨hv, u, hu, hz, e⟩ : validT t = true ∧ ∃ u, buildT t = some u ∧ szT u ≤ 2000 ∧ goalT t = (u, true) := by
      cases hv : validT t with
      | false => rw [goalT, hv] at hgo; cases hgo
      | true =>
        rw [goalT, if_pos hv] at hgo
        refine ⟨rfl, ?_⟩
        cases hu : buildT t with
        | none => rw [hu] at hgo; cases hgo
        | some u =>
          rw [hu] at hgo
          simp only at hgo
          split at hgo
          · cases hgo
          · rename_i hz
            refine ⟨u, rfl, by omega, ?_⟩
            rw [goalT, if_pos hv, hu]
            simp only [if_neg hz]
    have hvu : validT u = true := validT_iff.2 ⟨hz, build_nodes t (validT_iff.1 hv).2 hu⟩
    have e2 : goalT u = (u, true) := by
      unfold goalT
      rw [if_pos hvu, build_idem t hu]
      simp only [if_neg (show ¬ 2000 < szT u by omega)]
    have hs := same_self hvu
    by_cases h0 : t.k = 0
    · have ec : checkT t = (zT, instT, false) := by unfold checkT; rw [if_pos hv, if_pos h0]
      have hn : sameT instT zT = false := by
        rw [sameT_id zT_valid]
        exact decide_eq_false (by decide)
      simp [tree_law16_BodyConverted, go_need, go_br, go_leaf, go_back, allSay, X.says, X.ev, X.evs, evl, tblS, List.getD_cons_zero, List.getD_cons_succ, List.getElem?_cons_zero, List.getElem?_cons_succ, tt_b, int_i, str_s, rs_r, Option.isSome_some, Option.getD_some, decide_eq_true_eq, decide_eq_false_iff_not, List.length_map, i_inj, b_inj, s_inj, rng64, List.take_succ_cons, List.take_zero, List.nil_append, List.cons_append, decide_true, decide_false, Bool.or_true, true_and, and_true, dT_eT, eT_0, eT_1, eT_2, eT_3, eT_eq, eT_z, gTTB, gTTTB, gTTb, e, e2, hs, h0, ec, hn]
    · have ec : checkT t = (u, zT, true) := by
        unfold checkT
        rw [if_pos hv, if_neg h0, hu]
        simp only [if_neg (show ¬ 2000 < szT u by omega)]
      simp [tree_law16_BodyConverted, go_need, go_br, go_leaf, go_back, allSay, X.says, X.ev, X.evs, evl, tblS, List.getD_cons_zero, List.getD_cons_succ, List.getElem?_cons_zero, List.getElem?_cons_succ, tt_b, int_i, str_s, rs_r, Option.isSome_some, Option.getD_some, decide_eq_true_eq, decide_eq_false_iff_not, List.length_map, i_inj, b_inj, s_inj, rng64, List.take_succ_cons, List.take_zero, List.nil_append, List.cons_append, decide_true, decide_false, Bool.or_true, true_and, and_true, dT_eT, eT_0, eT_1, eT_2, eT_3, eT_eq, eT_z, gTTB, gTTTB, gTTb, e, e2, hs, h0, ec]
theorem term_valid (c : Cla) : validT (termK c) = true := by
  unfold termK
  split
  · rename_i h
    split
    · exact (validK_1 h).1
    · exact clone_valid _
  · exact zT_valid
theorem ok_law16_BodyTerms : FOk ct_law16_BodyTerms fun _ => some [.b true] := fok_law16_BodyTerms ok_body_Valid ok_ref16_Valid ok_body_Term ok_ref16_Term ok_law16_same ok_law16_awake fun ds outs hw hg => by
  obtain ⟨d, r, rfl, hd, rfl⟩ := hw
  obtain ⟨c, rfl, -⟩ := wfK hd
  injection hg with hg
  subst hg
  have hs := same_self (term_valid c)
  simp [tree_law16_BodyTerms, go_need, go_br, go_leaf, go_back, allSay, X.says, X.ev, X.evs, evl, tblS, List.getD_cons_zero, List.getD_cons_succ, List.getElem?_cons_zero, List.getElem?_cons_succ, tt_b, int_i, str_s, rs_r, Option.isSome_some, Option.getD_some, decide_eq_true_eq, decide_eq_false_iff_not, List.length_map, i_inj, b_inj, s_inj, rng64, List.take_succ_cons, List.take_zero, List.nil_append, List.cons_append, decide_true, decide_false, Bool.or_true, true_and, and_true, dT_eT, eT_0, eT_1, eT_2, eT_3, eT_eq, eT_z, gKb, gKT, gTTb, dK_eK, hs]
end Go.Proofs.Ytflahdpkkgmpeaa

namespace Go.Proofs.Ytflahdpkkgmpeaa
open Go.RowKit
set_option linter.unusedVariables false
set_option linter.unusedSimpArgs false

theorem mapV_l (f : Int → Int) (t : Te) (j : Nat) (h : j < t.l.length) : (mapV f t).l.getD j default = mapV f (t.l.getD j default) := by
  cases t with
  | mk k n s l =>
    rw [mapV_mk]
    show (l.map (mapV f)).getD j default = mapV f (l.getD j default)
    have h : j < l.length := h
    simp [List.getD_eq_getElem?_getD, h]
theorem rule_map (f : Int → Int) (t : Te) : ruleB (mapV f t) = ruleB t := by
  cases t with
  | mk k n s l =>
    have e : (mapVs f l).length = l.length := by rw [mapVs_map, List.length_map]
    show ((decide (k = 3) && decide (s = sNeck)) && decide (((mapVs f l).length : Int) = 2)) = ((decide (k = 3) && decide (s = sNeck)) && decide ((l.length : Int) = 2))
    rw [e]
theorem varsK_map {f : Int → Int} (hf : ∀ x y, f x = f y → x = y) (h g : Te) : varsK (mapV f h, mapV f g) = (varsK (h, g)).map f := varsTs_map (f := f) [h, g] [] fun x _ y _ e => hf x y e
theorem canK_map {f : Int → Int} (hf : ∀ x y, f x = f y → x = y) (h g : Te) : canK (mapV f h, mapV f g) = canK (h, g) := by
  have hv := varsK_map hf h g
  have hi := canK_in (h, g)
  have key : ∀ t, inV (varsK (h, g)) t → numT (varsK (mapV f h, mapV f g)) (mapV f t) = numT (varsK (h, g)) t := fun t ht => by
    rw [hv, numT, mapV_comp]
    exact mapV_congr (V := varsK (h, g)) (fun x hx => posL_map hx fun y _ e => hf y x e) t ht
  exact Prod.ext (key _ hi.1) (key _ hi.2)
theorem clauseC_map {f : Int → Int} (hf : ∀ x y, f x = f y → x = y) {head rest : Te} (h : (clauseC head rest).2.2 = 0) : clauseC (mapV f head) (mapV f rest) = clauseC head rest := by
  obtain ⟨g, hg, h0, hc, hz, h64, e⟩ := clauseC_0 h
  have hb : buildT (mapV f rest) = some (mapV f g) := by rw [build_map, hg]; rfl
  rw [clauseC_of (by rw [mapV_k]; exact h0) (by rw [call_map]; exact hc) hb (by rw [szT_mapV, szT_mapV]; exact hz) (by rw [varsK_map hf, List.length_map]; exact h64), canK_map hf, e]
theorem clause_ren {t r : Te} {a : Int} (h : (clauseT t).2.2 = 0) (hr : renT t a = (r, 0)) : clauseT r = clauseT t := by
  unfold renT at hr
  split at hr
  rotate_left
  · injection hr with _ hr
    cases hr
  rename_i hc
  obtain ⟨hv, h0, h1⟩ := hc
  split at hr
  rotate_left
  · injection hr with _ hr
    cases hr
  rename_i hall
  injection hr with hr _
  subst hr
  have hf : ∀ x y : Int, x + a = y + a → x = y := fun x y e => by omega
  have hvr : validT (mapV (fun x => x + a) t) = true := validT_map (V := varsT [] t) (fun x hx => by
    have h2 := varsT_ok t [] (validT_iff.1 hv).2 (fun x hx => by cases hx) x hx
    have h3 := of_decide_eq_true (List.all_eq_true.1 hall x hx)
    omega) (varsT_in t []) hv
  unfold clauseT at h ⊢
  rw [if_pos hv] at h ⊢
  rw [if_pos hvr, rule_map]
  cases hr : ruleB t with
  | true =>
    rw [hr, if_pos rfl] at h
    have hl := rule_len hr
    rw [if_pos rfl, if_pos rfl, mapV_l _ _ _ (by omega), mapV_l _ _ _ (by omega)]
    exact clauseC_map hf h
  | false =>
    rw [hr, if_neg (by decide)] at h
    rw [if_neg (by decide), if_neg (by decide)]
    exact clauseC_map (rest := atomR sTrue) hf h
theorem clause_term {c : Cla} (h : validK c = true) (hz : szT c.1 + szT c.2 + 1 ≤ 2000) : clauseT (termK c) = (c, zT, 0) := by
  obtain ⟨v1, v2⟩ := validK_1 h
  have h' := h
  simp only [validK, Bool.and_eq_true, decide_eq_true_eq] at h'
  obtain ⟨⟨-, hc⟩, hf, -, hb, h64, hcan⟩ := h'
  have hfz := (fits_iff c).1 hf
  have h0 : c.1.k ≠ 0 := by
    simp only [callT, Bool.or_eq_true, decide_eq_true_eq] at hc
    omega
  have hcc := clauseC_of (head := c.1) (rest := c.2) (g := c.2) h0 hc hb hfz h64
  rw [show ((c.1, c.2) : Cla) = c from rfl, hcan] at hcc
  unfold termK
  rw [if_pos h]
  cases hq : ((decide (c.2.k = 2) && decide (c.2.s = sTrue)) && !ruleB c.1) with
  | true =>
    rw [if_pos rfl]
    simp only [Bool.and_eq_true, decide_eq_true_eq, Bool.not_eq_true'] at hq
    obtain ⟨⟨k2, s2⟩, hr⟩ := hq
    have e2 : c.2 = atomR sTrue := by
      have hk := valid_kind v2
      have hn := ((nodes_iff c.2).1 (validT_iff.1 v2).2).1
      cases hcd : c.2 with
      | mk k n s l =>
        rw [hcd] at hk hn k2 s2
        have k2 : k = 2 := k2
        have s2 : s = sTrue := s2
        have hk : k = 0 ∨ k = 1 ∨ (k = 2 ∧ l.length = 0) ∨ (k = 3 ∧ 1 ≤ l.length) := hk
        have hl : l = [] := List.length_eq_zero_iff.1 (by omega)
        subst k2 s2 hl
        rw [nodeT_mk, if_neg (by decide), if_neg (by decide), if_pos rfl] at hn
        simp only [Bool.and_eq_true, decide_eq_true_eq] at hn
        rw [hn.1]
    rw [clauseT, if_pos v1, if_neg (by rw [hr]; decide), ← e2]
    exact hcc
  | false =>
    rw [if_neg (by decide)]
    have hv : validT (.mk 3 0 sNeck [c.1, c.2]) = true := str_valid (by decide) (by simp) (by simp) (fun x hx => by
      simp only [List.mem_cons, List.not_mem_nil, or_false] at hx
      rcases hx with rfl | rfl
      · exact (validT_iff.1 v1).2
      · exact (validT_iff.1 v2).2) (by simp only [szTs]; omega)
    rw [cloneT_of hv, clauseT, if_pos hv, if_pos (by rfl)]
    exact hcc
theorem ok_law16_BodyRound : FOk ct_law16_BodyRound fun _ => some [.b true] := fok_law16_BodyRound ok_body_Clause ok_law16_awake ok_body_Valid ok_ref03_Rename ok_ref16_SameClause ok_ref03_Size ok_body_Term fun ds outs hw hg => by
  obtain ⟨d, r, rfl, hd, e, r', rfl, he, rfl⟩ := hw
  obtain ⟨t, rfl, ht⟩ := wfT hd
  obtain ⟨a, rfl, ha⟩ := wfI he
  injection hg with hg
  subst hg
  by_cases h0 : (clauseT t).2.2 = 0
  · obtain ⟨hvk, -⟩ := clause_valid h0
    have hs := sameK_self hvk
    have hrn : ∀ r, renT t a = (r, 0) → clauseT r = clauseT t := fun r hr => clause_ren h0 hr
    have hct := clause_term hvk
    generalize hcl : clauseT t = cl at *
    obtain ⟨c, b, n⟩ := cl
    simp only at h0 hvk hs hct
    subst h0
    have hfz : szT c.1 + szT c.2 ≤ 2000 := by
      simp only [validK, Bool.and_eq_true] at hvk
      exact (fits_iff c).1 hvk.2.1
    have hr1 : -9223372036854775808 ≤ min (szT c.1 : Int) 2001 + min (szT c.2 : Int) 2001 + 1 ∧ min (szT c.1 : Int) 2001 + min (szT c.2 : Int) 2001 + 1 ≤ 9223372036854775807 := by omega
    cases hre : renT t a with
    | mk r q =>
      by_cases hq : q = 0
      · subst hq
        have hrc := hrn r hre
        by_cases hz : szT c.1 + szT c.2 + 1 ≤ 2000
        · have hzi : ¬ (2000 : Int) < min (szT c.1 : Int) 2001 + min (szT c.2 : Int) 2001 + 1 := by omega
          simp [tree_law16_BodyRound, go_need, go_br, go_leaf, go_back, allSay, X.says, X.ev, X.evs, evl, tblS, List.getD_cons_zero, List.getD_cons_succ, List.getElem?_cons_zero, List.getElem?_cons_succ, tt_b, int_i, str_s, rs_r, Option.isSome_some, Option.getD_some, decide_eq_true_eq, decide_eq_false_iff_not, List.length_map, i_inj, b_inj, s_inj, rng64, List.take_succ_cons, List.take_zero, List.nil_append, List.cons_append, decide_true, decide_false, Bool.or_true, true_and, and_true, dT_eT, eT_0, eT_1, eT_2, eT_3, eT_eq, eT_z, gCla, gKb, gKKb, gRen, gTi, gKT, dK_eK, eK_0, eK_1, hcl, hvk, hs, hre, hrc, hr1, min_rng, hzi, hct hz]
        · have hzi : (2000 : Int) < min (szT c.1 : Int) 2001 + min (szT c.2 : Int) 2001 + 1 := by omega
          simp [tree_law16_BodyRound, go_need, go_br, go_leaf, go_back, allSay, X.says, X.ev, X.evs, evl, tblS, List.getD_cons_zero, List.getD_cons_succ, List.getElem?_cons_zero, List.getElem?_cons_succ, tt_b, int_i, str_s, rs_r, Option.isSome_some, Option.getD_some, decide_eq_true_eq, decide_eq_false_iff_not, List.length_map, i_inj, b_inj, s_inj, rng64, List.take_succ_cons, List.take_zero, List.nil_append, List.cons_append, decide_true, decide_false, Bool.or_true, true_and, and_true, dT_eT, eT_0, eT_1, eT_2, eT_3, eT_eq, eT_z, gCla, gKb, gKKb, gRen, gTi, gKT, dK_eK, eK_0, eK_1, hcl, hvk, hs, hre, hrc, hr1, min_rng, hzi]
      · by_cases hz : szT c.1 + szT c.2 + 1 ≤ 2000
        · have hzi : ¬ (2000 : Int) < min (szT c.1 : Int) 2001 + min (szT c.2 : Int) 2001 + 1 := by omega
          simp [tree_law16_BodyRound, go_need, go_br, go_leaf, go_back, allSay, X.says, X.ev, X.evs, evl, tblS, List.getD_cons_zero, List.getD_cons_succ, List.getElem?_cons_zero, List.getElem?_cons_succ, tt_b, int_i, str_s, rs_r, Option.isSome_some, Option.getD_some, decide_eq_true_eq, decide_eq_false_iff_not, List.length_map, i_inj, b_inj, s_inj, rng64, List.take_succ_cons, List.take_zero, List.nil_append, List.cons_append, decide_true, decide_false, Bool.or_true, true_and, and_true, dT_eT, eT_0, eT_1, eT_2, eT_3, eT_eq, eT_z, gCla, gKb, gKKb, gRen, gTi, gKT, dK_eK, eK_0, eK_1, hcl, hvk, hs, hre, hq, hr1, min_rng, hzi, hct hz]
        · have hzi : (2000 : Int) < min (szT c.1 : Int) 2001 + min (szT c.2 : Int) 2001 + 1 := by omega
          simp [tree_law16_BodyRound, go_need, go_br, go_leaf, go_back, allSay, X.says, X.ev, X.evs, evl, tblS, List.getD_cons_zero, List.getD_cons_succ, List.getElem?_cons_zero, List.getElem?_cons_succ, tt_b, int_i, str_s, rs_r, Option.isSome_some, Option.getD_some, decide_eq_true_eq, decide_eq_false_iff_not, List.length_map, i_inj, b_inj, s_inj, rng64, List.take_succ_cons, List.take_zero, List.nil_append, List.cons_append, decide_true, decide_false, Bool.or_true, true_and, and_true, dT_eT, eT_0, eT_1, eT_2, eT_3, eT_eq, eT_z, gCla, gKb, gKKb, gRen, gTi, gKT, dK_eK, eK_0, eK_1, hcl, hvk, hs, hre, hq, hr1, min_rng, hzi]
  · simp [tree_law16_BodyRound, go_need, go_br, go_leaf, go_back, allSay, X.says, X.ev, X.evs, evl, tblS, List.getD_cons_zero, List.getD_cons_succ, List.getElem?_cons_zero, List.getElem?_cons_succ, tt_b, int_i, str_s, rs_r, Option.isSome_some, Option.getD_some, decide_eq_true_eq, decide_eq_false_iff_not, List.length_map, i_inj, b_inj, s_inj, rng64, List.take_succ_cons, List.take_zero, List.nil_append, List.cons_append, decide_true, decide_false, Bool.or_true, true_and, and_true, dT_eT, eT_0, eT_1, eT_2, eT_3, eT_eq, eT_z, gCla, h0]
end Go.Proofs.Ytflahdpkkgmpeaa

namespace Go.Proofs.Ytflahdpkkgmpeaa
open Go.ChangeShapes Go.WideShapes Go.ChangeAt Go.RowKit
set_option linter.unusedVariables false
set_option maxRecDepth 100000

theorem own_knobD : ownKnob Try.prog.godebug = none := by kernel_rfl
theorem laid_outD : laidOutB Try.prog = true := by kernel_rfl

def posB (P : Program) : Bool := tyTab.all fun e => Nat.blt 0 (P.bytesOf e.1)
set_option maxRecDepth 100000 in
theorem pos_ok : posB Try.prog = true := by kernel_rfl
theorem bytes_pos {T : TypeId} {t : Ty} (h : tyOf T = some t) : 0 < Try.prog.bytesOf T := by
  have := List.all_eq_true.1 pos_ok _ (lkA_mem h)
  simpa [Nat.blt_eq] using this

section
variable {H : Type} {enc : TypeId × Value → H} {W : World} {base : Nat} {spare : Nat → Bool} {held : Bool}

def LightD (t : TypeId) (d : DataW H) : Prop := ∀ n ∈ d.weights Try.prog t, n ≤ reachBytes

theorem weightsAll_memD {e : TypeId} : ∀ {l : List (DataW H)} {d : DataW H}, d ∈ l → ∀ n ∈ d.weights Try.prog e, n ∈ DataW.weightsAll Try.prog e l
  | [], _, h, _, _ => by cases h
  | x :: l, d, h, n, hn => by
    simp only [DataW.weightsAll, List.mem_append]
    rcases List.mem_cons.1 h with rfl | h
    · exact .inl hn
    · exact .inr (weightsAll_memD h n hn)

theorem LightD.each {ts : List TypeId} {l : List (DataW H)} {k : Nat} {t : TypeId} {d : DataW H} (h : ∀ n ∈ DataW.weightsEach Try.prog ts l, n ≤ reachBytes) (ht : ts[k]? = some t) (hd : l[k]? = some d) : LightD t d := fun n hn =>
  h n (DataW.weights_mem_each ht hd n hn)

theorem reach_eqD : reachBytes = LIM := rfl

theorem cells_w {T : TypeId} {t : Ty} (h : tyOf T = some t) : Try.prog.cellsOf T = t.w := by
  obtain ⟨i, hi, h1, -⟩ := row_info h
  simp [Program.cellsOf, hi, h1]

theorem rng_wf {k : IntKind} {t : TypeId} (ht : tyOf t = some (.int k)) {n : Int} (h : (Lit.int k n).wf = true) : rngB k n = true := by
  have h0 := (row_int ht).2.1
  cases k <;> first | (simp [rngB] at h0; done) | (simp [Lit.wf, IntKind.min, IntKind.max, IntKind.signed, IntKind.bits] at h; simp [rngB]; omega)

theorem spot_noneD {a : Addr} {v : Value} (h : W.cell? a = some v) : a.spot = none := by
  unfold World.cell? at h
  split at h
  · split at h
    · cases h
    · rename_i hs; simpa using hs
  · cases h

theorem rdF_of {F : Nat → Prop} {cs : List Value} : ∀ {fl : List Field} {fs : List Ty} {o : Nat}, fieldsB fl fs o = true → (∀ (j : Nat) (f : Field) (t : Ty), fl[j]? = some f → fs[j]? = some t → ∃ y, Rd W F y t ((cs.drop f.offset).take t.w)) → cs.length = o + widths fs → ∃ ds, RdF W F ds fs (cs.drop o)
  | [], [], o, _, _, hl => by
    simp [widths] at hl
    exact ⟨[], rfl, by rw [List.drop_eq_nil_iff]; omega⟩
  | f :: l, t :: ts, o, hb, hf, hl => by
    simp only [fieldsB, Bool.and_eq_true] at hb
    obtain ⟨⟨⟨h1, -⟩, -⟩, h3⟩ := hb
    have ho := Nat.eq_of_beq_eq_true h1
    rw [widths_cons] at hl
    obtain ⟨ds, hds⟩ := rdF_of h3 (fun j f' t' hj ht => hf (j + 1) f' t' (by simpa using hj) (by simpa using ht)) (by omega)
    obtain ⟨y, hy⟩ := hf 0 f t rfl rfl
    refine ⟨y :: ds, t, ts, (cs.drop o).take t.w, cs.drop (o + t.w), rfl, ?_, by rw [← ho]; exact hy, hds⟩
    rw [← List.drop_drop, List.take_append_drop]
  | [], _ :: _, o, hb, _, _ => by cases hb
  | _ :: _, [], o, hb, _, _ => by cases hb

theorem open_recD : ∀ (fuel : Nat) {T : TypeId} {t : Ty} (cs : List Value) (x : DataW H × List MemPlace), tyOf T = some t → isMp t = false → DataW.trod enc Try.prog W base spare held fuel T cs = some x → LightD T x.1 → ∃ y, Rd W (fun _ => True) y t cs := by
  intro fuel
  induction fuel with
  | zero => intro T t cs x _ _ h; simp [DataW.trod] at h
  | succ fuel ih =>
    intro T t cs x hT hM h hL
    cases t with
    | map K V => cases hM
    | int k =>
      obtain ⟨n, rfl, -, hw⟩ := DataW.trod_int (row_int hT).1 h
      exact ⟨.i n, k, rfl, rfl, rng_wf hT hw⟩
    | bool =>
      obtain ⟨b, rfl, -⟩ := DataW.trod_bool (row_bool hT).1 h
      exact ⟨.b b, rfl, rfl⟩
    | str =>
      obtain ⟨s, rfl, rfl, -⟩ := DataW.trod_string (row_str hT).1 h
      have := hL s.data.toList.length (by simp [DataW.weights])
      exact ⟨.s s, rfl, rfl, by rw [reach_eqD] at this; simpa using this⟩
    | st S =>
      obtain ⟨fields, fs, zc, i, hu, hfs, hfb, hi, hsz, -, -, -, -⟩ := row_st hT
      obtain ⟨xs, n, hn, hx, hlen, hxl, hf⟩ := DataW.trod_struct hu h
      obtain rfl : fuel = n := by omega
      have hw : ∀ n ∈ DataW.weightsEach Try.prog (fields.toList.map (·.type)) (xs.map (·.1)), n ≤ reachBytes := fun n hn => hL n (by rw [hx]; simp only [DataW.weights, hu]; exact hn)
      have hcl : cs.length = 0 + widths fs := by rw [hlen, cells_w hT, (fld_okD hfs).1]; omega
      obtain ⟨ds, hds⟩ := rdF_of (W := W) (F := fun _ => True) hfb (fun j f t hj ht => by
        obtain ⟨f', hf', ho, hty, -⟩ := fieldsB_get hfb ht
        obtain rfl := Option.some.inj (hj.symm.trans hf')
        have h5 := hf j f (by rw [← Array.getElem?_toList]; exact hj)
        have hjl : j < fields.toList.length := (List.getElem?_eq_some_iff.1 hj).1
        have hjx : j < xs.length := by rw [hxl]; simpa using hjl
        rw [cells_w hty, List.getElem?_eq_getElem hjx] at h5
        refine ih _ _ hty (fld_noM hfs (List.mem_of_getElem? ht)) h5 (LightD.each (k := j) hw ?_ ?_)
        · rw [List.getElem?_map, hj]; rfl
        · rw [List.getElem?_map, List.getElem?_eq_getElem hjx]; rfl) hcl
      exact ⟨.a ds, S, fs, rfl, hfs, by simpa using hds⟩
    | row E =>
      obtain ⟨hu, ⟨te, hte⟩, -⟩ := row_row hT
      rcases DataW.trod_slice hu h with ⟨rfl, hx⟩ | ⟨a, len, cap, elems, rest, n, hn, rfl, hx, hb, hl, hm, hlen, hel, -⟩
      · exact ⟨.r [], E, te, none, 0, rfl, hte, rfl, by simp, by simp, by simp [maxLen], by simp [RdE]⟩
      · obtain rfl : fuel = n := by omega
        have hwd := tyOf_pos hte
        rw [cells_w hte] at hel
        have hw := hL
        rw [hx] at hw
        simp only [LightD, DataW.weights, hu, List.mem_cons, List.mem_append] at hw
        have hlen2 : len ≤ LM te := by
          have := hw _ (.inl rfl)
          rw [reach_eqD] at this
          have hbe : Try.prog.bytesOf E = te.by := by
            obtain ⟨i, hi, -⟩ := row_info hte
            simp [Program.bytesOf, hi, row_bytes hte hi]
          refine (Nat.le_div_iff_mul_le (by_pos hte).1).2 ?_
          simp [hbe] at this
          have h2 : len * te.by ≤ (elems.length + rest.length) * te.by := Nat.mul_le_mul_right _ (by omega)
          exact Nat.le_trans h2 this
        have spot : 0 < len → a.spot = none := fun h0 => by
          have h2 := hel 0 h0
          rw [List.getElem?_eq_getElem (by omega)] at h2
          cases hc0 : W.cells? base (a.add (0 * te.w)) te.w with
          | none => rw [hc0] at h2; cases h2
          | some cs0 =>
            obtain ⟨_, hcl0, hat0⟩ := World.cells?_some hc0
            have hp : 0 < cs0.length := by omega
            have := hat0 0 (by omega)
            rw [List.getElem?_eq_getElem hp] at this
            exact spot_noneD (a := a) (v := cs0[0]) (by simpa [Addr.add] using this)
        have each : ∀ i, i < len → ∃ y, RdEl W (fun _ => True) y te (some a) i := fun i hi => by
          have h1 := hel i hi
          rw [List.getElem?_eq_getElem (by omega)] at h1
          cases hc : W.cells? base (a.add (i * te.w)) te.w with
          | none => rw [hc] at h1; cases h1
          | some cs' =>
            rw [hc] at h1
            obtain ⟨_, hcl, hat⟩ := World.cells?_some hc
            obtain ⟨y, hy⟩ := ih cs' _ hte (row_noM hT hte) h1 (fun n hn => hw n (.inr (.inl (weightsAll_memD (List.mem_map.2 ⟨_, List.getElem_mem (by omega), rfl⟩) n hn))))
            have hsp := spot (by omega)
            obtain ⟨b, o, sp⟩ := a
            obtain rfl : sp = none := hsp
            have add : ∀ k, (Addr.add ⟨b, o, none⟩ (i * te.w)).add k = ⟨b, o + i * te.w + k, none⟩ := fun k => by
              unfold Addr.add
              split <;> split <;> simp <;> omega
            refine ⟨y, b, o, cs', rfl, trivial, fun j v hj => ?_, hy⟩
            have hj' := (List.getElem?_eq_some_iff.1 hj).1
            have := hat j (by omega)
            rw [add, hj] at this
            exact this
        have pick : ∀ n, n ≤ len → ∃ l : List D, l.length = n ∧ ∀ i (h : i < l.length), RdEl W (fun _ => True) l[i] te (some a) i := by
          intro n
          induction n with
          | zero => exact fun _ => ⟨[], rfl, fun i hi => by simp at hi⟩
          | succ n ihn =>
            intro hn
            obtain ⟨l, hl1, hl2⟩ := ihn (by omega)
            obtain ⟨t, ht⟩ := each n (by omega)
            refine ⟨l ++ [t], by simp [hl1], fun i hi => ?_⟩
            by_cases hin : i < l.length
            · rw [List.getElem_append_left hin]; exact hl2 i hin
            · obtain rfl : i = l.length := by simp at hi; omega
              rw [List.getElem_append_right (by omega)]
              simp [hl1]
              exact ht
        obtain ⟨l, hl1, hl2⟩ := pick len (Nat.le_refl _)
        exact ⟨.r l, E, te, some a, cap, rfl, hte, by rw [hl1], by omega, by omega, hm, rdE_iff.2 fun j hj => by rw [Nat.zero_add]; exact hl2 j hj⟩

/-- The value of the type, and its cells. -/
theorem open_D {T : TypeId} {t : Ty} (hT : tyOf T = some t) (hM : isMp t = false) {v : Value} {d : DataW H} {p : List MemPlace} {b0 : Nat} {r : Reach} (hv : Value.okWide Try.prog W r b0 T v) (h : DataW.Trod enc Try.prog W base spare held T v d p) (hL : LightD T d) :
    ∃ x cs, Pack t cs v ∧ Rd W (fun b => b < W.heap.size) x t cs := by
  obtain ⟨fuel, hf⟩ := h
  obtain ⟨y, hy⟩ := open_recD fuel _ _ hT hM hf hL
  refine ⟨y, v.cells.toList, ?_, Rd.keeps (fun b o _ ho => ⟨ho, lt_of_heap ho⟩) _ hy⟩
  cases t with
  | int k => obtain ⟨n, rfl⟩ := okWide_int (row_int hT).1 hv; rfl
  | bool => obtain ⟨n, rfl⟩ := okWide_bool (row_bool hT).1 hv; rfl
  | str => obtain ⟨n, rfl⟩ := okWide_string (row_str hT).1 hv; rfl
  | map K V => cases hM
  | row E => obtain ⟨A, l, c, rfl⟩ := okWide_slice (row_row hT).1 hv; rfl
  | st S =>
    obtain ⟨fields, fs, zc, i, hu, -⟩ := row_st hT
    obtain ⟨cs, rfl, -⟩ := okWide_struct hu hv
    simp [Pack, Value.cells]
end

/-- A law that is true on all data: what its call does. -/
def ArgsV (W : World) : List Ar → List Value → List D → Prop
  | [], vs, ds => vs = [] ∧ ds = []
  | .val t :: l, vs, ds => ∃ v r d ds', vs = v :: r ∧ ds = d :: ds' ∧ (∃ cs, Pack t cs v ∧ Rd W (FFD (fun _ => True) (fun _ => none) []) d t cs) ∧ ArgsV W l r ds'
  | _ :: _, _, _ => False
theorem ArgsV.ok {W : World} {V : List Value} : ∀ {i : Nat} {ar : List Ar} {vs : List Value} {ds : List D}, ArgsV W ar vs ds → ArgsOk V (fun _ => True) (fun _ => none) W (idx i ar) vs ds ∧ vs.length = ar.length
  | _, [], vs, ds, h => ⟨h, by rw [h.1]; rfl⟩
  | i, .val t :: l, vs, ds, ⟨v, r, d, ds', e1, e2, h1, h⟩ => by
    obtain ⟨h2, h3⟩ := ArgsV.ok (V := V) (i := i + 1) h
    exact ⟨⟨v, r, d, ds', e1, e2, h1, h2⟩, by rw [e1]; simp [h3]⟩
  | _, .ref _ :: _, _, _, h => h.elim
  | _, .rref _ :: _, _, _, h => h.elim
  | _, .own _ :: _, _, _, h => h.elim
  | _, .mref _ :: _, _, _, h => h.elim
  | _, .nils :: _, _, _, h => h.elim
  | _, .nilp :: _, _, _, h => h.elim
  | _, .fn _ _ :: _, _, _, h => h.elim
  | _, .cell _ _ :: _, _, _, h => h.elim
theorem law_calls {ct : Ct} {g : List D → Option (List D)} (h : FOk ct g) (hrs : ct.rs = [(.bool, false)]) (hvr : ct.vr = []) {W : World} {vs : List Value} {ds : List D} (ha : ArgsV W ct.ar vs ds) (hg : g ds = some [.b true]) :
    Calls Try.prog ct.f vs.toArray W fun e W' => e = .returned (.bool true) ∧ But Nil W W' := by
  obtain ⟨h1, h2⟩ := ArgsV.ok (V := vs ++ []) (i := 0) ha
  refine (h.call (fun _ => True) (fun _ => none) W vs [] ds _ hg (by constructor <;> simp) h2 (by simpa [Ct.all, hvr, idx] using h1)).mono ?_
  rintro e W' (⟨T, -, ho, -⟩ | ⟨rs, p', rfl, hb, hr, -⟩)
  · cases ho
  rw [hrs] at hr
  obtain ⟨v, r, d, ds', rfl, hd, ⟨cs, hp, hc⟩, rfl⟩ := hr
  simp at hd
  obtain ⟨rfl, rfl⟩ := hd
  obtain ⟨e1, e2⟩ : D.b true = .b true ∧ cs = [.bool true] := ⟨rfl, by
    have hc' : Rd W' (FFD (fun _ => True) p' []) (.b true) .bool cs := hc
    exact hc'.2⟩
  subst e2
  have hpv : [Value.bool true] = [v] := hp
  injection hpv with hpv
  subst hpv
  exact ⟨rfl, hb.but.mono fun i hi _ => by obtain ⟨x, hx⟩ := hi; cases hx⟩
end Go.Proofs.Ytflahdpkkgmpeaa
