/-
  Lemmas of the walk and plain laws, put together. No condition.
-/
import Derived.Test.YtaoamndcdjelnaaZe
namespace Go.Proofs.Ytaoamndcdjelnaa
open Go.RowKit
set_option linter.unusedVariables false
set_option linter.unusedSimpArgs false
set_option maxRecDepth 100000

def gRProc : List D → Option (List D)
  | [s, a, b, m] => if smallS (dS s) && (validR (dS s) && (!m.tt || keptB (dS s))) then some [.i (runU (progO (if m.tt then bindP else noMeet)) 1048576 (dS s) [(dC a, dC b)]).1, eS (runU (progO (if m.tt then bindP else noMeet)) 1048576 (dS s) [(dC a, dC b)]).2] else none
  | _ => none
theorem ok_ref33_process : FOk q0o gRProc := fok_ref33_process q44 ok_ref33_bind ok_ref33_functor ok_ref33_arguments fun ds outs hw hg => by
  obtain ⟨d, r, rfl, hd, e, r', rfl, he, f, r2, rfl, hf, q, r3, rfl, hq, rfl⟩ := hw
  obtain ⟨s, rfl, hs⟩ := wfS hd
  obtain ⟨a, rfl, ha⟩ := wfC he
  obtain ⟨b, rfl, hb⟩ := wfC hf
  obtain ⟨bd, rfl⟩ := hq.bool
  simp only [gRProc, dS_eS, dC_eC, tt_b, Option.ite_none_right_eq_some, Option.some.injEq] at hg
  obtain ⟨hsm, rfl⟩ := hg
  simp only [Bool.and_eq_true, Bool.or_eq_true, Bool.not_eq_true'] at hsm
  obtain ⟨hsm, hv, hkb⟩ := hsm
  obtain ⟨hs1, hs2, hs3⟩ := small_iff.1 hsm
  generalize hmt : (if bd = true then bindP else noMeet) = mt
  simp only [q2p]
  rw [go_loop]
  refine ⟨fun st => ∃ (k : Nat) (s' : So) (l : List (Ce × Ce)), k ≤ 1048576 ∧ st = [.i 0, .r (l.reverse.map eP), .i k, eS s'] ∧ l.length ≤ 1 + k * 8 ∧ Back k s s' ∧ validR s' = true ∧ (bd = true → keptB s' = true) ∧ runU (progO mt) (1048576 - k) s' l = runU (progO mt) 1048576 s [(a, b)], fun st => 1048576 - (st.getD 2 .u).int.toNat, ⟨0, s, [(a, b)], by omega, rfl, by simp, Back.refl s, hv, fun h => hkb.resolve_left (by simp [h]), by simp⟩, ?_⟩
  rintro st - ⟨k, s', l, hk, rfl, hlen, hbk, hv', hk', hrun⟩
  have hcs := hbk.cs
  obtain ⟨hl1, hl2, -, -⟩ := hbk.tr_len
  have hroom : roomS s' = true := room_iff.2 ⟨by omega, by omega⟩
  cases l with
  | nil =>
    rw [run_nil] at hrun
    simp [q00, go_br, q01, q02, allSay, X.says, X.ev, X.evs, evl, tblS, List.getD_cons_zero, List.getD_cons_succ, List.getElem?_cons_zero, List.getElem?_cons_succ, tt_b, int_i, str_s, rs_r, Option.isSome_some, Option.getD_some, decide_eq_true_eq, decide_eq_false_iff_not, dS_eS, dC_eC, dU_eU, dW_eW, dY_eY, eC_0, eC_1, eU_0, eU_1, eW_0, eW_1, eW_2, eY_0, eY_1, eS_0, eS_1, eS_2, eS_3, eS_4, eS_5, List.length_map, i_inj, b_inj, s_inj, eC_eq, eU_eq, eW_eq, eY_eq, eS_eq, rng64, List.take_succ_cons, List.take_zero, List.nil_append, List.cons_append, decide_true, decide_false, Bool.or_true, true_and, and_true, ← hrun]
  | cons p l =>
    rw [rev_cons]
    have hML : (l.reverse.map eP).length = l.length := by simp
    generalize hM : l.reverse.map eP = M at hML ⊢
    by_cases hkm : k = 1048576
    · subst hkm
      rw [Nat.sub_self, run_zero] at hrun
      simp [q00, go_br, q01, q02, allSay, X.says, X.ev, X.evs, evl, tblS, List.getD_cons_zero, List.getD_cons_succ, List.getElem?_cons_zero, List.getElem?_cons_succ, tt_b, int_i, str_s, rs_r, Option.isSome_some, Option.getD_some, decide_eq_true_eq, decide_eq_false_iff_not, dS_eS, dC_eC, dU_eU, dW_eW, dY_eY, eC_0, eC_1, eU_0, eU_1, eW_0, eW_1, eW_2, eY_0, eY_1, eS_0, eS_1, eS_2, eS_3, eS_4, eS_5, List.length_map, i_inj, b_inj, s_inj, eC_eq, eU_eq, eW_eq, eY_eq, eS_eq, rng64, List.take_succ_cons, List.take_zero, List.nil_append, List.cons_append, decide_true, decide_false, Bool.or_true, true_and, and_true, ← hrun]
    obtain ⟨n, hn⟩ : ∃ n, 1048576 - k = n + 1 := ⟨1048576 - k - 1, by omega⟩
    have hn2 : 1048576 - (k + 1) = n := by omega
    rw [hn, runU] at hrun
    have hlM : (M ++ [eP p]).length = l.length + 1 := by simp [hML]
    have hlen' : l.length + 1 ≤ 1 + k * 8 := by simpa using hlen
    have hpos : (0 : Int) < ((M ++ [eP p]).length : Nat) := by omega
    have hkd : ¬ ((k : Int) = 1048576) := by omega
    have hrg : rngB .i64 ((((M ++ [eP p]).length : Nat) : Int) - 1) = true := by rw [hlM]; simp only [rng64]; omega
    have hrk : rngB .i64 ((k : Int) + 1) = true := by simp only [rng64]; omega
    have hb1 : (0 : Int) ≤ (((M ++ [eP p]).length : Nat) : Int) - 1 := by omega
    have hb2 : (((M ++ [eP p]).length : Nat) : Int) - 1 < ((M ++ [eP p]).length : Nat) := by omega
    have hb3 : (((M ++ [eP p]).length : Nat) : Int) - 1 ≤ ((M ++ [eP p]).length : Nat) := by omega
    have hgd : ∀ c, gDer [eS s', eC c] = some [eC (derS s' c)] := fun c => by
      simp only [gDer, dS_eS, dC_eC]
      rw [if_pos hv']
    have hO1 : (progO mt).der = derP := rfl
    have hO2 : (progO mt).meet = mt := rfl
    have hO3 : (progO mt).sym = symP := rfl
    have hO4 : (progO mt).args = fun s x y => (argP s x).zip (argP s y) := rfl
    rw [hO1, hO2, hO3, hO4, der_PS hv', der_PS hv'] at hrun
    have hr1 := derS_rd hv' p.1
    have hr2 := derS_rd hv' p.2
    simp only [q00, go_br, q01, q02, allSay, X.says, X.ev, X.evs, evl, tblS, List.getD_cons_zero, List.getD_cons_succ, List.getElem?_cons_zero, List.getElem?_cons_succ, tt_b, int_i, rs_r, Option.isSome_some, Option.getD_some, List.take_succ_cons, List.take_zero, List.nil_append, List.cons_append, List.drop_zero, last_get, last_cut, eP_0, eP_1, dS_eS, dC_eC, decide_true, Int.toNat_zero, eC_eq, i_inj, decide_false, true_and, and_true, Bool.false_eq_true, false_implies, true_implies, implies_true, reduceCtorEq, Bool.true_eq_false, Bool.not_true, Bool.not_false, Bool.true_or, Bool.or_true, Bool.false_or, Bool.or_false, if_true, if_false, hgd, gSymP, hpos, hrg, hrk, hb1, hb2, hb3, hkd]
    generalize hx : derS s' p.1 = x at hrun hr1 ⊢
    generalize hy : derS s' p.2 = y at hrun hr2 ⊢
    by_cases hxy : x = y
    · rw [if_pos hxy] at hrun
      subst hxy
      simp only [q00, go_br, q01, q02, allSay, X.says, X.ev, X.evs, evl, tblS, List.getD_cons_zero, List.getD_cons_succ, List.getElem?_cons_zero, List.getElem?_cons_succ, tt_b, int_i, rs_r, Option.isSome_some, Option.getD_some, List.take_succ_cons, List.take_zero, List.nil_append, List.cons_append, List.drop_zero, last_get, last_cut, eP_0, eP_1, dS_eS, dC_eC, decide_true, Int.toNat_zero, eC_eq, i_inj, decide_false, true_and, and_true, Bool.false_eq_true, false_implies, true_implies, implies_true, reduceCtorEq, Bool.true_eq_false, Bool.not_true, Bool.not_false, Bool.true_or, Bool.or_true, Bool.false_or, Bool.or_false, if_true, if_false]
      rw [updB, if_pos rfl]
      refine ⟨⟨k + 1, s', l, by omega, by simp [hM], by omega, hbk.mono (by omega), hv', hk', by rw [hn2]; exact hrun⟩, ?_⟩
      simp [D.int]
      omega
    rw [if_neg hxy] at hrun
    have hxd : decide (x = y) = false := decide_eq_false hxy
    obtain ⟨m, hmt', hgb, hmb, hvm, hkm'⟩ : ∃ m : Bool × So, mt s' x y = m ∧ ((bd = true → gRB [eS s', eC x, eC y] = some [.b m.1, eS m.2]) ∧ (bd = false → m = (false, s'))) ∧ Back 1 s' m.2 ∧ validR m.2 = true ∧ (bd = true → keptB m.2 = true) := by
      subst hmt
      cases bd with
      | true =>
        have hg := bind_good hv' (hk' rfl) hr1 hr2 hxy
        unfold goodB at hg
        rw [Bool.and_eq_true] at hg
        refine ⟨bindP s' x y, rfl, ⟨fun _ => ?_, fun h => by cases h⟩, bindP_back _ _ _, hg.2, fun _ => hg.1⟩
        simp only [gRB, dS_eS, dC_eC]
        rw [if_pos]
        simp [bindQ, hv', hroom, hr1, hr2, hxy]
      | false => exact ⟨(false, s'), rfl, ⟨fun h => (by cases h), fun _ => rfl⟩, (Back.refl s').mono (by omega), hv', fun h => by cases h⟩
    rw [hmt'] at hrun
    have hbm := hbk.trans hmb
    have hcond : (bd && (((gRB [eS s', eC x, eC y]).getD []).getD 0 .u).tt) = m.1 := by
      cases bd with
      | true => rw [hgb.1 rfl]; rfl
      | false => rw [hgb.2 rfl]; rfl
    have hst : (if bd = true then ((gRB [eS s', eC x, eC y]).getD []).getD 1 .u else eS s') = eS m.2 := by
      cases bd with
      | true => rw [hgb.1 rfl]; rfl
      | false => rw [hgb.2 rfl]; rfl
    have hok : (!bd || (gRB [eS s', eC x, eC y]).isSome) = true := by
      cases bd with
      | true => rw [hgb.1 rfl]; rfl
      | false => rfl
    simp only [List.getD_cons_zero, List.getD_cons_succ, List.getD_eq_getElem?_getD] at hcond hst
    simp only [q00, go_br, q01, q02, allSay, X.says, X.ev, X.evs, evl, tblS, List.getD_cons_zero, List.getD_cons_succ, List.getElem?_cons_zero, List.getElem?_cons_succ, tt_b, int_i, rs_r, Option.isSome_some, Option.getD_some, List.take_succ_cons, List.take_zero, List.nil_append, List.cons_append, List.drop_zero, last_get, last_cut, eP_0, eP_1, dS_eS, dC_eC, decide_true, Int.toNat_zero, eC_eq, i_inj, decide_false, true_and, and_true, Bool.false_eq_true, false_implies, true_implies, implies_true, reduceCtorEq, Bool.true_eq_false, Bool.not_true, Bool.not_false, Bool.true_or, Bool.or_true, Bool.false_or, Bool.or_false, if_true, if_false, hxd, hok, List.getD_eq_getElem?_getD, hcond, hst]
    cases hm : m.1 with
    | true =>
      rw [hm, if_pos rfl] at hrun
      simp only [q00, go_br, q01, q02, allSay, X.says, X.ev, X.evs, evl, tblS, List.getD_cons_zero, List.getD_cons_succ, List.getElem?_cons_zero, List.getElem?_cons_succ, tt_b, int_i, rs_r, Option.isSome_some, Option.getD_some, List.take_succ_cons, List.take_zero, List.nil_append, List.cons_append, List.drop_zero, last_get, last_cut, eP_0, eP_1, dS_eS, dC_eC, decide_true, Int.toNat_zero, eC_eq, i_inj, decide_false, true_and, and_true, Bool.false_eq_true, false_implies, true_implies, implies_true, reduceCtorEq, Bool.true_eq_false, Bool.not_true, Bool.not_false, Bool.true_or, Bool.or_true, Bool.false_or, Bool.or_false, if_true, if_false]
      rw [updB, if_pos rfl]
      refine ⟨⟨k + 1, m.2, l, by omega, by simp [hM], by omega, hbm, hvm, hkm', by rw [hn2]; exact hrun⟩, ?_⟩
      simp [D.int]
      omega
    | false =>
      rw [hm, if_neg Bool.false_ne_true] at hrun
      simp only [q00, go_br, q01, q02, allSay, X.says, X.ev, X.evs, evl, tblS, List.getD_cons_zero, List.getD_cons_succ, List.getElem?_cons_zero, List.getElem?_cons_succ, tt_b, int_i, rs_r, Option.isSome_some, Option.getD_some, List.take_succ_cons, List.take_zero, List.nil_append, List.cons_append, List.drop_zero, last_get, last_cut, eP_0, eP_1, dS_eS, dC_eC, decide_true, Int.toNat_zero, eC_eq, i_inj, decide_false, true_and, and_true, Bool.false_eq_true, false_implies, true_implies, implies_true, reduceCtorEq, Bool.true_eq_false, Bool.not_true, Bool.not_false, Bool.true_or, Bool.or_true, Bool.false_or, Bool.or_false, if_true, if_false]
      by_cases hsy : symP m.2 x < 0 ∨ symP m.2 x ≠ symP m.2 y
      · rw [if_pos hsy] at hrun
        have hsd : (decide (symP m.2 x < 0) || !decide (symP m.2 x = symP m.2 y)) = true := by
          rcases hsy with h | h <;> simp [h]
        simp only [q00, go_br, q01, q02, allSay, X.says, X.ev, X.evs, evl, tblS, List.getD_cons_zero, List.getD_cons_succ, List.getElem?_cons_zero, List.getElem?_cons_succ, tt_b, int_i, rs_r, Option.isSome_some, Option.getD_some, List.take_succ_cons, List.take_zero, List.nil_append, List.cons_append, List.drop_zero, last_get, last_cut, eP_0, eP_1, dS_eS, dC_eC, decide_true, Int.toNat_zero, eC_eq, i_inj, decide_false, true_and, and_true, Bool.false_eq_true, false_implies, true_implies, implies_true, reduceCtorEq, Bool.true_eq_false, Bool.not_true, Bool.not_false, Bool.true_or, Bool.or_true, Bool.false_or, Bool.or_false, if_true, if_false, hsd]
        simp [← hrun]
      · rw [if_neg hsy] at hrun
        have h1 : ¬ symP m.2 x < 0 := fun h => hsy (.inl h)
        have h2 : symP m.2 x = symP m.2 y := Classical.byContradiction fun h => hsy (.inr h)
        have hsd : (decide (symP m.2 x < 0) || !decide (symP m.2 x = symP m.2 y)) = false := by
          simp [h2]
          rw [← h2]
          omega
        obtain ⟨a1, a2, a3, -, -, -⟩ := arg_valid hvm h1
        have hga : gRArgs [eS m.2, eC x, eC y] = some [.r (((argP m.2 x).zip (argP m.2 y)).reverse.map eP)] := by
          simp only [gRArgs, dS_eS, dC_eC]
          rw [if_pos]
          simp only [Bool.and_eq_true, Bool.not_eq_true', decide_eq_false_iff_not, decide_eq_true_eq]
          exact ⟨hvm, h1, h2⟩
        have hzl : ((((argP m.2 x).zip (argP m.2 y)).reverse.map eP).length : Nat) ≤ 8 := by
          rw [List.length_map, List.length_reverse, List.length_zip]
          omega
        simp only [q00, go_br, q01, q02, allSay, X.says, X.ev, X.evs, evl, tblS, List.getD_cons_zero, List.getD_cons_succ, List.getElem?_cons_zero, List.getElem?_cons_succ, tt_b, int_i, rs_r, Option.isSome_some, Option.getD_some, List.take_succ_cons, List.take_zero, List.nil_append, List.cons_append, List.drop_zero, last_get, last_cut, eP_0, eP_1, dS_eS, dC_eC, decide_true, Int.toNat_zero, eC_eq, i_inj, decide_false, true_and, and_true, Bool.false_eq_true, false_implies, true_implies, implies_true, reduceCtorEq, Bool.true_eq_false, Bool.not_true, Bool.not_false, Bool.true_or, Bool.or_true, Bool.false_or, Bool.or_false, if_true, if_false, hsd, hga]
        refine ⟨by simp only [decide_eq_true_eq]; omega, ?_⟩
        rw [updB, if_pos rfl]
        refine ⟨⟨k + 1, m.2, (argP m.2 x).zip (argP m.2 y) ++ l, by omega, by rw [rev_app, hM]; simp, ?_, hbm, hvm, hkm', by rw [hn2]; exact hrun⟩, ?_⟩
        · rw [List.length_append, List.length_zip]
          omega
        · simp [D.int]
          omega
def gRUni : List D → Option (List D)
  | [s, a, b] => if smallS (dS s) && goodB (dS s) then some [.i (uniP (dS s) (dC a) (dC b)).1, eS (uniP (dS s) (dC a) (dC b)).2] else none
  | _ => none
theorem ok_ref33_Unify : FOk q1o gRUni := fok_ref33_Unify q11 q2a ok_ref33_process fun ds outs hw hg => by
  obtain ⟨d, r, rfl, hd, e, r', rfl, he, f, r2, rfl, hf, rfl⟩ := hw
  obtain ⟨s, rfl, hs⟩ := wfS hd
  obtain ⟨a, rfl, ha⟩ := wfC he
  obtain ⟨b, rfl, hb⟩ := wfC hf
  simp only [gRUni, dS_eS, dC_eC, Option.ite_none_right_eq_some, Option.some.injEq] at hg
  obtain ⟨hq, rfl⟩ := hg
  simp only [goodB, Bool.and_eq_true] at hq
  obtain ⟨hsm, hk, hv⟩ := hq
  have hP : gRProc [eS s, eC a, eC b, .b true] = some [.i (runU (progO bindP) 1048576 s [(a, b)]).1, eS (runU (progO bindP) 1048576 s [(a, b)]).2] := by
    simp only [gRProc, dS_eS, dC_eC, tt_b]
    rw [if_pos (by simp [hsm, hv, hk])]
    rfl
  have hC : gClone [eS s] = some [eS s] := by
    simp only [gClone, dS_eS]
    rw [if_pos (clQ_of hs)]
  simp only [q3c, q00, go_br, q01, q02, allSay, X.says, X.ev, X.evs, evl, tblS, List.getD_cons_zero, List.getD_cons_succ, List.getElem?_cons_zero, List.getElem?_cons_succ, tt_b, int_i, str_s, rs_r, Option.isSome_some, Option.getD_some, decide_eq_true_eq, decide_eq_false_iff_not, dS_eS, dC_eC, dU_eU, dW_eW, dY_eY, eC_0, eC_1, eU_0, eU_1, eW_0, eW_1, eW_2, eY_0, eY_1, eS_0, eS_1, eS_2, eS_3, eS_4, eS_5, List.length_map, i_inj, b_inj, s_inj, eC_eq, eU_eq, eW_eq, eY_eq, eS_eq, rng64, List.take_succ_cons, List.take_zero, List.nil_append, List.cons_append, decide_true, decide_false, Bool.or_true, true_and, and_true, gSCb, hP, hC, uniP, vc_PR hv]
  cases hva : vcR s a with
  | false => simp
  | true =>
    cases hvb : vcR s b with
    | false => simp
    | true =>
      generalize runU (progO bindP) 1048576 s [(a, b)] = R
      by_cases h0 : R.1 = 0
      · simp [h0]
      · simp [h0]
def gRSam : List D → Option (List D)
  | [s, a, b] => if smallS (dS s) && validR (dS s) then some [.b (samP (dS s) (dC a) (dC b)).1, .i (samP (dS s) (dC a) (dC b)).2] else none
  | _ => none
theorem ok_ref33_Same : FOk q1s gRSam := fok_ref33_Same q11 q2a ok_ref33_process fun ds outs hw hg => by
  obtain ⟨d, r, rfl, hd, e, r', rfl, he, f, r2, rfl, hf, rfl⟩ := hw
  obtain ⟨s, rfl, hs⟩ := wfS hd
  obtain ⟨a, rfl, ha⟩ := wfC he
  obtain ⟨b, rfl, hb⟩ := wfC hf
  simp only [gRSam, dS_eS, dC_eC, Option.ite_none_right_eq_some, Option.some.injEq] at hg
  obtain ⟨hq, rfl⟩ := hg
  simp only [Bool.and_eq_true] at hq
  obtain ⟨hsm, hv⟩ := hq
  have hP : gRProc [eS s, eC a, eC b, .b false] = some [.i (runU (progO noMeet) 1048576 s [(a, b)]).1, eS (runU (progO noMeet) 1048576 s [(a, b)]).2] := by
    simp only [gRProc, dS_eS, dC_eC, tt_b]
    rw [if_pos (by simp [hsm, hv])]
    rfl
  have hC : gClone [eS s] = some [eS s] := by
    simp only [gClone, dS_eS]
    rw [if_pos (clQ_of hs)]
  simp only [q3i, q00, go_br, q01, q02, allSay, X.says, X.ev, X.evs, evl, tblS, List.getD_cons_zero, List.getD_cons_succ, List.getElem?_cons_zero, List.getElem?_cons_succ, tt_b, int_i, str_s, rs_r, Option.isSome_some, Option.getD_some, decide_eq_true_eq, decide_eq_false_iff_not, dS_eS, dC_eC, dU_eU, dW_eW, dY_eY, eC_0, eC_1, eU_0, eU_1, eW_0, eW_1, eW_2, eY_0, eY_1, eS_0, eS_1, eS_2, eS_3, eS_4, eS_5, List.length_map, i_inj, b_inj, s_inj, eC_eq, eU_eq, eW_eq, eY_eq, eS_eq, rng64, List.take_succ_cons, List.take_zero, List.nil_append, List.cons_append, decide_true, decide_false, Bool.or_true, true_and, and_true, gSCb, hP, hC, samP, vc_PR hv]
  cases hva : vcR s a with
  | false => simp
  | true =>
    cases hvb : vcR s b with
    | false => simp
    | true =>
      generalize (runU (progO noMeet) 1048576 s [(a, b)]).1 = R
      by_cases h0 : R = 0
      · simp [h0]
      · by_cases h2 : R = 2
        · simp [h2]
        · simp [h0, h2]
theorem ok_law33_good : FOk q19 (gSb goodB) := fok_law33_good ok_ref30_Valid fun ds outs hw hg => by
  obtain ⟨d, r, rfl, hd, rfl⟩ := hw
  obtain ⟨s, rfl, hs⟩ := wfS hd
  simp only [gSb, dS_eS, Option.some.injEq] at hg
  subst hg
  have hl3 := hs.wk.1
  simp only [q3m]
  refine scan_ok s.wk.length (fun k => !decide ((s.wk.getD k default).att.t = 5) && !decide ((s.wk.getD k default).val.t = 5)) (v0 := .b false) rfl fun k B' hk hP hB _ => ?_
  rw [go_br]
  refine ⟨fun hlt => ?_, fun hlt => ?_⟩
  · have hkl : k < s.wk.length := by simpa [X.ev, evl, eS_3, D.int, D.rs, D.tt] using hlt
    simp only [q00, go_br, q01, q02, allSay, X.says, X.ev, X.evs, evl, tblS, List.getD_cons_zero, List.getD_cons_succ, List.getElem?_cons_zero, List.getElem?_cons_succ, tt_b, int_i, str_s, rs_r, Option.isSome_some, Option.getD_some, decide_eq_true_eq, decide_eq_false_iff_not, dS_eS, dC_eC, dU_eU, dW_eW, dY_eY, eC_0, eC_1, eU_0, eU_1, eW_0, eW_1, eW_2, eY_0, eY_1, eS_0, eS_1, eS_2, eS_3, eS_4, eS_5, List.length_map, i_inj, b_inj, s_inj, eC_eq, eU_eq, eW_eq, eY_eq, eS_eq, rng64, List.take_succ_cons, List.take_zero, List.nil_append, List.cons_append, decide_true, decide_false, Bool.or_true, true_and, and_true, get_n eW hkl]
    refine ⟨⟨by omega, by omega, ?_, ?_⟩, fun h => ?_, fun h => ⟨⟨by omega, by omega⟩, ?_⟩⟩
    · simp
    · simp [hkl]
    · have : keptB s = false := by
        rw [Bool.eq_false_iff]
        intro q
        have := all_of q (k := k) hkl
        simp at h this
        rcases h with h | h
        · exact this.1 h
        · exact this.2 h
      simp [goodB, this]
    · exact hB hkl (by simpa using h)
  · have : k = s.wk.length := by
      have : ¬ (k < s.wk.length) := by simpa [X.ev, evl, eS_3, D.int, D.rs, D.tt] using hlt
      omega
    subst this
    have hkp : keptB s = true := all_yes fun j hj => hP j hj
    simp only [q00, go_br, q01, q02, allSay, X.says, X.ev, X.evs, evl, tblS, List.getD_cons_zero, List.getD_cons_succ, List.getElem?_cons_zero, List.getElem?_cons_succ, tt_b, int_i, str_s, rs_r, Option.isSome_some, Option.getD_some, decide_eq_true_eq, decide_eq_false_iff_not, dS_eS, dC_eC, dU_eU, dW_eW, dY_eY, eC_0, eC_1, eU_0, eU_1, eW_0, eW_1, eW_2, eY_0, eY_1, eS_0, eS_1, eS_2, eS_3, eS_4, eS_5, List.length_map, i_inj, b_inj, s_inj, eC_eq, eU_eq, eW_eq, eY_eq, eS_eq, rng64, List.take_succ_cons, List.take_zero, List.nil_append, List.cons_append, decide_true, decide_false, Bool.or_true, true_and, and_true, gSb, goodB, hkp, Bool.true_and]

def gYesU : List D → Option (List D) := fun _ => some [.b true]
theorem ok_law33_ref : FOk q1b (denF [] 4 q2v) := fok_law33_ref fun ds outs hw hg => go_denF hg
theorem ok_law33_str : FOk q22 (denF [] 4 q4a) := fok_law33_str fun ds outs hw hg => go_denF hg
theorem ok_law33_store : FOk q1k (denF [(q1b, denF [] 4 q2v)] 4 q34) := fok_law33_store ok_law33_ref fun ds outs hw hg => go_denF hg
theorem q39 : FOk q0h gYesU := fok_law33_example ok_law33_store ok_law33_str q4b ok_unify_Same ok_law33_ref fun ds outs hw hg => by
  obtain rfl : ds = [] := hw
  simp only [gYesU, Option.some.injEq] at hg
  subst hg
  exact go_denF (fuel := 12) (by kernel_rfl)

theorem blk_small {s : So} {l : List D} (h : blks (eS s :: l) ≤ 1048576) : smallS s = true := by
  have h1 := blks_len (s.cs.map eC)
  have h2 := blks_len (s.tr.map eU)
  have h3 := blks_len (s.wk.map eW)
  rw [List.length_map] at h1 h2 h3
  simp only [blks, blk, eS] at h
  exact small_iff.2 ⟨by omega, by omega, by omega⟩
theorem law_UnifyCells : FOk q1q gUp := fok_law33_UnifyCells q2a q4b ok_law33_good q39 ok_ref33_Unify ok_ref30_Same ok_unify_Unify_n fun ds outs hw hg => by
  obtain ⟨d, r, rfl, hd, e, r', rfl, he, f, r2, rfl, hf, rfl⟩ := hw
  obtain ⟨s, rfl, hs⟩ := wfS hd
  obtain ⟨a, rfl, ha⟩ := wfC he
  obtain ⟨b, rfl, hb⟩ := wfC hf
  simp only [gUp, Option.ite_none_right_eq_some, Option.some.injEq] at hg
  obtain ⟨hq, rfl⟩ := hg
  have hsm := blk_small hq
  have hC : gClone [eS s] = some [eS s] := by
    simp only [gClone, dS_eS]
    rw [if_pos (clQ_of hs)]
  have hU : gUnify [eS s, eC a, eC b] = some [.i (uniP s a b).1, eS (uniP s a b).2] := by
    simp only [gUnify, dS_eS, dC_eC]
    rw [if_pos hsm]
  rw [q2c]
  cases hgo : goodB s with
  | false => simp [q00, go_br, q01, q02, allSay, X.says, X.ev, X.evs, evl, tblS, List.getD_cons_zero, List.getD_cons_succ, List.getElem?_cons_zero, List.getElem?_cons_succ, tt_b, int_i, str_s, rs_r, Option.isSome_some, Option.getD_some, decide_eq_true_eq, decide_eq_false_iff_not, dS_eS, dC_eC, dU_eU, dW_eW, dY_eY, eC_0, eC_1, eU_0, eU_1, eW_0, eW_1, eW_2, eY_0, eY_1, eS_0, eS_1, eS_2, eS_3, eS_4, eS_5, List.length_map, i_inj, b_inj, s_inj, eC_eq, eU_eq, eW_eq, eY_eq, eS_eq, rng64, List.take_succ_cons, List.take_zero, List.nil_append, List.cons_append, decide_true, decide_false, Bool.or_true, true_and, and_true, hC, hU, gSb, hgo, gYesU]
  | true =>
    have hR : gRUni [eS s, eC a, eC b] = some [.i (uniP s a b).1, eS (uniP s a b).2] := by
      simp only [gRUni, dS_eS, dC_eC]
      rw [if_pos (by simp [hsm, hgo])]
    simp [q00, go_br, q01, q02, allSay, X.says, X.ev, X.evs, evl, tblS, List.getD_cons_zero, List.getD_cons_succ, List.getElem?_cons_zero, List.getElem?_cons_succ, tt_b, int_i, str_s, rs_r, Option.isSome_some, Option.getD_some, decide_eq_true_eq, decide_eq_false_iff_not, dS_eS, dC_eC, dU_eU, dW_eW, dY_eY, eC_0, eC_1, eU_0, eU_1, eW_0, eW_1, eW_2, eY_0, eY_1, eS_0, eS_1, eS_2, eS_3, eS_4, eS_5, List.length_map, i_inj, b_inj, s_inj, eC_eq, eU_eq, eW_eq, eY_eq, eS_eq, rng64, List.take_succ_cons, List.take_zero, List.nil_append, List.cons_append, decide_true, decide_false, Bool.or_true, true_and, and_true, hC, hU, hR, gSb, hgo, gYesU, gSame]
theorem law_UnifySame : FOk q21 gUp := fok_law33_UnifySame q2a ok_unify_Same ok_ref30_Valid q39 ok_ref33_Same ok_ref30_Same fun ds outs hw hg => by
  obtain ⟨d, r, rfl, hd, e, r', rfl, he, f, r2, rfl, hf, rfl⟩ := hw
  obtain ⟨s, rfl, hs⟩ := wfS hd
  obtain ⟨a, rfl, ha⟩ := wfC he
  obtain ⟨b, rfl, hb⟩ := wfC hf
  simp only [gUp, Option.ite_none_right_eq_some, Option.some.injEq] at hg
  obtain ⟨hq, rfl⟩ := hg
  have hsm := blk_small hq
  have hC : gClone [eS s] = some [eS s] := by
    simp only [gClone, dS_eS]
    rw [if_pos (clQ_of hs)]
  have hU : gSameU samP [eS s, eC a, eC b] = some [.b (samP s a b).1, .i (samP s a b).2] := by
    simp only [gSameU, dS_eS, dC_eC]
    rw [if_pos hsm]
  rw [q2h]
  cases hgo : validR s with
  | false => simp [q00, go_br, q01, q02, allSay, X.says, X.ev, X.evs, evl, tblS, List.getD_cons_zero, List.getD_cons_succ, List.getElem?_cons_zero, List.getElem?_cons_succ, tt_b, int_i, str_s, rs_r, Option.isSome_some, Option.getD_some, decide_eq_true_eq, decide_eq_false_iff_not, dS_eS, dC_eC, dU_eU, dW_eW, dY_eY, eC_0, eC_1, eU_0, eU_1, eW_0, eW_1, eW_2, eY_0, eY_1, eS_0, eS_1, eS_2, eS_3, eS_4, eS_5, List.length_map, i_inj, b_inj, s_inj, eC_eq, eU_eq, eW_eq, eY_eq, eS_eq, rng64, List.take_succ_cons, List.take_zero, List.nil_append, List.cons_append, decide_true, decide_false, Bool.or_true, true_and, and_true, hC, hU, gSb, hgo, gYesU]
  | true =>
    have hR : gRSam [eS s, eC a, eC b] = some [.b (samP s a b).1, .i (samP s a b).2] := by
      simp only [gRSam, dS_eS, dC_eC]
      rw [if_pos (by simp [hsm, hgo])]
    simp [q00, go_br, q01, q02, allSay, X.says, X.ev, X.evs, evl, tblS, List.getD_cons_zero, List.getD_cons_succ, List.getElem?_cons_zero, List.getElem?_cons_succ, tt_b, int_i, str_s, rs_r, Option.isSome_some, Option.getD_some, decide_eq_true_eq, decide_eq_false_iff_not, dS_eS, dC_eC, dU_eU, dW_eW, dY_eY, eC_0, eC_1, eU_0, eU_1, eW_0, eW_1, eW_2, eY_0, eY_1, eS_0, eS_1, eS_2, eS_3, eS_4, eS_5, List.length_map, i_inj, b_inj, s_inj, eC_eq, eU_eq, eW_eq, eY_eq, eS_eq, rng64, List.take_succ_cons, List.take_zero, List.nil_append, List.cons_append, decide_true, decide_false, Bool.or_true, true_and, and_true, hC, hU, hR, gSb, hgo, gYesU, gSame]
theorem uni_swap {s : So} (h : goodB s = true) (a b : Ce) : uniP s b a = uniP s a b := by
  have hs := run_swap 1048576 s [(a, b)] h
  have e : swp [(a, b)] = [(b, a)] := rfl
  rw [e] at hs
  unfold uniP
  rw [hs]
  by_cases h1 : vcP s a = false ∨ vcP s b = false
  · rw [if_pos h1, if_pos h1.symm]
  · rw [if_neg h1, if_neg (fun q => h1 q.symm)]
theorem uni_fail {s : So} {a b : Ce} (h : (uniP s a b).1 ≠ 0) : (uniP s a b).2 = s := by
  unfold uniP at h ⊢
  split
  · rfl
  · rename_i q
    rw [if_neg q] at h
    split
    · rename_i q2
      rw [if_pos q2] at h
      exact (h q2).elim
    · rfl
theorem law_UnifyTurns : FOk q1p gUp := fok_law33_UnifyTurns ok_law33_good q39 q2a q4b ok_ref30_Same fun ds outs hw hg => by
  obtain ⟨d, r, rfl, hd, e, r', rfl, he, f, r2, rfl, hf, rfl⟩ := hw
  obtain ⟨s, rfl, hs⟩ := wfS hd
  obtain ⟨a, rfl, ha⟩ := wfC he
  obtain ⟨b, rfl, hb⟩ := wfC hf
  simp only [gUp, Option.ite_none_right_eq_some, Option.some.injEq] at hg
  obtain ⟨hq, rfl⟩ := hg
  have hsm := blk_small hq
  have hC : gClone [eS s] = some [eS s] := by
    simp only [gClone, dS_eS]
    rw [if_pos (clQ_of hs)]
  have hU : ∀ a b, gUnify [eS s, eC a, eC b] = some [.i (uniP s a b).1, eS (uniP s a b).2] := fun a b => by
    simp only [gUnify, dS_eS, dC_eC]
    rw [if_pos hsm]
  rw [q2b]
  cases hgo : goodB s with
  | false => simp [q00, go_br, q01, q02, allSay, X.says, X.ev, X.evs, evl, tblS, List.getD_cons_zero, List.getD_cons_succ, List.getElem?_cons_zero, List.getElem?_cons_succ, tt_b, int_i, str_s, rs_r, Option.isSome_some, Option.getD_some, decide_eq_true_eq, decide_eq_false_iff_not, dS_eS, dC_eC, dU_eU, dW_eW, dY_eY, eC_0, eC_1, eU_0, eU_1, eW_0, eW_1, eW_2, eY_0, eY_1, eS_0, eS_1, eS_2, eS_3, eS_4, eS_5, List.length_map, i_inj, b_inj, s_inj, eC_eq, eU_eq, eW_eq, eY_eq, eS_eq, rng64, List.take_succ_cons, List.take_zero, List.nil_append, List.cons_append, decide_true, decide_false, Bool.or_true, true_and, and_true, hC, hU, gSb, hgo, gYesU]
  | true =>
    have hsw := uni_swap hgo a b
    have hf := @uni_fail s a b
    simp only [q00, go_br, q01, q02, allSay, X.says, X.ev, X.evs, evl, tblS, List.getD_cons_zero, List.getD_cons_succ, List.getElem?_cons_zero, List.getElem?_cons_succ, tt_b, int_i, str_s, rs_r, Option.isSome_some, Option.getD_some, decide_eq_true_eq, decide_eq_false_iff_not, dS_eS, dC_eC, dU_eU, dW_eW, dY_eY, eC_0, eC_1, eU_0, eU_1, eW_0, eW_1, eW_2, eY_0, eY_1, eS_0, eS_1, eS_2, eS_3, eS_4, eS_5, List.length_map, i_inj, b_inj, s_inj, eC_eq, eU_eq, eW_eq, eY_eq, eS_eq, rng64, List.take_succ_cons, List.take_zero, List.nil_append, List.cons_append, decide_true, decide_false, Bool.or_true, true_and, and_true, hC, hU, gSb, hgo, gYesU, gSame, hsw]
    generalize uniP s a b = R at hf ⊢
    by_cases h0 : R.1 = 0
    · simp [h0]
    · simp [h0, hf h0]
end Go.Proofs.Ytaoamndcdjelnaa

