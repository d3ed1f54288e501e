/-
  Lemmas of the walk and plain laws, put together. No condition.
-/
import Derived.ChangeArms
import Derived.OpenShut
import Derived.ProofKit
import Derived.SizedLaws
import Derived.Test.YtinclokohcommaaRows
import Derived.Test.YtinclokohcommaaZe
namespace Go.Proofs.Ytinclokohcommaa
open Go.RowKit
set_option linter.unusedVariables false
set_option linter.unusedSimpArgs false

theorem ok_slices_Clone_VarCell : FOk q0m (gCl 5864062014634) := q41 fun ds outs hw hg => by
  obtain ⟨d, r, rfl, hd, rfl⟩ := hw
  obtain ⟨l, te, rfl, -⟩ := hd.row
  simp only [gCl, rowQ_r, Option.ite_none_right_eq_some, Option.some.injEq] at hg
  obtain ⟨h1, rfl⟩ := hg
  exact clT_ok h1 rfl

def vAt (s : So) (l : List Vc) (k : Nat) : Bool := decide (0 ≤ (l.getD k default).v) && (decide ((l.getD k default).v ≤ 1099511627776) && (decide (k = 0 ∨ (l.getD (k - 1) default).v < (l.getD k default).v) && vcP s (l.getD k default).c))
def vvP (s : So) (l : List Vc) : Bool := (List.range l.length).all (vAt s l)
theorem getD_el {l : List Vc} {i : Nat} (h : i < l.length) : l.getD i default = l[i] := by
  rw [List.getD_eq_getElem?_getD, List.getElem?_eq_getElem h]
  rfl
theorem vvP_iff {s : So} {l : List Vc} : vvP s l = true ↔ SV l ∧ ∀ x ∈ l, vcP s x.c = true := by
  unfold vvP
  rw [List.all_eq_true]
  constructor
  · intro h
    have h' : ∀ k, k < l.length → vAt s l k = true := fun k hk => h k (List.mem_range.2 hk)
    have step : ∀ j i, i < j → j < l.length → (l.getD i default).v < (l.getD j default).v := by
      intro j
      induction j with
      | zero => intro i hi; omega
      | succ j ih =>
        intro i hi hj
        have h1 := h' (j + 1) hj
        simp only [vAt, Bool.and_eq_true, decide_eq_true_eq] at h1
        have h2 : (l.getD j default).v < (l.getD (j + 1) default).v := by
          rcases h1.2.2.1 with h | h
          · omega
          · exact h
        rcases Nat.lt_or_eq_of_le (Nat.le_of_lt_succ hi) with h3 | rfl
        · have := ih i h3 (by omega)
          omega
        · exact h2
    refine ⟨⟨List.pairwise_iff_getElem.2 fun i j hi hj hij => ?_, fun x hx => ?_⟩, fun x hx => ?_⟩
    · have := step j i hij hj
      rw [getD_el hi, getD_el hj] at this
      exact this
    · obtain ⟨i, hi, rfl⟩ := List.mem_iff_getElem.1 hx
      have h1 := h' i hi
      simp only [vAt, Bool.and_eq_true, decide_eq_true_eq, getD_el hi] at h1
      exact ⟨h1.1, h1.2.1⟩
    · obtain ⟨i, hi, rfl⟩ := List.mem_iff_getElem.1 hx
      have h1 := h' i hi
      simp only [vAt, Bool.and_eq_true, decide_eq_true_eq, getD_el hi] at h1
      exact h1.2.2.2
  · rintro ⟨hs, hc⟩ k hk
    have hk := List.mem_range.1 hk
    have hm := getD_mem hk
    simp only [vAt, Bool.and_eq_true, decide_eq_true_eq]
    refine ⟨(hs.2 _ hm).1, (hs.2 _ hm).2, ?_, hc _ hm⟩
    rcases Nat.eq_zero_or_pos k with h | h
    · exact .inl h
    · right
      have h1 : k - 1 < l.length := by omega
      rw [getD_el h1, getD_el hk]
      exact List.pairwise_iff_getElem.1 hs.1 (k - 1) k h1 hk (by omega)
def gVV (f : So → List Vc → Bool) : List D → Option (List D)
  | [s, l] => some [.b (f (dS s) (dVs l))]
  | _ => none
theorem ok_cells_validVars : FOk q13 (gVV vvP) := q5b q2b fun ds outs hw hg => by
  obtain ⟨d, r, rfl, hd, e, r', rfl, he, rfl⟩ := hw
  obtain ⟨s, rfl, hs⟩ := wfS hd
  obtain ⟨l, rfl, hl, hok⟩ := wfVs he
  simp only [gVV, dS_eS, dVs_eVs, Option.some.injEq] at hg
  subst hg
  rw [q2n, q1j]
  refine ⟨fun st => ∃ k : Nat, k ≤ l.length ∧ st = [.b false, .i k] ∧ ∀ j, j < k → vAt s l j = true, fun st => l.length - (st.getD 1 .u).int.toNat, ⟨0, Nat.zero_le _, rfl, fun j hj => absurd hj (Nat.not_lt_zero _)⟩, ?_⟩
  rintro st - ⟨k, hk, rfl, hP⟩
  rw [go_br]
  refine ⟨fun hlt => ?_, fun hlt => ?_⟩
  · simp only [q00, go_br, q01, q02, allSay, X.says, X.ev, X.evs, evl, tblS, List.getD_cons_zero, List.getD_cons_succ, List.getElem?_cons_zero, List.getElem?_cons_succ, tt_b, int_i, str_s, rs_r, Option.isSome_some, Option.getD_some, decide_eq_true_eq, decide_eq_false_iff_not, dS_eS, dC_eC, dU_eU, dW_eW, dY_eY, eC_0, eC_1, eU_0, eU_1, eW_0, eW_1, eW_2, eY_0, eY_1, eS_0, eS_1, eS_2, eS_3, eS_4, eS_5, List.length_map, i_inj, b_inj, s_inj, eC_eq, eU_eq, eW_eq, eY_eq, eS_eq, rng64, List.take_succ_cons, List.take_zero, List.nil_append, List.cons_append, decide_true, decide_false, Bool.or_true, true_and, and_true, dT_eT, eT_0, eT_1, eT_2, eT_3, eT_eq, eT_z] at hlt
    have hkl : k < l.length := by omega
    have hvb := (hok _ (getD_mem hkl)).1
    by_cases h0 : k = 0
    · subst h0
      have e1 : decide ((0 : Int) < ((0 : Nat) : Int)) = false := by decide
      simp only [q00, go_br, q01, q02, allSay, X.says, X.ev, X.evs, evl, tblS, List.getD_cons_zero, List.getD_cons_succ, List.getElem?_cons_zero, List.getElem?_cons_succ, tt_b, int_i, str_s, rs_r, Option.isSome_some, Option.getD_some, decide_eq_true_eq, decide_eq_false_iff_not, dS_eS, dC_eC, dU_eU, dW_eW, dY_eY, eC_0, eC_1, eU_0, eU_1, eW_0, eW_1, eW_2, eY_0, eY_1, eS_0, eS_1, eS_2, eS_3, eS_4, eS_5, List.length_map, i_inj, b_inj, s_inj, eC_eq, eU_eq, eW_eq, eY_eq, eS_eq, rng64, List.take_succ_cons, List.take_zero, List.nil_append, List.cons_append, decide_true, decide_false, Bool.or_true, true_and, and_true, dT_eT, eT_0, eT_1, eT_2, eT_3, eT_eq, eT_z, get_n eV hkl, eV_0, eV_1, gSCb, e1, Bool.and_false, Bool.false_and, Bool.not_false, Bool.true_or, Bool.or_false, true_and, and_self]
      refine ⟨⟨by omega, by omega⟩, fun hb => ?_, fun hb => ⟨⟨by omega, by omega⟩, ?_⟩⟩
      · have hv : vAt s l 0 = false := by
          simp only [vAt, true_or, decide_true, Bool.true_and]
          generalize l.getD 0 default = z at hb ⊢
          cases hvc : vcP s z.c
          · simp
          · simp [hvc] at hb ⊢
            omega
        rw [vvP, all_not hkl hv]
      · have hv : vAt s l 0 = true := by
          simp only [vAt, true_or, decide_true, Bool.true_and]
          generalize l.getD 0 default = z at hb ⊢
          cases hvc : vcP s z.c
          · simp [hvc] at hb
          · simp [hvc] at hb ⊢
            omega
        rw [updB, if_pos rfl]
        exact ⟨⟨1, by omega, by simp, upto_succ hP hv⟩, by simp [D.int]; omega⟩
    · have hk1 : ((k : Int) - 1) = ((k - 1 : Nat) : Int) := by omega
      have hkp : k - 1 < l.length := by omega
      have hp : (0 : Int) < k := by omega
      have hr1 : rngB .i64 ((k - 1 : Nat) : Int) = true := by simp [rngB]; omega
      have hr2 : (0 : Int) ≤ ((k - 1 : Nat) : Int) := by omega
      have hr3 : ((k - 1 : Nat) : Int) < l.length := by omega
      simp only [q00, go_br, q01, q02, allSay, X.says, X.ev, X.evs, evl, tblS, List.getD_cons_zero, List.getD_cons_succ, List.getElem?_cons_zero, List.getElem?_cons_succ, tt_b, int_i, str_s, rs_r, Option.isSome_some, Option.getD_some, decide_eq_true_eq, decide_eq_false_iff_not, dS_eS, dC_eC, dU_eU, dW_eW, dY_eY, eC_0, eC_1, eU_0, eU_1, eW_0, eW_1, eW_2, eY_0, eY_1, eS_0, eS_1, eS_2, eS_3, eS_4, eS_5, List.length_map, i_inj, b_inj, s_inj, eC_eq, eU_eq, eW_eq, eY_eq, eS_eq, rng64, List.take_succ_cons, List.take_zero, List.nil_append, List.cons_append, decide_true, decide_false, Bool.or_true, true_and, and_true, dT_eT, eT_0, eT_1, eT_2, eT_3, eT_eq, eT_z, hk1, hp, hr1, hr2, hr3, get_n eV hkl, get_n eV hkp, eV_0, eV_1, gSCb, Bool.and_true, Bool.true_and]
      refine ⟨⟨by omega, by omega⟩, fun hb => ?_, fun hb => ⟨⟨by omega, by omega⟩, ?_⟩⟩
      · have hv : vAt s l k = false := by
          simp only [vAt, h0, false_or]
          generalize l.getD k default = z at hb ⊢
          cases hvc : vcP s z.c
          · simp
          · simp [hvc] at hb ⊢
            omega
        rw [vvP, all_not hkl hv]
      · have hv : vAt s l k = true := by
          simp only [vAt, h0, false_or]
          generalize l.getD k default = z at hb ⊢
          cases hvc : vcP s z.c
          · simp [hvc] at hb
          · simp [hvc] at hb ⊢
            omega
        rw [updB, if_pos rfl]
        exact ⟨⟨k + 1, by omega, by simp, upto_succ hP hv⟩, by simp [D.int]; omega⟩
  · simp only [q00, go_br, q01, q02, allSay, X.says, X.ev, X.evs, evl, tblS, List.getD_cons_zero, List.getD_cons_succ, List.getElem?_cons_zero, List.getElem?_cons_succ, tt_b, int_i, str_s, rs_r, Option.isSome_some, Option.getD_some, decide_eq_true_eq, decide_eq_false_iff_not, dS_eS, dC_eC, dU_eU, dW_eW, dY_eY, eC_0, eC_1, eU_0, eU_1, eW_0, eW_1, eW_2, eY_0, eY_1, eS_0, eS_1, eS_2, eS_3, eS_4, eS_5, List.length_map, i_inj, b_inj, s_inj, eC_eq, eU_eq, eW_eq, eY_eq, eS_eq, rng64, List.take_succ_cons, List.take_zero, List.nil_append, List.cons_append, decide_true, decide_false, Bool.or_true, true_and, and_true, dT_eT, eT_0, eT_1, eT_2, eT_3, eT_eq, eT_z] at hlt ⊢
    have : k = l.length := by omega
    subst this
    simp only [vvP, all_yes hP]

def roomB (s : So) (t : Te) (l : List Vc) : Bool := decide ((nedT t l : Int) ≤ s.mx - s.cs.length) && decide (((visM s.ys [] t).length : Int) ≤ 1048576 - s.ys.length)
def gRoom : List D → Option (List D)
  | [s, t, l] => if nodesT (dT t) = true ∧ szT (dT t) ≤ 2000 ∧ SV (dVs l) ∧ 0 ≤ (dS s).mx ∧ (dS s).cs.length ≤ 1048576 ∧ (dS s).ys.length ≤ 1048576 then some [.b (roomB (dS s) (dT t) (dVs l))] else none
  | _ => none
theorem ok_cells_room : FOk q1s gRoom := fok_cells_room ok_cells_room_1 q2k fun ds outs hw hg => by
  obtain ⟨d, r, rfl, hd, e, r', rfl, he, f, r2, rfl, hf, rfl⟩ := hw
  obtain ⟨s, rfl, hs⟩ := wfS hd
  obtain ⟨t, rfl, ht⟩ := wfT he
  obtain ⟨l, rfl, hl, hok⟩ := wfVs hf
  simp only [gRoom, dS_eS, dT_eT, dVs_eVs, Option.ite_none_right_eq_some, Option.some.injEq] at hg
  obtain ⟨⟨hnd, hsz, hsv, hmx, hcl, hyl⟩, rfl⟩ := hg
  have hc := cntT_sz t
  have hv := visM_len t s.ys []
  have hc0 : nodesT t = true ∧ (0 : Int) ≤ 0 ∧ 0 + (cntT t : Int) ≤ 1099511627776 := ⟨hnd, by omega, by omega⟩
  have hc1 : nodesT t = true ∧ (0 : Int) ≤ 1 ∧ 1 + (cntT t : Int) ≤ 1099511627776 := ⟨hnd, by omega, by omega⟩
  have hme : (D.mp [] = D.mp (eM [])) = True := eq_true rfl
  have hmd : dM (D.mp []) = [] := rfl
  simp only [q3q, q00, go_br, q01, q02, allSay, X.says, X.ev, X.evs, evl, tblS, List.getD_cons_zero, List.getD_cons_succ, List.getElem?_cons_zero, List.getElem?_cons_succ, tt_b, int_i, str_s, rs_r, Option.isSome_some, Option.getD_some, decide_eq_true_eq, decide_eq_false_iff_not, dS_eS, dC_eC, dU_eU, dW_eW, dY_eY, eC_0, eC_1, eU_0, eU_1, eW_0, eW_1, eW_2, eY_0, eY_1, eS_0, eS_1, eS_2, eS_3, eS_4, eS_5, List.length_map, i_inj, b_inj, s_inj, eC_eq, eU_eq, eW_eq, eY_eq, eS_eq, rng64, List.take_succ_cons, List.take_zero, List.nil_append, List.cons_append, decide_true, decide_false, Bool.or_true, true_and, and_true, dT_eT, eT_0, eT_1, eT_2, eT_3, eT_eq, eT_z, gRo1, gBin, dVs_eVs, if_pos hsv, fnD, ms_mp, hmd, hme, if_pos hc0, if_pos hc1, roomB]
  have hlen : (eM (visM s.ys [] t)).length = (visM s.ys [] t).length := List.length_map _
  have hr1 : rngB .i64 ((visM s.ys [] t).length : Int) = true := by simp [rngB] at hv ⊢; omega
  have hr2 : rngB .i64 (1048576 - (s.ys.length : Int)) = true := by simp [rngB]; omega
  have hx := hs.mx
  simp only [hlen, hr1, hr2, Bool.or_true, true_and]
  refine ⟨fun h0 => ⟨fun hn => ⟨⟨by omega, by omega⟩, ⟨by omega, by omega⟩, ?_⟩, fun hn => ⟨⟨by omega, by omega⟩, ?_⟩⟩, fun h0 => ⟨⟨by omega, by omega⟩, ?_⟩⟩
  · have e : ofV l t.n = none := by simpa using hn
    rw [nedT, if_pos ⟨h0, e⟩, Nat.add_comm]
    rfl
  · have e : ¬ ofV l t.n = none := fun q => by rw [q] at hn; cases hn
    rw [nedT, if_neg fun q => e q.2]
    simp
  · rw [nedT, if_neg fun q => h0 q.1]
    simp

def addQ (s : So) (all : List Vc) (t : Te) (a : Int) : Bool := nodesT t && (decide (SV all) && (decide ((s.cs.length : Int) + ((if a < 0 then nedT t all else cntT t : Nat) : Int) ≤ s.mx) && (decide (s.mx ≤ 1048576) && (decide ((symsT s.ys t).length ≤ 1048576) && decide (a ≤ 1048576)))))
def gAdd : List D → Option (List D)
  | [t, a, all, s] => if addQ (dS s) (dVs all) (dT t) a.int then some [eC (addD (dS s, dVs all) (dT t) a.int).1, .r ((addD (dS s, dVs all) (dT t) a.int).2.2.map eV), eS (addD (dS s, dVs all) (dT t) a.int).2.1] else none
  | _ => none
theorem sym_N {s : So} {nm : ByteArray} {ar : Int} (h : symBad nm ar = false) (hl : (symX s.ys ⟨nm, ar⟩).length ≤ 1048576) : gSym [eS s, .s nm, .i ar] = some [.i (symN s nm ar).1, .i 0, eS (symN s nm ar).2] := by
  simp only [gSym, dS_eS, str_s, int_i, h, symN]
  by_cases h0 : 0 ≤ findS s nm ar
  · simp [h0]
  · have h1 : ¬ (⟨nm, ar⟩ : Sy) ∈ s.ys := fun q => h0 (findS_mem.2 q)
    rw [symX, if_neg h1] at hl
    have h2 : ¬ 1048576 ≤ s.ys.length := by simp at hl; omega
    simp [h0, h2]
theorem set_cs (s : So) (i : Nat) (c : Ce) : D.a ((eS s).fs.set 0 (.r ((s.cs.map eC).set i (eC c)))) = eS (setC s i c) := by
  rw [← List.map_set]
  rfl
theorem cs_apps (s : So) (l : List Ce) : D.a ((eS s).fs.set 0 (.r (s.cs.map eC ++ l.map eC))) = eS { s with cs := s.cs ++ l } := by
  rw [← List.map_append]
  rfl
theorem ok_cells_Put_1 : FOk q0x gAdd := q2u (m := mT) q4c fun N ih => fok_cells_Put_1 ih ok_cells_Symbol q2k ok_cells_kept ok_cells_Fresh q5t fun ds outs hw hg => by
  obtain ⟨d, r, rfl, hd, e, r', rfl, he, f, r2, rfl, hf, q, r3, rfl, hq, rfl⟩ := hw
  obtain ⟨t, rfl, ht⟩ := wfT hd
  obtain ⟨a, rfl, ha⟩ := wfI he
  obtain ⟨all, rfl, hal, hok⟩ := wfVs hf
  obtain ⟨s, rfl, hs⟩ := wfS hq
  simp only [cutM, mT, gAdd, List.getD_cons_zero, dT_eT, int_i, dS_eS, dVs_eVs, Option.ite_none_right_eq_some, Option.some.injEq] at hg
  obtain ⟨hsz, hA, rfl⟩ := hg
  simp only [addQ, Bool.and_eq_true, decide_eq_true_eq] at hA
  obtain ⟨hnd, hsv, hcs, hmx, hys, hamx⟩ := hA
  have hnl := (nodes_iff t).1 hnd
  obtain ⟨k, n, nm, l⟩ := t
  have hlo := loV_le n all
  have hlen := SV.len hsv
  rcases node_cases hnl.1 with ⟨rfl, rfl, h1, h2⟩ | ⟨rfl, rfl⟩ | ⟨rfl, rfl, h1⟩ | ⟨rfl, h1, h2, h3⟩
  · have hins : ∀ c : Ce, gIns [.r (all.map eV), .i (loV all n), .r [eV ⟨n, c⟩]] = some [.r ((insV all n c).map eV)] := fun c => by
      simp only [gIns, rs_r, int_i, List.length_map, List.length_singleton, Int.toNat_natCast]
      rw [if_pos ⟨trivial, by omega, by omega, by omega⟩, insV_eq]
      simp [List.map_take, List.map_drop]
    have hof := ofV_lo (v := n) hsv
    rw [addD_0]
    simp only [q2a, q00, go_br, q01, q02, allSay, X.says, X.ev, X.evs, evl, tblS, List.getD_cons_zero, List.getD_cons_succ, List.getElem?_cons_zero, List.getElem?_cons_succ, tt_b, int_i, str_s, rs_r, Option.isSome_some, Option.getD_some, decide_eq_true_eq, decide_eq_false_iff_not, dS_eS, dC_eC, dU_eU, dW_eW, dY_eY, eC_0, eC_1, eU_0, eU_1, eW_0, eW_1, eW_2, eY_0, eY_1, eS_0, eS_1, eS_2, eS_3, eS_4, eS_5, List.length_map, i_inj, b_inj, s_inj, eC_eq, eU_eq, eW_eq, eY_eq, eS_eq, rng64, List.take_succ_cons, List.take_zero, List.nil_append, List.cons_append, decide_true, decide_false, Bool.or_true, true_and, and_true, dT_eT, eT_0, eT_1, eT_2, eT_3, eT_eq, eT_z, Te.k, Te.n, Te.s, Te.l, gKept, eC_mk, eV_mk, gBin, dVs_eVs, if_pos hsv, hins]
    refine ⟨fun h => absurd h (by decide), fun _ => ⟨fun h => absurd h (by decide), fun _ => ⟨fun _ => ⟨fun ho => ?_, fun ho => ⟨fun ha0 => ?_, fun ha0 => ?_⟩⟩, fun h => (by cases h)⟩⟩⟩
    · split at hof
      · rename_i hq
        simp only [get_n eV hq.1, eV_1, hof, dC_eC]
        exact ⟨⟨by omega, by omega⟩, trivial⟩
      · rw [hof] at ho
        cases ho
    · have e : ofV all n = none := by simpa using ho
      have hn : nedT (.mk 0 n nm []) all = 1 := by
        rw [nedT, cnt_no (by decide), if_pos ⟨rfl, e⟩]
      rw [if_pos ha0, hn] at hcs
      have h4 : ¬ s.mx ≤ s.cs.length := by omega
      have h5 : s.cs.length < 8796093021952 := by omega
      simp only [gFresh, dS_eS, h4, h5, decide_false, decide_true, Bool.false_eq_true, if_false, if_true, Option.getD_some, Option.isSome_some, List.getD_cons_zero, List.getD_cons_succ, eV_mk, hins, e, ha0, true_and]
      done
    · have e : ofV all n = none := by simpa using ho
      simp only [e, if_neg ha0]
      done
  · rw [addD_1]
    simp [q2a, q00, go_br, q01, q02, allSay, X.says, X.ev, X.evs, evl, tblS, List.getD_cons_zero, List.getD_cons_succ, List.getElem?_cons_zero, List.getElem?_cons_succ, tt_b, int_i, str_s, rs_r, Option.isSome_some, Option.getD_some, decide_eq_true_eq, decide_eq_false_iff_not, dS_eS, dC_eC, dU_eU, dW_eW, dY_eY, eC_0, eC_1, eU_0, eU_1, eW_0, eW_1, eW_2, eY_0, eY_1, eS_0, eS_1, eS_2, eS_3, eS_4, eS_5, List.length_map, i_inj, b_inj, s_inj, eC_eq, eU_eq, eW_eq, eY_eq, eS_eq, rng64, List.take_succ_cons, List.take_zero, List.nil_append, List.cons_append, decide_true, decide_false, Bool.or_true, true_and, and_true, dT_eT, eT_0, eT_1, eT_2, eT_3, eT_eq, eT_z, Te.k, Te.n, Te.s, Te.l, eC_mk]
    done
  · rw [syms_2] at hys
    have hb : symBad nm 0 = false := by simp [symBad]; omega
    rw [addD_2]
    simp [q2a, q00, go_br, q01, q02, allSay, X.says, X.ev, X.evs, evl, tblS, List.getD_cons_zero, List.getD_cons_succ, List.getElem?_cons_zero, List.getElem?_cons_succ, tt_b, int_i, str_s, rs_r, Option.isSome_some, Option.getD_some, decide_eq_true_eq, decide_eq_false_iff_not, dS_eS, dC_eC, dU_eU, dW_eW, dY_eY, eC_0, eC_1, eU_0, eU_1, eW_0, eW_1, eW_2, eY_0, eY_1, eS_0, eS_1, eS_2, eS_3, eS_4, eS_5, List.length_map, i_inj, b_inj, s_inj, eC_eq, eU_eq, eW_eq, eY_eq, eS_eq, rng64, List.take_succ_cons, List.take_zero, List.nil_append, List.cons_append, decide_true, decide_false, Bool.or_true, true_and, and_true, dT_eT, eT_0, eT_1, eT_2, eT_3, eT_eq, eT_z, Te.k, Te.n, Te.s, Te.l, eC_mk, sym_N hb hys]
    done
  · rw [syms_3] at hys
    have hb : symBad nm (l.length : Nat) = false := by simp [symBad]; omega
    have hys0 : (symX s.ys ⟨nm, (l.length : Nat)⟩).length ≤ 1048576 := Nat.le_trans (symsTs_len l _) hys
    have hl8 : (l.length : Int) ≤ 16777216 := by omega
    obtain ⟨y1, y2, y3, y4, y5, y6⟩ := symN_cs s nm (l.length : Nat)
    have hcn : (s.cs.length : Int) + ((1 + l.length + cntTs l : Nat) : Int) ≤ s.mx := by
      rw [ned_no (by decide), cnt_3] at hcs
      split at hcs <;> exact hcs
    rw [addD_3, ← y1]
    rw [← y1] at hcn
    rw [← y3] at hys
    have hS := sym_N (s := s) hb hys0
    generalize symN s nm (l.length : Nat) = S at hS hys hcn y2 ⊢
    have hz : List.replicate l.length (eC ⟨0, 0⟩) = (List.replicate l.length (⟨0, 0⟩ : Ce)).map eC := by rw [List.map_replicate]
    simp only [q2a, q00, go_br, q01, q02, allSay, X.says, X.ev, X.evs, evl, tblS, List.getD_cons_zero, List.getD_cons_succ, List.getElem?_cons_zero, List.getElem?_cons_succ, tt_b, int_i, str_s, rs_r, Option.isSome_some, Option.getD_some, decide_eq_true_eq, decide_eq_false_iff_not, dS_eS, dC_eC, dU_eU, dW_eW, dY_eY, eC_0, eC_1, eU_0, eU_1, eW_0, eW_1, eW_2, eY_0, eY_1, eS_0, eS_1, eS_2, eS_3, eS_4, eS_5, List.length_map, i_inj, b_inj, s_inj, eC_eq, eU_eq, eW_eq, eY_eq, eS_eq, rng64, List.take_succ_cons, List.take_zero, List.nil_append, List.cons_append, decide_true, decide_false, Bool.or_true, true_and, and_true, dT_eT, eT_0, eT_1, eT_2, eT_3, eT_eq, eT_z, Te.k, Te.n, Te.s, Te.l, eC_mk, hS, cs_app, Int.toNat_natCast]
    refine ⟨fun h => absurd h (by decide), fun _ => ⟨fun h => absurd h (by decide), fun _ => ⟨fun h => absurd h (by decide), fun _ => ⟨by omega, ⟨by omega, by omega, by simp; omega⟩, ?_⟩⟩⟩⟩
    rw [q1j]
    refine ⟨fun st => ∃ (k : Nat) (al : List Vc) (s' : So), k ≤ l.length ∧ st = [.i k, .r (al.map eV), eS s'] ∧ SV al ∧ s'.mx = s.mx ∧ (s'.cs.length : Int) + (cntTs (l.drop k) : Int) ≤ s.mx ∧ S.2.cs.length + 1 + l.length ≤ s'.cs.length ∧ (symsTs s'.ys (l.drop k)).length ≤ 1048576 ∧ addAs (s', al) (l.drop k) (S.2.cs.length + 1 + k) = addAs ({ S.2 with cs := S.2.cs ++ (⟨4, S.1⟩ :: List.replicate l.length ⟨0, 0⟩) }, all) l (S.2.cs.length + 1), fun st => l.length - (st.getD 0 .u).int.toNat, ⟨0, all, { S.2 with cs := S.2.cs ++ (⟨4, S.1⟩ :: List.replicate l.length ⟨0, 0⟩) }, Nat.zero_le _, ?_, hsv, y2, by simp; omega, by simp; omega, hys, rfl⟩, ?_⟩
    · simp only [X.evs, q00, go_br, q01, q02, allSay, X.says, X.ev, X.evs, evl, tblS, List.getD_cons_zero, List.getD_cons_succ, List.getElem?_cons_zero, List.getElem?_cons_succ, tt_b, int_i, str_s, rs_r, Option.isSome_some, Option.getD_some, decide_eq_true_eq, decide_eq_false_iff_not, dS_eS, dC_eC, dU_eU, dW_eW, dY_eY, eC_0, eC_1, eU_0, eU_1, eW_0, eW_1, eW_2, eY_0, eY_1, eS_0, eS_1, eS_2, eS_3, eS_4, eS_5, List.length_map, i_inj, b_inj, s_inj, eC_eq, eU_eq, eW_eq, eY_eq, eS_eq, rng64, List.take_succ_cons, List.take_zero, List.nil_append, List.cons_append, decide_true, decide_false, Bool.or_true, true_and, and_true, dT_eT, eT_0, eT_1, eT_2, eT_3, eT_eq, eT_z, Te.k, Te.n, Te.s, Te.l, eC_mk, hS, cs_app, Int.toNat_natCast, hz, cs_apps]
      simp [eS, D.fs]
    rintro st - ⟨k, al, s', hk, rfl, hsv', hmx', hc', hb', hy', hP⟩
    rw [go_br]
    refine ⟨fun hlt => ?_, fun hlt => ?_⟩
    · simp only [q00, go_br, q01, q02, allSay, X.says, X.ev, X.evs, evl, tblS, List.getD_cons_zero, List.getD_cons_succ, List.getElem?_cons_zero, List.getElem?_cons_succ, tt_b, int_i, str_s, rs_r, Option.isSome_some, Option.getD_some, decide_eq_true_eq, decide_eq_false_iff_not, dS_eS, dC_eC, dU_eU, dW_eW, dY_eY, eC_0, eC_1, eU_0, eU_1, eW_0, eW_1, eW_2, eY_0, eY_1, eS_0, eS_1, eS_2, eS_3, eS_4, eS_5, List.length_map, i_inj, b_inj, s_inj, eC_eq, eU_eq, eW_eq, eY_eq, eS_eq, rng64, List.take_succ_cons, List.take_zero, List.nil_append, List.cons_append, decide_true, decide_false, Bool.or_true, true_and, and_true, dT_eT, eT_0, eT_1, eT_2, eT_3, eT_eq, eT_z, Te.l] at hlt
      have hkl : k < l.length := by omega
      have ha := arg_sz (t := .mk 3 n nm l) hkl
      simp only [Te.l] at ha
      have hto : ((S.2.cs.length : Int) + 1 + (k : Int)) = ((S.2.cs.length + 1 + k : Nat) : Int) := by omega
      have hdr := drop_get' hkl
      rw [hdr, cntTs] at hc'
      rw [hdr, symsTs] at hy'
      rw [hdr, addAs] at hP
      have hsy := Nat.le_trans (symsTs_len (l.drop (k + 1)) (symsT s'.ys (l.getD k default))) hy'
      have hnk := hnl.2 k hkl
      simp only [Te.l] at hnk
      have hQ : addQ s' al (l.getD k default) ((S.2.cs.length + 1 + k : Nat) : Int) = true := by
        have h0 : ¬ (((S.2.cs.length + 1 + k : Nat) : Int) < 0) := by omega
        simp only [addQ, if_neg h0, Bool.and_eq_true, decide_eq_true_eq]
        exact ⟨hnk, hsv', by omega, by omega, hsy, by omega⟩
      obtain ⟨g1, g2, g3, g4⟩ := addD_len (l.getD k default) (s', al) ((S.2.cs.length + 1 + k : Nat) : Int) hnk hsv'
      rw [if_neg (by omega)] at g1
      simp only [q00, go_br, q01, q02, allSay, X.says, X.ev, X.evs, evl, tblS, List.getD_cons_zero, List.getD_cons_succ, List.getElem?_cons_zero, List.getElem?_cons_succ, tt_b, int_i, str_s, rs_r, Option.isSome_some, Option.getD_some, decide_eq_true_eq, decide_eq_false_iff_not, dS_eS, dC_eC, dU_eU, dW_eW, dY_eY, eC_0, eC_1, eU_0, eU_1, eW_0, eW_1, eW_2, eY_0, eY_1, eS_0, eS_1, eS_2, eS_3, eS_4, eS_5, List.length_map, i_inj, b_inj, s_inj, eC_eq, eU_eq, eW_eq, eY_eq, eS_eq, rng64, List.take_succ_cons, List.take_zero, List.nil_append, List.cons_append, decide_true, decide_false, Bool.or_true, true_and, and_true, dT_eT, eT_0, eT_1, eT_2, eT_3, eT_eq, eT_z, Te.k, Te.n, Te.s, Te.l, hS, get_t hkl, hto, cutM, mT, gAdd, dVs_eVs, if_pos hQ, if_pos (show szT (l.getD k default) < N by omega)]
      generalize addD (s', al) (l.getD k default) ((S.2.cs.length + 1 + k : Nat) : Int) = R at g1 g2 g3 g4 hP ⊢
      simp only at g1
      simp only [q00, go_br, q01, q02, allSay, X.says, X.ev, X.evs, evl, tblS, List.getD_cons_zero, List.getD_cons_succ, List.getElem?_cons_zero, List.getElem?_cons_succ, tt_b, int_i, str_s, rs_r, Option.isSome_some, Option.getD_some, decide_eq_true_eq, decide_eq_false_iff_not, dS_eS, dC_eC, dU_eU, dW_eW, dY_eY, eC_0, eC_1, eU_0, eU_1, eW_0, eW_1, eW_2, eY_0, eY_1, eS_0, eS_1, eS_2, eS_3, eS_4, eS_5, List.length_map, i_inj, b_inj, s_inj, eC_eq, eU_eq, eW_eq, eY_eq, eS_eq, rng64, List.take_succ_cons, List.take_zero, List.nil_append, List.cons_append, decide_true, decide_false, Bool.or_true, true_and, and_true, dT_eT, eT_0, eT_1, eT_2, eT_3, eT_eq, eT_z, Int.toNat_natCast, set_cs]
      refine ⟨⟨by omega, by omega⟩, ⟨⟨by omega, by omega⟩, by omega, by omega⟩, ⟨by omega, by omega⟩, ⟨by omega, by omega⟩, ?_⟩
      rw [updB, if_pos rfl]
      refine ⟨⟨k + 1, R.2.2, setC R.2.1 (S.2.cs.length + 1 + k) R.1, by omega, by simp, g4, g3.1.trans hmx', ?_, ?_, ?_, hP⟩, ?_⟩
      · rw [setC_len, g1]
        omega
      · rw [setC_len, g1]
        omega
      · show (symsTs R.2.1.ys _).length ≤ _
        rw [g2]
        exact hy'
      · simp [D.int]
        omega
    · simp only [q00, go_br, q01, q02, allSay, X.says, X.ev, X.evs, evl, tblS, List.getD_cons_zero, List.getD_cons_succ, List.getElem?_cons_zero, List.getElem?_cons_succ, tt_b, int_i, str_s, rs_r, Option.isSome_some, Option.getD_some, decide_eq_true_eq, decide_eq_false_iff_not, dS_eS, dC_eC, dU_eU, dW_eW, dY_eY, eC_0, eC_1, eU_0, eU_1, eW_0, eW_1, eW_2, eY_0, eY_1, eS_0, eS_1, eS_2, eS_3, eS_4, eS_5, List.length_map, i_inj, b_inj, s_inj, eC_eq, eU_eq, eW_eq, eY_eq, eS_eq, rng64, List.take_succ_cons, List.take_zero, List.nil_append, List.cons_append, decide_true, decide_false, Bool.or_true, true_and, and_true, dT_eT, eT_0, eT_1, eT_2, eT_3, eT_eq, eT_z, Te.l] at hlt
      have : k = l.length := by omega
      subst this
      rw [List.drop_length, addAs] at hP
      simp only [q00, go_br, q01, q02, allSay, X.says, X.ev, X.evs, evl, tblS, List.getD_cons_zero, List.getD_cons_succ, List.getElem?_cons_zero, List.getElem?_cons_succ, tt_b, int_i, str_s, rs_r, Option.isSome_some, Option.getD_some, decide_eq_true_eq, decide_eq_false_iff_not, dS_eS, dC_eC, dU_eU, dW_eW, dY_eY, eC_0, eC_1, eU_0, eU_1, eW_0, eW_1, eW_2, eY_0, eY_1, eS_0, eS_1, eS_2, eS_3, eS_4, eS_5, List.length_map, i_inj, b_inj, s_inj, eC_eq, eU_eq, eW_eq, eY_eq, eS_eq, rng64, List.take_succ_cons, List.take_zero, List.nil_append, List.cons_append, decide_true, decide_false, Bool.or_true, true_and, and_true, dT_eT, eT_0, eT_1, eT_2, eT_3, eT_eq, eT_z, Te.k, Te.n, Te.s, Te.l, eC_mk, hS, ← hP]
end Go.Proofs.Ytinclokohcommaa


namespace Go.Proofs.Ytinclokohcommaa
open Go.RowKit
set_option linter.unusedVariables false
set_option linter.unusedSimpArgs false

def putV (s : So) (t : Te) (l : List Vc) : Ce × List Vc × Int × So :=
  if validT t && vvP s l then (if roomB s t l then ((addD (s, l) t (-1)).1, (addD (s, l) t (-1)).2.2, 0, (addD (s, l) t (-1)).2.1) else (⟨0, 0⟩, [], 13, s)) else (⟨0, 0⟩, [], 1, s)
def gPut : List D → Option (List D)
  | [s, t, l] => if validR (dS s) then some [eC (putV (dS s) (dT t) (dVs l)).1, .r ((putV (dS s) (dT t) (dVs l)).2.1.map eV), .i (putV (dS s) (dT t) (dVs l)).2.2.1, eS (putV (dS s) (dT t) (dVs l)).2.2.2] else none
  | _ => none
theorem vr_hd {s : So} (h : validR s = true) : 1 ≤ s.mx ∧ s.mx ≤ 1048576 ∧ (s.cs.length : Int) ≤ s.mx ∧ s.ys.length ≤ 1048576 := by
  have h := vr_head h
  simp only [headB, symsB, Bool.and_eq_true, decide_eq_true_eq] at h
  omega
theorem room_add {s : So} {t : Te} {l : List Vc} (hs : validR s = true) (ht : validT t = true) (hl : vvP s l = true) (hr : roomB s t l = true) : addQ s l t (-1) = true := by
  obtain ⟨h1, h2, h3, h4⟩ := vr_hd hs
  simp only [validT, Bool.and_eq_true, decide_eq_true_eq] at ht
  simp only [roomB, Bool.and_eq_true, decide_eq_true_eq] at hr
  have hv := visM_T t s.ys []
  rw [List.append_nil] at hv
  have hv' := congrArg List.length hv
  rw [List.length_append] at hv'
  simp only [addQ, Bool.and_eq_true, decide_eq_true_eq]
  exact ⟨ht.2, (vvP_iff.1 hl).1, by rw [if_pos (by decide)]; omega, h2, by omega, by decide⟩
theorem ok_cells_Put : FOk q1m gPut := fok_cells_Put ok_cells_Put_1 ok_term_Valid ok_cells_validVars ok_cells_room ok_slices_Clone_VarCell fun ds outs hw hg => by
  obtain ⟨d, r, rfl, hd, e, r', rfl, he, f, r2, rfl, hf, rfl⟩ := hw
  obtain ⟨s, rfl, hs⟩ := wfS hd
  obtain ⟨t, rfl, ht⟩ := wfT he
  obtain ⟨l, rfl, hl, hok⟩ := wfVs hf
  simp only [gPut, dS_eS, dT_eT, dVs_eVs, Option.ite_none_right_eq_some, Option.some.injEq] at hg
  obtain ⟨hv, rfl⟩ := hg
  obtain ⟨h1, h2, h3, h4⟩ := vr_hd hv
  have hz : D.a [.i 0, .i 0] = eC ⟨0, 0⟩ := rfl
  have hR : roomB s t l = true → validT t = true → vvP s l = true → addQ s l t (-1) = true := fun a b c => room_add hv b c a
  have hgr : validT t = true → vvP s l = true → gRoom [eS s, eT t, .r (l.map eV)] = some [.b (roomB s t l)] := fun a b => by
    simp only [validT, Bool.and_eq_true, decide_eq_true_eq] at a
    simp only [gRoom, dS_eS, dT_eT, dVs_eVs]
    rw [if_pos ⟨a.2, a.1, (vvP_iff.1 b).1, by omega, by omega, h4⟩]
  simp only [q47, q00, go_br, q01, q02, allSay, X.says, X.ev, X.evs, evl, tblS, List.getD_cons_zero, List.getD_cons_succ, List.getElem?_cons_zero, List.getElem?_cons_succ, tt_b, int_i, str_s, rs_r, Option.isSome_some, Option.getD_some, decide_eq_true_eq, decide_eq_false_iff_not, dS_eS, dC_eC, dU_eU, dW_eW, dY_eY, eC_0, eC_1, eU_0, eU_1, eW_0, eW_1, eW_2, eY_0, eY_1, eS_0, eS_1, eS_2, eS_3, eS_4, eS_5, List.length_map, i_inj, b_inj, s_inj, eC_eq, eU_eq, eW_eq, eY_eq, eS_eq, rng64, List.take_succ_cons, List.take_zero, List.nil_append, List.cons_append, decide_true, decide_false, Bool.or_true, true_and, and_true, dT_eT, eT_0, eT_1, eT_2, eT_3, eT_eq, eT_z, gTb, gVV, gCl, rowQ_r, hl, hz, dVs_eVs, putV]
  cases hvt : validT t
  · simp
  cases hvl : vvP s l
  · simp
  simp only [hgr hvt hvl]
  cases hrm : roomB s t l
  · simp [D.tt]
  simp [gAdd, dS_eS, dT_eT, dVs_eVs, D.int, D.tt, hR hrm hvt hvl]
end Go.Proofs.Ytinclokohcommaa


namespace Go.Proofs.Ytinclokohcommaa
open Go.RowKit
set_option linter.unusedVariables false
set_option maxRecDepth 100000

def q0i : Ct := ⟨107, [.val (.row 2), .val (.int .i64)], [(.int .i64, false)], [], none⟩
theorem enter_ref03_position (args : Array Value) (w : World) : (callFunc q0i.f args).run Try.prog w = .ok (.enter q0i.f args) w := by kernel_rfl
def q5m : Ann := ⟨[0, 1, 4, 5, 9, 17], [(2, ⟨[(4, .int .i64, false), (5, .int .i64, false)], [], [6, 7, 8, 9, 12, 13, 14, 15, 16, 17, 18, 10, 11], []⟩)]⟩
def q3k : Tree := (.loop 2 2 [(.lit (.i 0)), (.lit (.i 0))] (.br (.lt (.tok 3) (.len (.tok 0))) (.need [(.le (.lit (.i 0)) (.tok 3)), (.lt (.tok 3) (.len (.tok 0)))] (.br (.eq (.get (.tok 0) (.tok 3)) (.tok 1)) (.leaf [(.tok 3)]) (.need [(.rng .i64 (.add (.tok 3) (.lit (.i 1))))] (.back 2 [(.tok 2), (.add (.tok 3) (.lit (.i 1)))])))) (.leaf [(.lit (.i (-1)))])))
set_option maxRecDepth 100000 in
theorem code_ref03_position : ∀ cd, Try.f107.body = some cd → treeOf Try.prog [] q5m q0i Try.f107 cd = q3k := by
  intro cd h
  injection h with h
  subst h
  kernel_rfl
theorem fok_ref03_position {g : List D → Option (List D)}  (h : ∀ ds outs, WfA q0i.ars ds → g ds = some outs → q3k.go (tblS []) (fun o => o = outs) ds fun _ _ => False) : FOk q0i g :=
  q08 q5m Try.f107 _ .nil rfl rfl enter_ref03_position (by decide) fun ds outs hw hg => by rw [code_ref03_position  _ rfl]; exact h ds outs hw hg

def q0t : Ct := ⟨75, [.own (.row 2), .val (.st 42)], [(.row 2, true)], [], none⟩
theorem enter_ref03_vars (args : Array Value) (w : World) : (callFunc q0t.f args).run Try.prog w = .ok (.enter q0t.f args) w := by kernel_rfl
def ann_ref03_vars : Ann := ⟨[0, 1, 3, 4, 5, 15, 25], [(4, ⟨[(0, .row 2, false), (5, .int .i64, false)], [], [21, 22, 23, 24, 25, 28, 29, 30, 31, 32, 33, 34, 26, 27], []⟩)]⟩
def q2w : Tree := (.need [(.imp (.eq (.fld (.tok 1) 0) (.lit (.i 0))) (.ok 0 [(.tok 0), (.fld (.tok 1) 1)]))] (.br (.and (.eq (.fld (.tok 1) 0) (.lit (.i 0))) (.lt (.call 0 0 [(.tok 0), (.fld (.tok 1) 1)]) (.lit (.i 0)))) (.need [(.le (.add (.len (.tok 0)) (.lit (.i 1))) (.lit (.i 17592186043904)))] (.loop 4 2 [(.app (.tok 0) (.row [(.fld (.tok 1) 1)])), (.lit (.i 0))] (.br (.lt (.tok 3) (.len (.fld (.tok 1) 3))) (.need [(.le (.lit (.i 0)) (.tok 3)), (.lt (.tok 3) (.len (.fld (.tok 1) 3))), (.ok 1 [(.tok 2), (.get (.fld (.tok 1) 3) (.tok 3))])] (.need [(.rng .i64 (.add (.tok 3) (.lit (.i 1))))] (.back 4 [(.call 1 0 [(.tok 2), (.get (.fld (.tok 1) 3) (.tok 3))]), (.add (.tok 3) (.lit (.i 1)))]))) (.leaf [(.tok 2)])))) (.loop 4 2 [(.tok 0), (.lit (.i 0))] (.br (.lt (.tok 3) (.len (.fld (.tok 1) 3))) (.need [(.le (.lit (.i 0)) (.tok 3)), (.lt (.tok 3) (.len (.fld (.tok 1) 3))), (.ok 1 [(.tok 2), (.get (.fld (.tok 1) 3) (.tok 3))])] (.need [(.rng .i64 (.add (.tok 3) (.lit (.i 1))))] (.back 4 [(.call 1 0 [(.tok 2), (.get (.fld (.tok 1) 3) (.tok 3))]), (.add (.tok 3) (.lit (.i 1)))]))) (.leaf [(.tok 2)])))))
set_option maxRecDepth 100000 in
theorem code_ref03_vars (g0 g1 : List D → Option (List D)) : ∀ cd, Try.f75.body = some cd → treeOf Try.prog [(q0i, g0), (q0t, g1)] ann_ref03_vars q0t Try.f75 cd = q2w := by
  intro cd h
  injection h with h
  subst h
  kernel_rfl
theorem fok_ref03_vars {g0 g1 : List D → Option (List D)} {g : List D → Option (List D)} (h0 : FOk q0i g0) (h1 : FOk q0t g1) (h : ∀ ds outs, WfA q0t.ars ds → g ds = some outs → q2w.go (tblS [(q0i, g0), (q0t, g1)]) (fun o => o = outs) ds fun _ _ => False) : FOk q0t g :=
  q08 ann_ref03_vars Try.f75 _ (.cons h0 (.cons h1 .nil)) rfl rfl enter_ref03_vars (by decide) fun ds outs hw hg => by rw [code_ref03_vars g0 g1 _ rfl]; exact h ds outs hw hg

def q29 : Ct := ⟨32, [.val (.st 42)], [(.row 2, true)], [], none⟩
theorem enter_ref03_Vars (args : Array Value) (w : World) : (callFunc q29.f args).run Try.prog w = .ok (.enter q29.f args) w := by kernel_rfl
def ann_ref03_Vars : Ann := ⟨[0, 1, 2, 5], []⟩
def q4w : Tree := (.need [(.ok 0 [(.tok 0)])] (.br (.not (.call 0 0 [(.tok 0)])) (.leaf [(.lit (.r []))]) (.need [(.ok 1 [(.lit (.r [])), (.tok 0)])] (.leaf [(.call 1 0 [(.lit (.r [])), (.tok 0)])]))))
set_option maxRecDepth 100000 in
theorem code_ref03_Vars (g0 g1 : List D → Option (List D)) : ∀ cd, Try.f32.body = some cd → treeOf Try.prog [(q0e, g0), (q0t, g1)] ann_ref03_Vars q29 Try.f32 cd = q4w := by
  intro cd h
  injection h with h
  subst h
  kernel_rfl
theorem fok_ref03_Vars {g0 g1 : List D → Option (List D)} {g : List D → Option (List D)} (h0 : FOk q0e g0) (h1 : FOk q0t g1) (h : ∀ ds outs, WfA q29.ars ds → g ds = some outs → q4w.go (tblS [(q0e, g0), (q0t, g1)]) (fun o => o = outs) ds fun _ _ => False) : FOk q29 g :=
  q08 ann_ref03_Vars Try.f32 _ (.cons h0 (.cons h1 .nil)) rfl rfl enter_ref03_Vars (by decide) fun ds outs hw hg => by rw [code_ref03_Vars g0 g1 _ rfl]; exact h ds outs hw hg

def q0w : Ct := ⟨88, [.val (.row 2), .val (.st 42)], [(.st 42, false)], [], none⟩
theorem q5k (args : Array Value) (w : World) : (callFunc q0w.f args).run Try.prog w = .ok (.enter q0w.f args) w := by kernel_rfl
def ann_ref03_number : Ann := ⟨[0, 1, 3, 4, 5, 6, 16, 26], [(5, ⟨[(6, .int .i64, false)], [5], [22, 23, 24, 25, 26, 29, 30, 31, 32, 33, 34, 35, 36, 37, 38, 39, 40, 27, 28], []⟩)]⟩
def q2l : Tree := (.br (.eq (.fld (.tok 1) 0) (.lit (.i 0))) (.need [(.ok 0 [(.tok 0), (.fld (.tok 1) 1)])] (.loop 5 2 [(.lit (.i 0)), (.set (.set (.set (.set (.lit (.a [(.i 0), (.i 0), (.s ⟨#[]⟩), (.r [])])) 0 (.fld (.tok 1) 0)) 1 (.fld (.tok 1) 1)) 2 (.fld (.tok 1) 2)) 1 (.call 0 0 [(.tok 0), (.fld (.tok 1) 1)]))] (.br (.lt (.tok 2) (.len (.fld (.tok 1) 3))) (.need [(.le (.lit (.i 0)) (.tok 2)), (.lt (.tok 2) (.len (.fld (.tok 1) 3))), (.ok 1 [(.tok 0), (.get (.fld (.tok 1) 3) (.tok 2))]), (.le (.add (.len (.fld (.tok 3) 3)) (.lit (.i 1))) (.lit (.i 2513169434843)))] (.need [(.rng .i64 (.add (.tok 2) (.lit (.i 1))))] (.back 5 [(.add (.tok 2) (.lit (.i 1))), (.set (.tok 3) 3 (.app (.fld (.tok 3) 3) (.row [(.call 1 0 [(.tok 0), (.get (.fld (.tok 1) 3) (.tok 2))])])))]))) (.leaf [(.tok 3)])))) (.loop 5 2 [(.lit (.i 0)), (.set (.set (.set (.lit (.a [(.i 0), (.i 0), (.s ⟨#[]⟩), (.r [])])) 0 (.fld (.tok 1) 0)) 1 (.fld (.tok 1) 1)) 2 (.fld (.tok 1) 2))] (.br (.lt (.tok 2) (.len (.fld (.tok 1) 3))) (.need [(.le (.lit (.i 0)) (.tok 2)), (.lt (.tok 2) (.len (.fld (.tok 1) 3))), (.ok 1 [(.tok 0), (.get (.fld (.tok 1) 3) (.tok 2))]), (.le (.add (.len (.fld (.tok 3) 3)) (.lit (.i 1))) (.lit (.i 2513169434843)))] (.need [(.rng .i64 (.add (.tok 2) (.lit (.i 1))))] (.back 5 [(.add (.tok 2) (.lit (.i 1))), (.set (.tok 3) 3 (.app (.fld (.tok 3) 3) (.row [(.call 1 0 [(.tok 0), (.get (.fld (.tok 1) 3) (.tok 2))])])))]))) (.leaf [(.tok 3)]))))
set_option maxRecDepth 100000 in
theorem code_ref03_number (g0 g1 : List D → Option (List D)) : ∀ cd, Try.f88.body = some cd → treeOf Try.prog [(q0i, g0), (q0w, g1)] ann_ref03_number q0w Try.f88 cd = q2l := by
  intro cd h
  injection h with h
  subst h
  kernel_rfl
theorem fok_ref03_number {g0 g1 : List D → Option (List D)} {g : List D → Option (List D)} (h0 : FOk q0i g0) (h1 : FOk q0w g1) (h : ∀ ds outs, WfA q0w.ars ds → g ds = some outs → q2l.go (tblS [(q0i, g0), (q0w, g1)]) (fun o => o = outs) ds fun _ _ => False) : FOk q0w g :=
  q08 ann_ref03_number Try.f88 _ (.cons h0 (.cons h1 .nil)) rfl rfl q5k (by decide) fun ds outs hw hg => by rw [code_ref03_number g0 g1 _ rfl]; exact h ds outs hw hg

def q23 : Ct := ⟨42, [.val (.st 42)], [(.st 42, false)], [], none⟩
theorem enter_ref03_Canon (args : Array Value) (w : World) : (callFunc q23.f args).run Try.prog w = .ok (.enter q23.f args) w := by kernel_rfl
def ann_ref03_Canon : Ann := ⟨[0, 1, 2, 5], []⟩
def q4m : Tree := (.need [(.ok 0 [(.tok 0)])] (.br (.not (.call 0 0 [(.tok 0)])) (.leaf [(.lit (.a [(.i 0), (.i 0), (.s ⟨#[]⟩), (.r [])]))]) (.need [(.ok 2 [(.call 1 0 [(.lit (.r [])), (.tok 0)]), (.tok 0)]), (.ok 1 [(.lit (.r [])), (.tok 0)])] (.leaf [(.call 2 0 [(.call 1 0 [(.lit (.r [])), (.tok 0)]), (.tok 0)])]))))
set_option maxRecDepth 100000 in
theorem code_ref03_Canon (g0 g1 g2 : List D → Option (List D)) : ∀ cd, Try.f42.body = some cd → treeOf Try.prog [(q0e, g0), (q0t, g1), (q0w, g2)] ann_ref03_Canon q23 Try.f42 cd = q4m := by
  intro cd h
  injection h with h
  subst h
  kernel_rfl
theorem fok_ref03_Canon {g0 g1 g2 : List D → Option (List D)} {g : List D → Option (List D)} (h0 : FOk q0e g0) (h1 : FOk q0t g1) (h2 : FOk q0w g2) (h : ∀ ds outs, WfA q23.ars ds → g ds = some outs → q4m.go (tblS [(q0e, g0), (q0t, g1), (q0w, g2)]) (fun o => o = outs) ds fun _ _ => False) : FOk q23 g :=
  q08 ann_ref03_Canon Try.f42 _ (.cons h0 (.cons h1 (.cons h2 .nil))) rfl rfl enter_ref03_Canon (by decide) fun ds outs hw hg => by rw [code_ref03_Canon g0 g1 g2 _ rfl]; exact h ds outs hw hg

def q0h : Ct := ⟨86, [.val (.st 42), .val (.int .i64)], [(.int .i64, false)], [], none⟩
theorem q4b (args : Array Value) (w : World) : (callFunc q0h.f args).run Try.prog w = .ok (.enter q0h.f args) w := by kernel_rfl
def q4v : Ann := ⟨[0, 1, 2, 4, 5, 6, 15, 20], [(5, ⟨[(5, .int .i64, false), (6, .int .i64, false)], [], [16, 17, 18, 19, 20, 23, 24, 25, 26, 27, 28, 29, 30, 31, 21, 22], []⟩)]⟩
def q2y : Tree := (.br (.and (.eq (.fld (.tok 0) 0) (.lit (.i 0))) (.eq (.fld (.tok 0) 1) (.tok 1))) (.loop 5 2 [(.lit (.i 1)), (.lit (.i 0))] (.br (.lt (.tok 3) (.len (.fld (.tok 0) 3))) (.need [(.le (.lit (.i 0)) (.tok 3)), (.lt (.tok 3) (.len (.fld (.tok 0) 3))), (.ok 0 [(.get (.fld (.tok 0) 3) (.tok 3)), (.tok 1)]), (.rng .i64 (.add (.tok 2) (.call 0 0 [(.get (.fld (.tok 0) 3) (.tok 3)), (.tok 1)])))] (.need [(.rng .i64 (.add (.tok 3) (.lit (.i 1))))] (.back 5 [(.add (.tok 2) (.call 0 0 [(.get (.fld (.tok 0) 3) (.tok 3)), (.tok 1)])), (.add (.tok 3) (.lit (.i 1)))]))) (.leaf [(.tok 2)]))) (.loop 5 2 [(.lit (.i 0)), (.lit (.i 0))] (.br (.lt (.tok 3) (.len (.fld (.tok 0) 3))) (.need [(.le (.lit (.i 0)) (.tok 3)), (.lt (.tok 3) (.len (.fld (.tok 0) 3))), (.ok 0 [(.get (.fld (.tok 0) 3) (.tok 3)), (.tok 1)]), (.rng .i64 (.add (.tok 2) (.call 0 0 [(.get (.fld (.tok 0) 3) (.tok 3)), (.tok 1)])))] (.need [(.rng .i64 (.add (.tok 3) (.lit (.i 1))))] (.back 5 [(.add (.tok 2) (.call 0 0 [(.get (.fld (.tok 0) 3) (.tok 3)), (.tok 1)])), (.add (.tok 3) (.lit (.i 1)))]))) (.leaf [(.tok 2)]))))
set_option maxRecDepth 100000 in
theorem code_ref03_Occurrences (g0 : List D → Option (List D)) : ∀ cd, Try.f86.body = some cd → treeOf Try.prog [(q0h, g0)] q4v q0h Try.f86 cd = q2y := by
  intro cd h
  injection h with h
  subst h
  kernel_rfl
theorem fok_ref03_Occurrences {g0 : List D → Option (List D)} {g : List D → Option (List D)} (h0 : FOk q0h g0) (h : ∀ ds outs, WfA q0h.ars ds → g ds = some outs → q2y.go (tblS [(q0h, g0)]) (fun o => o = outs) ds fun _ _ => False) : FOk q0h g :=
  q08 q4v Try.f86 _ (.cons h0 .nil) rfl rfl q4b (by decide) fun ds outs hw hg => by rw [code_ref03_Occurrences g0 _ rfl]; exact h ds outs hw hg

def q18 : Ct := ⟨109, [.val (.st 42)], [(.st 42, false)], [], none⟩
theorem q5l (args : Array Value) (w : World) : (callFunc q18.f args).run Try.prog w = .ok (.enter q18.f args) w := by kernel_rfl
def ann_ref03_copied : Ann := ⟨[0, 1, 2, 3, 4, 16], [(3, ⟨[(4, .int .i64, false)], [3], [12, 13, 14, 15, 16, 19, 20, 21, 22, 23, 24, 25, 26, 27, 28, 29, 17, 18], []⟩)]⟩
def q4h : Tree := (.loop 3 1 [(.lit (.i 0)), (.set (.set (.set (.lit (.a [(.i 0), (.i 0), (.s ⟨#[]⟩), (.r [])])) 0 (.fld (.tok 0) 0)) 1 (.fld (.tok 0) 1)) 2 (.fld (.tok 0) 2))] (.br (.lt (.tok 1) (.len (.fld (.tok 0) 3))) (.need [(.le (.lit (.i 0)) (.tok 1)), (.lt (.tok 1) (.len (.fld (.tok 0) 3))), (.ok 0 [(.get (.fld (.tok 0) 3) (.tok 1))]), (.le (.add (.len (.fld (.tok 2) 3)) (.lit (.i 1))) (.lit (.i 2513169434843)))] (.need [(.rng .i64 (.add (.tok 1) (.lit (.i 1))))] (.back 3 [(.add (.tok 1) (.lit (.i 1))), (.set (.tok 2) 3 (.app (.fld (.tok 2) 3) (.row [(.call 0 0 [(.get (.fld (.tok 0) 3) (.tok 1))])])))]))) (.leaf [(.tok 2)])))
set_option maxRecDepth 100000 in
theorem code_ref03_copied (g0 : List D → Option (List D)) : ∀ cd, Try.f109.body = some cd → treeOf Try.prog [(q18, g0)] ann_ref03_copied q18 Try.f109 cd = q4h := by
  intro cd h
  injection h with h
  subst h
  kernel_rfl
theorem fok_ref03_copied {g0 : List D → Option (List D)} {g : List D → Option (List D)} (h0 : FOk q18 g0) (h : ∀ ds outs, WfA q18.ars ds → g ds = some outs → q4h.go (tblS [(q18, g0)]) (fun o => o = outs) ds fun _ _ => False) : FOk q18 g :=
  q08 ann_ref03_copied Try.f109 _ (.cons h0 .nil) rfl rfl q5l (by decide) fun ds outs hw hg => by rw [code_ref03_copied g0 _ rfl]; exact h ds outs hw hg

def q1t : Ct := ⟨87, [.val (.st 42), .val (.int .i64), .val (.st 42)], [(.st 42, false)], [], none⟩
theorem enter_ref03_put (args : Array Value) (w : World) : (callFunc q1t.f args).run Try.prog w = .ok (.enter q1t.f args) w := by kernel_rfl
def ann_ref03_put : Ann := ⟨[0, 1, 2, 3, 5, 6, 7, 8, 17, 31], [(5, ⟨[(8, .int .i64, false)], [7], [27, 28, 29, 30, 31, 34, 35, 36, 37, 38, 39, 40, 41, 42, 43, 44, 45, 46, 32, 33], []⟩)]⟩
def q5e : Tree := (.br (.and (.eq (.fld (.tok 0) 0) (.lit (.i 0))) (.eq (.fld (.tok 0) 1) (.tok 1))) (.need [(.ok 0 [(.tok 2)])] (.leaf [(.call 0 0 [(.tok 2)])])) (.loop 5 3 [(.lit (.i 0)), (.set (.set (.set (.lit (.a [(.i 0), (.i 0), (.s ⟨#[]⟩), (.r [])])) 0 (.fld (.tok 0) 0)) 1 (.fld (.tok 0) 1)) 2 (.fld (.tok 0) 2))] (.br (.lt (.tok 3) (.len (.fld (.tok 0) 3))) (.need [(.le (.lit (.i 0)) (.tok 3)), (.lt (.tok 3) (.len (.fld (.tok 0) 3))), (.ok 1 [(.get (.fld (.tok 0) 3) (.tok 3)), (.tok 1), (.tok 2)]), (.le (.add (.len (.fld (.tok 4) 3)) (.lit (.i 1))) (.lit (.i 2513169434843)))] (.need [(.rng .i64 (.add (.tok 3) (.lit (.i 1))))] (.back 5 [(.add (.tok 3) (.lit (.i 1))), (.set (.tok 4) 3 (.app (.fld (.tok 4) 3) (.row [(.call 1 0 [(.get (.fld (.tok 0) 3) (.tok 3)), (.tok 1), (.tok 2)])])))]))) (.leaf [(.tok 4)]))))
set_option maxRecDepth 100000 in
theorem code_ref03_put (g0 g1 : List D → Option (List D)) : ∀ cd, Try.f87.body = some cd → treeOf Try.prog [(q18, g0), (q1t, g1)] ann_ref03_put q1t Try.f87 cd = q5e := by
  intro cd h
  injection h with h
  subst h
  kernel_rfl
theorem fok_ref03_put {g0 g1 : List D → Option (List D)} {g : List D → Option (List D)} (h0 : FOk q18 g0) (h1 : FOk q1t g1) (h : ∀ ds outs, WfA q1t.ars ds → g ds = some outs → q5e.go (tblS [(q18, g0), (q1t, g1)]) (fun o => o = outs) ds fun _ _ => False) : FOk q1t g :=
  q08 ann_ref03_put Try.f87 _ (.cons h0 (.cons h1 .nil)) rfl rfl enter_ref03_put (by decide) fun ds outs hw hg => by rw [code_ref03_put g0 g1 _ rfl]; exact h ds outs hw hg

def q1o : Ct := ⟨41, [.val (.st 42), .val (.int .i64), .val (.st 42)], [(.st 42, false), (.int .i64, false)], [], none⟩
theorem enter_ref03_Replace (args : Array Value) (w : World) : (callFunc q1o.f args).run Try.prog w = .ok (.enter q1o.f args) w := by kernel_rfl
def ann_ref03_Replace : Ann := ⟨[0, 1, 2, 3, 5, 6, 7, 23, 35], []⟩
def q42 : Tree := (.need [(.ok 0 [(.tok 0)]), (.imp (.not (.or (.or (.not (.call 0 0 [(.tok 0)])) (.lt (.tok 1) (.lit (.i 0)))) (.lt (.lit (.i 1099511627776)) (.tok 1)))) (.ok 0 [(.tok 2)]))] (.br (.or (.or (.or (.not (.call 0 0 [(.tok 0)])) (.lt (.tok 1) (.lit (.i 0)))) (.lt (.lit (.i 1099511627776)) (.tok 1))) (.not (.call 0 0 [(.tok 2)]))) (.leaf [(.lit (.a [(.i 0), (.i 0), (.s ⟨#[]⟩), (.r [])])), (.lit (.i 1))]) (.need [(.ok 1 [(.tok 2)]), (.rng .i64 (.add (.call 1 0 [(.tok 0)]) (.mul (.call 2 0 [(.tok 0), (.tok 1)]) (.sub (.call 1 0 [(.tok 2)]) (.lit (.i 1)))))), (.rng .i64 (.mul (.call 2 0 [(.tok 0), (.tok 1)]) (.sub (.call 1 0 [(.tok 2)]) (.lit (.i 1))))), (.rng .i64 (.sub (.call 1 0 [(.tok 2)]) (.lit (.i 1)))), (.ok 2 [(.tok 0), (.tok 1)]), (.ok 1 [(.tok 0)])] (.br (.lt (.lit (.i 2000)) (.add (.call 1 0 [(.tok 0)]) (.mul (.call 2 0 [(.tok 0), (.tok 1)]) (.sub (.call 1 0 [(.tok 2)]) (.lit (.i 1)))))) (.leaf [(.lit (.a [(.i 0), (.i 0), (.s ⟨#[]⟩), (.r [])])), (.lit (.i 2))]) (.need [(.ok 3 [(.tok 0), (.tok 1), (.tok 2)])] (.leaf [(.call 3 0 [(.tok 0), (.tok 1), (.tok 2)]), (.lit (.i 0))]))))))
set_option maxRecDepth 100000 in
theorem code_ref03_Replace (g0 g1 g2 g3 : List D → Option (List D)) : ∀ cd, Try.f41.body = some cd → treeOf Try.prog [(q0e, g0), (q0s, g1), (q0h, g2), (q1t, g3)] ann_ref03_Replace q1o Try.f41 cd = q42 := by
  intro cd h
  injection h with h
  subst h
  kernel_rfl
theorem fok_ref03_Replace {g0 g1 g2 g3 : List D → Option (List D)} {g : List D → Option (List D)} (h0 : FOk q0e g0) (h1 : FOk q0s g1) (h2 : FOk q0h g2) (h3 : FOk q1t g3) (h : ∀ ds outs, WfA q1o.ars ds → g ds = some outs → q42.go (tblS [(q0e, g0), (q0s, g1), (q0h, g2), (q1t, g3)]) (fun o => o = outs) ds fun _ _ => False) : FOk q1o g :=
  q08 ann_ref03_Replace Try.f41 _ (.cons h0 (.cons h1 (.cons h2 (.cons h3 .nil)))) rfl rfl enter_ref03_Replace (by decide) fun ds outs hw hg => by rw [code_ref03_Replace g0 g1 g2 g3 _ rfl]; exact h ds outs hw hg

def q24 : Ct := ⟨10, [.val (.st 26), .val (.st 36), .val (.st 42)], [(.bool, false)], [], none⟩
theorem enter_law30_CellsGiven (args : Array Value) (w : World) : (callFunc q24.f args).run Try.prog w = .ok (.enter q24.f args) w := by kernel_rfl
def q4x : Ann := ⟨[0, 1, 2, 3, 4, 5, 6, 7, 8, 9, 10, 11, 12, 13, 14, 15, 41, 59, 74], []⟩
def q32 : Tree := (.need [(.ok 0 [(.tok 0)]), (.imp (.not (.not (.call 0 0 [(.tok 0)]))) (.ok 1 [(.tok 0), (.tok 1)])), (.imp (.not (.or (.not (.call 0 0 [(.tok 0)])) (.not (.call 1 0 [(.tok 0), (.tok 1)])))) (.ok 2 [(.tok 2)])), (.imp (.not (.or (.or (.not (.call 0 0 [(.tok 0)])) (.not (.call 1 0 [(.tok 0), (.tok 1)]))) (.not (.call 2 0 [(.tok 2)])))) (.ok 3 [(.tok 2)])), (.imp (.not (.or (.or (.or (.not (.call 0 0 [(.tok 0)])) (.not (.call 1 0 [(.tok 0), (.tok 1)]))) (.not (.call 2 0 [(.tok 2)]))) (.lt (.lit (.i 40)) (.call 3 0 [(.tok 2)])))) (.ok 4 [(.tok 2)]))] (.br (.or (.or (.or (.or (.not (.call 0 0 [(.tok 0)])) (.not (.call 1 0 [(.tok 0), (.tok 1)]))) (.not (.call 2 0 [(.tok 2)]))) (.lt (.lit (.i 40)) (.call 3 0 [(.tok 2)]))) (.not (.eq (.len (.call 4 0 [(.tok 2)])) (.lit (.i 1))))) (.need [(.ok 5 [])] (.leaf [(.call 5 0 [])])) (.need [(.ok 4 [(.tok 2)]), (.lit (.b .true)), (.lt (.lit (.i 0)) (.len (.call 4 0 [(.tok 2)])))] (.need [(.ok 6 [(.tok 0), (.tok 1)])] (.need [(.imp (.not (.not (.eq (.call 6 1 [(.tok 0), (.tok 1)]) (.lit (.i 0))))) (.ok 3 [(.call 6 0 [(.tok 0), (.tok 1)])]))] (.br (.or (.not (.eq (.call 6 1 [(.tok 0), (.tok 1)]) (.lit (.i 0)))) (.lt (.lit (.i 40)) (.call 3 0 [(.call 6 0 [(.tok 0), (.tok 1)])]))) (.need [(.ok 5 [])] (.leaf [(.call 5 0 [])])) (.need [(.ok 7 [(.tok 0)])] (.need [(.ok 8 [(.call 7 0 [(.tok 0)]), (.tok 2), (.row [(.mk [(.get (.call 4 0 [(.tok 2)]) (.lit (.i 0))), (.tok 1)])])])] (.br (.not (.eq (.call 8 2 [(.call 7 0 [(.tok 0)]), (.tok 2), (.row [(.mk [(.get (.call 4 0 [(.tok 2)]) (.lit (.i 0))), (.tok 1)])])]) (.lit (.i 0)))) (.need [(.imp (.eq (.call 8 2 [(.call 7 0 [(.tok 0)]), (.tok 2), (.row [(.mk [(.get (.call 4 0 [(.tok 2)]) (.lit (.i 0))), (.tok 1)])])]) (.lit (.i 13))) (.ok 5 []))] (.leaf [(.and (.eq (.call 8 2 [(.call 7 0 [(.tok 0)]), (.tok 2), (.row [(.mk [(.get (.call 4 0 [(.tok 2)]) (.lit (.i 0))), (.tok 1)])])]) (.lit (.i 13))) (.call 5 0 []))])) (.need [(.ok 6 [(.call 8 3 [(.call 7 0 [(.tok 0)]), (.tok 2), (.row [(.mk [(.get (.call 4 0 [(.tok 2)]) (.lit (.i 0))), (.tok 1)])])]), (.call 8 0 [(.call 7 0 [(.tok 0)]), (.tok 2), (.row [(.mk [(.get (.call 4 0 [(.tok 2)]) (.lit (.i 0))), (.tok 1)])])])])] (.need [(.ok 10 [(.call 9 0 [(.tok 2)]), (.lit (.i 0)), (.call 6 0 [(.tok 0), (.tok 1)])]), (.ok 9 [(.tok 2)]), (.ok 9 [(.tok 2)])] (.need [(.imp (.eq (.call 6 1 [(.call 8 3 [(.call 7 0 [(.tok 0)]), (.tok 2), (.row [(.mk [(.get (.call 4 0 [(.tok 2)]) (.lit (.i 0))), (.tok 1)])])]), (.call 8 0 [(.call 7 0 [(.tok 0)]), (.tok 2), (.row [(.mk [(.get (.call 4 0 [(.tok 2)]) (.lit (.i 0))), (.tok 1)])])])]) (.lit (.i 0))) (.ok 11 [(.call 6 0 [(.call 8 3 [(.call 7 0 [(.tok 0)]), (.tok 2), (.row [(.mk [(.get (.call 4 0 [(.tok 2)]) (.lit (.i 0))), (.tok 1)])])]), (.call 8 0 [(.call 7 0 [(.tok 0)]), (.tok 2), (.row [(.mk [(.get (.call 4 0 [(.tok 2)]) (.lit (.i 0))), (.tok 1)])])])]), (.call 10 0 [(.call 9 0 [(.tok 2)]), (.lit (.i 0)), (.call 6 0 [(.tok 0), (.tok 1)])])])), (.imp (.and (.eq (.call 6 1 [(.call 8 3 [(.call 7 0 [(.tok 0)]), (.tok 2), (.row [(.mk [(.get (.call 4 0 [(.tok 2)]) (.lit (.i 0))), (.tok 1)])])]), (.call 8 0 [(.call 7 0 [(.tok 0)]), (.tok 2), (.row [(.mk [(.get (.call 4 0 [(.tok 2)]) (.lit (.i 0))), (.tok 1)])])])]) (.lit (.i 0))) (.call 11 0 [(.call 6 0 [(.call 8 3 [(.call 7 0 [(.tok 0)]), (.tok 2), (.row [(.mk [(.get (.call 4 0 [(.tok 2)]) (.lit (.i 0))), (.tok 1)])])]), (.call 8 0 [(.call 7 0 [(.tok 0)]), (.tok 2), (.row [(.mk [(.get (.call 4 0 [(.tok 2)]) (.lit (.i 0))), (.tok 1)])])])]), (.call 10 0 [(.call 9 0 [(.tok 2)]), (.lit (.i 0)), (.call 6 0 [(.tok 0), (.tok 1)])])])) (.ok 12 [(.call 8 1 [(.call 7 0 [(.tok 0)]), (.tok 2), (.row [(.mk [(.get (.call 4 0 [(.tok 2)]) (.lit (.i 0))), (.tok 1)])])]), (.row [(.mk [(.get (.call 4 0 [(.tok 2)]) (.lit (.i 0))), (.tok 1)])])])), (.imp (.and (.and (.eq (.call 6 1 [(.call 8 3 [(.call 7 0 [(.tok 0)]), (.tok 2), (.row [(.mk [(.get (.call 4 0 [(.tok 2)]) (.lit (.i 0))), (.tok 1)])])]), (.call 8 0 [(.call 7 0 [(.tok 0)]), (.tok 2), (.row [(.mk [(.get (.call 4 0 [(.tok 2)]) (.lit (.i 0))), (.tok 1)])])])]) (.lit (.i 0))) (.call 11 0 [(.call 6 0 [(.call 8 3 [(.call 7 0 [(.tok 0)]), (.tok 2), (.row [(.mk [(.get (.call 4 0 [(.tok 2)]) (.lit (.i 0))), (.tok 1)])])]), (.call 8 0 [(.call 7 0 [(.tok 0)]), (.tok 2), (.row [(.mk [(.get (.call 4 0 [(.tok 2)]) (.lit (.i 0))), (.tok 1)])])])]), (.call 10 0 [(.call 9 0 [(.tok 2)]), (.lit (.i 0)), (.call 6 0 [(.tok 0), (.tok 1)])])])) (.call 12 0 [(.call 8 1 [(.call 7 0 [(.tok 0)]), (.tok 2), (.row [(.mk [(.get (.call 4 0 [(.tok 2)]) (.lit (.i 0))), (.tok 1)])])]), (.row [(.mk [(.get (.call 4 0 [(.tok 2)]) (.lit (.i 0))), (.tok 1)])])])) (.ok 13 [(.call 8 3 [(.call 7 0 [(.tok 0)]), (.tok 2), (.row [(.mk [(.get (.call 4 0 [(.tok 2)]) (.lit (.i 0))), (.tok 1)])])])])), (.imp (.and (.and (.and (.eq (.call 6 1 [(.call 8 3 [(.call 7 0 [(.tok 0)]), (.tok 2), (.row [(.mk [(.get (.call 4 0 [(.tok 2)]) (.lit (.i 0))), (.tok 1)])])]), (.call 8 0 [(.call 7 0 [(.tok 0)]), (.tok 2), (.row [(.mk [(.get (.call 4 0 [(.tok 2)]) (.lit (.i 0))), (.tok 1)])])])]) (.lit (.i 0))) (.call 11 0 [(.call 6 0 [(.call 8 3 [(.call 7 0 [(.tok 0)]), (.tok 2), (.row [(.mk [(.get (.call 4 0 [(.tok 2)]) (.lit (.i 0))), (.tok 1)])])]), (.call 8 0 [(.call 7 0 [(.tok 0)]), (.tok 2), (.row [(.mk [(.get (.call 4 0 [(.tok 2)]) (.lit (.i 0))), (.tok 1)])])])]), (.call 10 0 [(.call 9 0 [(.tok 2)]), (.lit (.i 0)), (.call 6 0 [(.tok 0), (.tok 1)])])])) (.call 12 0 [(.call 8 1 [(.call 7 0 [(.tok 0)]), (.tok 2), (.row [(.mk [(.get (.call 4 0 [(.tok 2)]) (.lit (.i 0))), (.tok 1)])])]), (.row [(.mk [(.get (.call 4 0 [(.tok 2)]) (.lit (.i 0))), (.tok 1)])])])) (.call 13 0 [(.call 8 3 [(.call 7 0 [(.tok 0)]), (.tok 2), (.row [(.mk [(.get (.call 4 0 [(.tok 2)]) (.lit (.i 0))), (.tok 1)])])])])) (.ok 5 []))] (.leaf [(.and (.and (.and (.and (.eq (.call 6 1 [(.call 8 3 [(.call 7 0 [(.tok 0)]), (.tok 2), (.row [(.mk [(.get (.call 4 0 [(.tok 2)]) (.lit (.i 0))), (.tok 1)])])]), (.call 8 0 [(.call 7 0 [(.tok 0)]), (.tok 2), (.row [(.mk [(.get (.call 4 0 [(.tok 2)]) (.lit (.i 0))), (.tok 1)])])])]) (.lit (.i 0))) (.call 11 0 [(.call 6 0 [(.call 8 3 [(.call 7 0 [(.tok 0)]), (.tok 2), (.row [(.mk [(.get (.call 4 0 [(.tok 2)]) (.lit (.i 0))), (.tok 1)])])]), (.call 8 0 [(.call 7 0 [(.tok 0)]), (.tok 2), (.row [(.mk [(.get (.call 4 0 [(.tok 2)]) (.lit (.i 0))), (.tok 1)])])])]), (.call 10 0 [(.call 9 0 [(.tok 2)]), (.lit (.i 0)), (.call 6 0 [(.tok 0), (.tok 1)])])])) (.call 12 0 [(.call 8 1 [(.call 7 0 [(.tok 0)]), (.tok 2), (.row [(.mk [(.get (.call 4 0 [(.tok 2)]) (.lit (.i 0))), (.tok 1)])])]), (.row [(.mk [(.get (.call 4 0 [(.tok 2)]) (.lit (.i 0))), (.tok 1)])])])) (.call 13 0 [(.call 8 3 [(.call 7 0 [(.tok 0)]), (.tok 2), (.row [(.mk [(.get (.call 4 0 [(.tok 2)]) (.lit (.i 0))), (.tok 1)])])])])) (.call 5 0 []))])))))))))))))
set_option maxRecDepth 100000 in
theorem code_law30_CellsGiven (g0 g1 g2 g3 g4 g5 g6 g7 g8 g9 g10 g11 g12 g13 : List D → Option (List D)) : ∀ cd, Try.f10.body = some cd → treeOf Try.prog [(q22, g0), (q0c, g1), (q0e, g2), (q0s, g3), (q29, g4), (q20, g5), (q1l, g6), (q1y, g7), (q1m, g8), (q23, g9), (q1o, g10), (q1d, g11), (q1a, g12), (q21, g13)] q4x q24 Try.f10 cd = q32 := by
  intro cd h
  injection h with h
  subst h
  kernel_rfl
theorem fok_law30_CellsGiven {g0 g1 g2 g3 g4 g5 g6 g7 g8 g9 g10 g11 g12 g13 : List D → Option (List D)} {g : List D → Option (List D)} (h0 : FOk q22 g0) (h1 : FOk q0c g1) (h2 : FOk q0e g2) (h3 : FOk q0s g3) (h4 : FOk q29 g4) (h5 : FOk q20 g5) (h6 : FOk q1l g6) (h7 : FOk q1y g7) (h8 : FOk q1m g8) (h9 : FOk q23 g9) (h10 : FOk q1o g10) (h11 : FOk q1d g11) (h12 : FOk q1a g12) (h13 : FOk q21 g13) (h : ∀ ds outs, WfA q24.ars ds → g ds = some outs → q32.go (tblS [(q22, g0), (q0c, g1), (q0e, g2), (q0s, g3), (q29, g4), (q20, g5), (q1l, g6), (q1y, g7), (q1m, g8), (q23, g9), (q1o, g10), (q1d, g11), (q1a, g12), (q21, g13)]) (fun o => o = outs) ds fun _ _ => False) : FOk q24 g :=
  q08 q4x Try.f10 _ (.cons h0 (.cons h1 (.cons h2 (.cons h3 (.cons h4 (.cons h5 (.cons h6 (.cons h7 (.cons h8 (.cons h9 (.cons h10 (.cons h11 (.cons h12 (.cons h13 .nil)))))))))))))) rfl rfl enter_law30_CellsGiven (by decide) fun ds outs hw hg => by rw [code_law30_CellsGiven g0 g1 g2 g3 g4 g5 g6 g7 g8 g9 g10 g11 g12 g13 _ rfl]; exact h ds outs hw hg

end Go.Proofs.Ytinclokohcommaa


namespace Go.Proofs.Ytinclokohcommaa
open Go.RowKit
set_option linter.unusedVariables false
set_option linter.unusedSimpArgs false

def bodyOf : Tree → Tree
  | .br _ _ e => bodyOf e
  | .need _ t => bodyOf t
  | .loop _ _ _ b => b
  | t => t
def eIs (l : List Int) : D := .r (l.map .i)
def dIs (d : D) : List Int := d.rs.map D.int
theorem dIs_eIs (l : List Int) : dIs (eIs l) = l := by
  show (l.map .i).map D.int = l
  rw [List.map_map]
  have : D.int ∘ D.i = id := funext fun _ => rfl
  rw [this, List.map_id]
theorem eIs_len (l : List Int) : (eIs l).rs.length = l.length := by simp [eIs, rs_r]
theorem eIs_snoc (l : List Int) (x : Int) : D.r ((eIs l).rs ++ [.i x]) = eIs (l ++ [x]) := by simp [eIs, rs_r]
theorem eIs_get {l : List Int} {k : Nat} (h : k < l.length) : (eIs l).get (k : Int) = .i (l.getD k 0) := by
  show (l.map D.i).getD k .u = _
  simp [List.getD_eq_getElem?_getD, h]
theorem wfIs {d : D} {E : TypeId} (hE : tyOf E = some (.int .i64)) (h : Wf d (.row E)) : ∃ l : List Int, d = eIs l ∧ l.length ≤ 17592186043904 ∧ ∀ x ∈ l, i64 x := by
  obtain ⟨l, rfl, h1, h2⟩ := h.row_of (te := .int .i64) hE
  obtain ⟨m, rfl, h3⟩ := of_all (e := D.i) (P := fun n => i64 n) fun x hx => wfI (h2 x hx)
  refine ⟨m, rfl, ?_, h3⟩
  have e : LM (.int .i64) = 17592186043904 := by kernel_rfl
  rw [List.length_map] at h1
  omega
def gPos : List D → Option (List D)
  | [vs, n] => some [.i (posL (dIs vs) n.int)]
  | _ => none
theorem ty_i64 : tyOf 2 = some (.int .i64) := by kernel_rfl
theorem ok_ref03_position : FOk q0i gPos := fok_ref03_position fun ds outs hw hg => by
  obtain ⟨d, r, rfl, hd, e, r', rfl, he, rfl⟩ := hw
  obtain ⟨l, rfl, hl, -⟩ := wfIs ty_i64 hd
  obtain ⟨n, rfl, hn⟩ := wfI he
  simp only [gPos, dIs_eIs, int_i, Option.some.injEq] at hg
  subst hg
  rw [q3k, q1j]
  refine ⟨fun st => ∃ k : Nat, k ≤ l.length ∧ st = [.i 0, .i k] ∧ ∀ j, j < k → l.getD j 0 ≠ n, fun st => l.length - (st.getD 1 .u).int.toNat, ⟨0, Nat.zero_le _, rfl, fun j hj => absurd hj (Nat.not_lt_zero _)⟩, ?_⟩
  rintro st - ⟨k, hk, rfl, hP⟩
  rw [go_br]
  refine ⟨fun hlt => ?_, fun hlt => ?_⟩
  · simp only [q00, go_br, q01, q02, allSay, X.says, X.ev, X.evs, evl, tblS, List.getD_cons_zero, List.getD_cons_succ, List.getElem?_cons_zero, List.getElem?_cons_succ, tt_b, int_i, str_s, rs_r, Option.isSome_some, Option.getD_some, decide_eq_true_eq, decide_eq_false_iff_not, dS_eS, dC_eC, dU_eU, dW_eW, dY_eY, eC_0, eC_1, eU_0, eU_1, eW_0, eW_1, eW_2, eY_0, eY_1, eS_0, eS_1, eS_2, eS_3, eS_4, eS_5, List.length_map, i_inj, b_inj, s_inj, eC_eq, eU_eq, eW_eq, eY_eq, eS_eq, rng64, List.take_succ_cons, List.take_zero, List.nil_append, List.cons_append, decide_true, decide_false, Bool.or_true, true_and, and_true, dT_eT, eT_0, eT_1, eT_2, eT_3, eT_eq, eT_z, eIs_len] at hlt
    have hkl : k < l.length := by omega
    simp only [q00, go_br, q01, q02, allSay, X.says, X.ev, X.evs, evl, tblS, List.getD_cons_zero, List.getD_cons_succ, List.getElem?_cons_zero, List.getElem?_cons_succ, tt_b, int_i, str_s, rs_r, Option.isSome_some, Option.getD_some, decide_eq_true_eq, decide_eq_false_iff_not, dS_eS, dC_eC, dU_eU, dW_eW, dY_eY, eC_0, eC_1, eU_0, eU_1, eW_0, eW_1, eW_2, eY_0, eY_1, eS_0, eS_1, eS_2, eS_3, eS_4, eS_5, List.length_map, i_inj, b_inj, s_inj, eC_eq, eU_eq, eW_eq, eY_eq, eS_eq, rng64, List.take_succ_cons, List.take_zero, List.nil_append, List.cons_append, decide_true, decide_false, Bool.or_true, true_and, and_true, dT_eT, eT_0, eT_1, eT_2, eT_3, eT_eq, eT_z, eIs_len, eIs_get hkl]
    refine ⟨⟨by omega, by omega⟩, fun hx => ?_, fun hx => ⟨⟨by omega, by omega⟩, ?_⟩⟩
    · rw [posL_hit hkl hx hP]
    · rw [updB, if_pos rfl]
      refine ⟨⟨k + 1, by omega, by simp, upto_succ hP hx⟩, ?_⟩
      simp [D.int]
      omega
  · simp only [q00, go_br, q01, q02, allSay, X.says, X.ev, X.evs, evl, tblS, List.getD_cons_zero, List.getD_cons_succ, List.getElem?_cons_zero, List.getElem?_cons_succ, tt_b, int_i, str_s, rs_r, Option.isSome_some, Option.getD_some, decide_eq_true_eq, decide_eq_false_iff_not, dS_eS, dC_eC, dU_eU, dW_eW, dY_eY, eC_0, eC_1, eU_0, eU_1, eW_0, eW_1, eW_2, eY_0, eY_1, eS_0, eS_1, eS_2, eS_3, eS_4, eS_5, List.length_map, i_inj, b_inj, s_inj, eC_eq, eU_eq, eW_eq, eY_eq, eS_eq, rng64, List.take_succ_cons, List.take_zero, List.nil_append, List.cons_append, decide_true, decide_false, Bool.or_true, true_and, and_true, dT_eT, eT_0, eT_1, eT_2, eT_3, eT_eq, eT_z, eIs_len] at hlt ⊢
    have : k = l.length := by omega
    subst this
    rw [posL_not fun hm => by
      obtain ⟨j, hj, e⟩ := List.getElem_of_mem hm
      exact hP j hj (by rw [List.getD_eq_getElem?_getD, List.getElem?_eq_getElem hj]; exact e)]
def mT1 (ds : List D) : Nat := szT (dT (ds.getD 1 .u))
def gVars : List D → Option (List D)
  | [vs, t] => if (dIs vs).length + szT (dT t) ≤ 1000000 then some [eIs (varsT (dIs vs) (dT t))] else none
  | _ => none
theorem varsTs_snoc {vs : List Int} {l : List Te} {k : Nat} (h : k < l.length) : varsTs vs (l.take (k + 1)) = varsT (varsTs vs (l.take k)) (l.getD k default) := by
  rw [take_snoc h, varsTs_app]
  rfl
theorem varsT_t (vs : List Int) (t : Te) : varsT vs t = varsTs (if t.k = 0 ∧ t.n ∉ vs then vs ++ [t.n] else vs) t.l := by cases t; rfl
theorem ok_ref03_vars : FOk q0t gVars := q2u (m := mT1) enter_ref03_vars fun N ih => fok_ref03_vars ok_ref03_position ih fun ds outs hw hg => by
  obtain ⟨d, r, rfl, hd, e, r', rfl, he, rfl⟩ := hw
  obtain ⟨vs, rfl, hvs, -⟩ := wfIs ty_i64 hd
  obtain ⟨t, rfl, ht⟩ := wfT he
  simp only [cutM, mT1, gVars, List.getD_cons_zero, List.getD_cons_succ, dT_eT, dIs_eIs, Option.ite_none_right_eq_some, Option.some.injEq] at hg
  obtain ⟨hsz, hlen, rfl⟩ := hg
  have hl := ht.l
  have key : ∀ (x : X) (V : List Int), V.length ≤ vs.length + 1 → V.length + szTs t.l ≤ 1000000 → varsTs V t.l = varsT vs t → x.ev (evl (tblS [(q0i, gPos), (q0t, cutM mT1 N gVars)]) [eIs vs, eT t]) = eIs V → Tree.go (tblS [(q0i, gPos), (q0t, cutM mT1 N gVars)]) (fun o => o = [eIs (varsT vs t)]) (.loop 4 2 [x, (.lit (.i 0))] (bodyOf q2w)) [eIs vs, eT t] fun _ _ => False := by
    intro x V hV1 hV2 hV3 hx
    rw [q1j]
    simp only [bodyOf, q2w]
    refine ⟨fun st => ∃ k : Nat, k ≤ t.l.length ∧ st = [eIs (varsTs V (t.l.take k)), .i k], fun st => t.l.length - (st.getD 1 .u).int.toNat, ⟨0, Nat.zero_le _, by simp only [X.evs, hx, X.ev]; rfl⟩, ?_⟩
    rintro st - ⟨k, hk, rfl⟩
    rw [go_br]
    refine ⟨fun hlt => ?_, fun hlt => ?_⟩
    · simp only [q00, go_br, q01, q02, allSay, X.says, X.ev, X.evs, evl, tblS, List.getD_cons_zero, List.getD_cons_succ, List.getElem?_cons_zero, List.getElem?_cons_succ, tt_b, int_i, str_s, rs_r, Option.isSome_some, Option.getD_some, decide_eq_true_eq, decide_eq_false_iff_not, dS_eS, dC_eC, dU_eU, dW_eW, dY_eY, eC_0, eC_1, eU_0, eU_1, eW_0, eW_1, eW_2, eY_0, eY_1, eS_0, eS_1, eS_2, eS_3, eS_4, eS_5, List.length_map, i_inj, b_inj, s_inj, eC_eq, eU_eq, eW_eq, eY_eq, eS_eq, rng64, List.take_succ_cons, List.take_zero, List.nil_append, List.cons_append, decide_true, decide_false, Bool.or_true, true_and, and_true, dT_eT, eT_0, eT_1, eT_2, eT_3, eT_eq, eT_z] at hlt
      have hkl' : k < t.l.length := by omega
      have ha := arg_sz hkl'
      have h1 := varsTs_len (t.l.take k) V
      have h2 := szTs_snoc hkl'
      have h3 : szTs (t.l.take (k + 1)) ≤ szTs t.l := by
        have := szTs_app (t.l.take (k + 1)) (t.l.drop (k + 1))
        rw [List.take_append_drop] at this
        omega
      simp only [q00, go_br, q01, q02, allSay, X.says, X.ev, X.evs, evl, tblS, List.getD_cons_zero, List.getD_cons_succ, List.getElem?_cons_zero, List.getElem?_cons_succ, tt_b, int_i, str_s, rs_r, Option.isSome_some, Option.getD_some, decide_eq_true_eq, decide_eq_false_iff_not, dS_eS, dC_eC, dU_eU, dW_eW, dY_eY, eC_0, eC_1, eU_0, eU_1, eW_0, eW_1, eW_2, eY_0, eY_1, eS_0, eS_1, eS_2, eS_3, eS_4, eS_5, List.length_map, i_inj, b_inj, s_inj, eC_eq, eU_eq, eW_eq, eY_eq, eS_eq, rng64, List.take_succ_cons, List.take_zero, List.nil_append, List.cons_append, decide_true, decide_false, Bool.or_true, true_and, and_true, dT_eT, eT_0, eT_1, eT_2, eT_3, eT_eq, eT_z, get_t hkl', cutM, mT1, gVars, dIs_eIs, if_pos (show szT (t.l.getD k default) < N by omega), if_pos (show (varsTs V (t.l.take k)).length + szT (t.l.getD k default) ≤ 1000000 by omega)]
      refine ⟨⟨by omega, by omega⟩, ⟨by omega, by omega⟩, ?_⟩
      rw [updB, if_pos rfl]
      refine ⟨⟨k + 1, by omega, by rw [varsTs_snoc hkl']; rfl⟩, ?_⟩
      simp [D.int]
      omega
    · simp only [q00, go_br, q01, q02, allSay, X.says, X.ev, X.evs, evl, tblS, List.getD_cons_zero, List.getD_cons_succ, List.getElem?_cons_zero, List.getElem?_cons_succ, tt_b, int_i, str_s, rs_r, Option.isSome_some, Option.getD_some, decide_eq_true_eq, decide_eq_false_iff_not, dS_eS, dC_eC, dU_eU, dW_eW, dY_eY, eC_0, eC_1, eU_0, eU_1, eW_0, eW_1, eW_2, eY_0, eY_1, eS_0, eS_1, eS_2, eS_3, eS_4, eS_5, List.length_map, i_inj, b_inj, s_inj, eC_eq, eU_eq, eW_eq, eY_eq, eS_eq, rng64, List.take_succ_cons, List.take_zero, List.nil_append, List.cons_append, decide_true, decide_false, Bool.or_true, true_and, and_true, dT_eT, eT_0, eT_1, eT_2, eT_3, eT_eq, eT_z] at hlt ⊢
      have : k = t.l.length := by omega
      subst this
      rw [List.take_length, hV3]
  have hs := szT_l t
  rw [q2w, q00, go_br]
  refine ⟨by simp only [q00, go_br, q01, q02, allSay, X.says, X.ev, X.evs, evl, tblS, List.getD_cons_zero, List.getD_cons_succ, List.getElem?_cons_zero, List.getElem?_cons_succ, tt_b, int_i, str_s, rs_r, Option.isSome_some, Option.getD_some, decide_eq_true_eq, decide_eq_false_iff_not, dS_eS, dC_eC, dU_eU, dW_eW, dY_eY, eC_0, eC_1, eU_0, eU_1, eW_0, eW_1, eW_2, eY_0, eY_1, eS_0, eS_1, eS_2, eS_3, eS_4, eS_5, List.length_map, i_inj, b_inj, s_inj, eC_eq, eU_eq, eW_eq, eY_eq, eS_eq, rng64, List.take_succ_cons, List.take_zero, List.nil_append, List.cons_append, decide_true, decide_false, Bool.or_true, true_and, and_true, dT_eT, eT_0, eT_1, eT_2, eT_3, eT_eq, eT_z, gPos], fun h => ?_, fun h => ?_⟩
  · simp only [q00, go_br, q01, q02, allSay, X.says, X.ev, X.evs, evl, tblS, List.getD_cons_zero, List.getD_cons_succ, List.getElem?_cons_zero, List.getElem?_cons_succ, tt_b, int_i, str_s, rs_r, Option.isSome_some, Option.getD_some, decide_eq_true_eq, decide_eq_false_iff_not, dS_eS, dC_eC, dU_eU, dW_eW, dY_eY, eC_0, eC_1, eU_0, eU_1, eW_0, eW_1, eW_2, eY_0, eY_1, eS_0, eS_1, eS_2, eS_3, eS_4, eS_5, List.length_map, i_inj, b_inj, s_inj, eC_eq, eU_eq, eW_eq, eY_eq, eS_eq, rng64, List.take_succ_cons, List.take_zero, List.nil_append, List.cons_append, decide_true, decide_false, Bool.or_true, true_and, and_true, dT_eT, eT_0, eT_1, eT_2, eT_3, eT_eq, eT_z, gPos, dIs_eIs, Bool.and_eq_true, decide_eq_true_eq, posL_neg] at h
    rw [q00]
    refine ⟨by simp only [q00, go_br, q01, q02, allSay, X.says, X.ev, X.evs, evl, tblS, List.getD_cons_zero, List.getD_cons_succ, List.getElem?_cons_zero, List.getElem?_cons_succ, tt_b, int_i, str_s, rs_r, Option.isSome_some, Option.getD_some, decide_eq_true_eq, decide_eq_false_iff_not, dS_eS, dC_eC, dU_eU, dW_eW, dY_eY, eC_0, eC_1, eU_0, eU_1, eW_0, eW_1, eW_2, eY_0, eY_1, eS_0, eS_1, eS_2, eS_3, eS_4, eS_5, List.length_map, i_inj, b_inj, s_inj, eC_eq, eU_eq, eW_eq, eY_eq, eS_eq, rng64, List.take_succ_cons, List.take_zero, List.nil_append, List.cons_append, decide_true, decide_false, Bool.or_true, true_and, and_true, dT_eT, eT_0, eT_1, eT_2, eT_3, eT_eq, eT_z, eIs_len]; omega, key _ (vs ++ [t.n]) (by simp) (by simp; omega) (by rw [varsT_t, if_pos h]) ?_⟩
    simp only [q00, go_br, q01, q02, allSay, X.says, X.ev, X.evs, evl, tblS, List.getD_cons_zero, List.getD_cons_succ, List.getElem?_cons_zero, List.getElem?_cons_succ, tt_b, int_i, str_s, rs_r, Option.isSome_some, Option.getD_some, decide_eq_true_eq, decide_eq_false_iff_not, dS_eS, dC_eC, dU_eU, dW_eW, dY_eY, eC_0, eC_1, eU_0, eU_1, eW_0, eW_1, eW_2, eY_0, eY_1, eS_0, eS_1, eS_2, eS_3, eS_4, eS_5, List.length_map, i_inj, b_inj, s_inj, eC_eq, eU_eq, eW_eq, eY_eq, eS_eq, rng64, List.take_succ_cons, List.take_zero, List.nil_append, List.cons_append, decide_true, decide_false, Bool.or_true, true_and, and_true, dT_eT, eT_0, eT_1, eT_2, eT_3, eT_eq, eT_z, eIs_snoc]
  · simp only [q00, go_br, q01, q02, allSay, X.says, X.ev, X.evs, evl, tblS, List.getD_cons_zero, List.getD_cons_succ, List.getElem?_cons_zero, List.getElem?_cons_succ, tt_b, int_i, str_s, rs_r, Option.isSome_some, Option.getD_some, decide_eq_true_eq, decide_eq_false_iff_not, dS_eS, dC_eC, dU_eU, dW_eW, dY_eY, eC_0, eC_1, eU_0, eU_1, eW_0, eW_1, eW_2, eY_0, eY_1, eS_0, eS_1, eS_2, eS_3, eS_4, eS_5, List.length_map, i_inj, b_inj, s_inj, eC_eq, eU_eq, eW_eq, eY_eq, eS_eq, rng64, List.take_succ_cons, List.take_zero, List.nil_append, List.cons_append, decide_true, decide_false, Bool.or_true, true_and, and_true, dT_eT, eT_0, eT_1, eT_2, eT_3, eT_eq, eT_z, gPos, dIs_eIs] at h
    refine key _ vs (by omega) (by omega) ?_ (by simp only [q00, go_br, q01, q02, allSay, X.says, X.ev, X.evs, evl, tblS, List.getD_cons_zero, List.getD_cons_succ, List.getElem?_cons_zero, List.getElem?_cons_succ, tt_b, int_i, str_s, rs_r, Option.isSome_some, Option.getD_some, decide_eq_true_eq, decide_eq_false_iff_not, dS_eS, dC_eC, dU_eU, dW_eW, dY_eY, eC_0, eC_1, eU_0, eU_1, eW_0, eW_1, eW_2, eY_0, eY_1, eS_0, eS_1, eS_2, eS_3, eS_4, eS_5, List.length_map, i_inj, b_inj, s_inj, eC_eq, eU_eq, eW_eq, eY_eq, eS_eq, rng64, List.take_succ_cons, List.take_zero, List.nil_append, List.cons_append, decide_true, decide_false, Bool.or_true, true_and, and_true, dT_eT, eT_0, eT_1, eT_2, eT_3, eT_eq, eT_z])
    rw [varsT_t, if_neg fun q => by rw [q.1, posL_not q.2] at h; simp at h]
def gNum : List D → Option (List D)
  | [vs, t] => some [eT (numT (dIs vs) (dT t))]
  | _ => none
theorem mapV_t (f : Int → Int) (t : Te) : mapV f t = .mk t.k (if t.k = 0 then f t.n else t.n) t.s (t.l.map (mapV f)) := by cases t; rw [mapV_mk]; rfl
theorem ok_ref03_number : FOk q0w gNum := q2u (m := mT1) q5k fun N ih => fok_ref03_number ok_ref03_position ih fun ds outs hw hg => by
  obtain ⟨d, r, rfl, hd, e, r', rfl, he, rfl⟩ := hw
  obtain ⟨vs, rfl, hvs, -⟩ := wfIs ty_i64 hd
  obtain ⟨t, rfl, ht⟩ := wfT he
  simp only [cutM, mT1, gNum, List.getD_cons_zero, List.getD_cons_succ, dT_eT, dIs_eIs, Option.ite_none_right_eq_some, Option.some.injEq] at hg
  obtain ⟨hsz, rfl⟩ := hg
  have hl := ht.l
  have key : ∀ (x : X) (n : Int), (n = if t.k = 0 then posL vs t.n else t.n) → x.ev (evl (tblS [(q0i, gPos), (q0w, cutM mT1 N gNum)]) [eIs vs, eT t]) = eT (.mk t.k n t.s []) → Tree.go (tblS [(q0i, gPos), (q0w, cutM mT1 N gNum)]) (fun o => o = [eT (numT vs t)]) (.loop 5 2 [(.lit (.i 0)), x] (bodyOf q2l)) [eIs vs, eT t] fun _ _ => False := by
    intro x n hn hx
    rw [q1j]
    simp only [bodyOf, q2l]
    refine ⟨fun st => ∃ k : Nat, k ≤ t.l.length ∧ st = [.i k, eT (.mk t.k n t.s ((t.l.take k).map (numT vs)))], fun st => t.l.length - (st.getD 0 .u).int.toNat, ⟨0, Nat.zero_le _, by simp only [X.evs, hx, X.ev]; rfl⟩, ?_⟩
    rintro st - ⟨k, hk, rfl⟩
    rw [go_br]
    refine ⟨fun hlt => ?_, fun hlt => ?_⟩
    · simp only [q00, go_br, q01, q02, allSay, X.says, X.ev, X.evs, evl, tblS, List.getD_cons_zero, List.getD_cons_succ, List.getElem?_cons_zero, List.getElem?_cons_succ, tt_b, int_i, str_s, rs_r, Option.isSome_some, Option.getD_some, decide_eq_true_eq, decide_eq_false_iff_not, dS_eS, dC_eC, dU_eU, dW_eW, dY_eY, eC_0, eC_1, eU_0, eU_1, eW_0, eW_1, eW_2, eY_0, eY_1, eS_0, eS_1, eS_2, eS_3, eS_4, eS_5, List.length_map, i_inj, b_inj, s_inj, eC_eq, eU_eq, eW_eq, eY_eq, eS_eq, rng64, List.take_succ_cons, List.take_zero, List.nil_append, List.cons_append, decide_true, decide_false, Bool.or_true, true_and, and_true, dT_eT, eT_0, eT_1, eT_2, eT_3, eT_eq, eT_z] at hlt
      have hkl' : k < t.l.length := by omega
      have ha := arg_sz hkl'
      simp only [q00, go_br, q01, q02, allSay, X.says, X.ev, X.evs, evl, tblS, List.getD_cons_zero, List.getD_cons_succ, List.getElem?_cons_zero, List.getElem?_cons_succ, tt_b, int_i, str_s, rs_r, Option.isSome_some, Option.getD_some, decide_eq_true_eq, decide_eq_false_iff_not, dS_eS, dC_eC, dU_eU, dW_eW, dY_eY, eC_0, eC_1, eU_0, eU_1, eW_0, eW_1, eW_2, eY_0, eY_1, eS_0, eS_1, eS_2, eS_3, eS_4, eS_5, List.length_map, i_inj, b_inj, s_inj, eC_eq, eU_eq, eW_eq, eY_eq, eS_eq, rng64, List.take_succ_cons, List.take_zero, List.nil_append, List.cons_append, decide_true, decide_false, Bool.or_true, true_and, and_true, dT_eT, eT_0, eT_1, eT_2, eT_3, eT_eq, eT_z, get_t hkl', cutM, mT1, gNum, dIs_eIs, if_pos (show szT (t.l.getD k default) < N by omega), Te_l, List.length_take]
      refine ⟨⟨by omega, by omega, by omega⟩, ⟨by omega, by omega⟩, ?_⟩
      rw [updB, if_pos rfl]
      refine ⟨⟨k + 1, by omega, ?_⟩, ?_⟩
      · rw [take_snoc hkl', eT_snoc, List.map_append]
        rfl
      · simp [D.int]
        omega
    · simp only [q00, go_br, q01, q02, allSay, X.says, X.ev, X.evs, evl, tblS, List.getD_cons_zero, List.getD_cons_succ, List.getElem?_cons_zero, List.getElem?_cons_succ, tt_b, int_i, str_s, rs_r, Option.isSome_some, Option.getD_some, decide_eq_true_eq, decide_eq_false_iff_not, dS_eS, dC_eC, dU_eU, dW_eW, dY_eY, eC_0, eC_1, eU_0, eU_1, eW_0, eW_1, eW_2, eY_0, eY_1, eS_0, eS_1, eS_2, eS_3, eS_4, eS_5, List.length_map, i_inj, b_inj, s_inj, eC_eq, eU_eq, eW_eq, eY_eq, eS_eq, rng64, List.take_succ_cons, List.take_zero, List.nil_append, List.cons_append, decide_true, decide_false, Bool.or_true, true_and, and_true, dT_eT, eT_0, eT_1, eT_2, eT_3, eT_eq, eT_z] at hlt ⊢
      have : k = t.l.length := by omega
      subst this
      rw [List.take_length, hn, numT, mapV_t]
  rw [q2l, go_br]
  refine ⟨fun h => ?_, fun h => ?_⟩
  · simp only [q00, go_br, q01, q02, allSay, X.says, X.ev, X.evs, evl, tblS, List.getD_cons_zero, List.getD_cons_succ, List.getElem?_cons_zero, List.getElem?_cons_succ, tt_b, int_i, str_s, rs_r, Option.isSome_some, Option.getD_some, decide_eq_true_eq, decide_eq_false_iff_not, dS_eS, dC_eC, dU_eU, dW_eW, dY_eY, eC_0, eC_1, eU_0, eU_1, eW_0, eW_1, eW_2, eY_0, eY_1, eS_0, eS_1, eS_2, eS_3, eS_4, eS_5, List.length_map, i_inj, b_inj, s_inj, eC_eq, eU_eq, eW_eq, eY_eq, eS_eq, rng64, List.take_succ_cons, List.take_zero, List.nil_append, List.cons_append, decide_true, decide_false, Bool.or_true, true_and, and_true, dT_eT, eT_0, eT_1, eT_2, eT_3, eT_eq, eT_z] at h
    rw [q00]
    refine ⟨by simp only [q00, go_br, q01, q02, allSay, X.says, X.ev, X.evs, evl, tblS, List.getD_cons_zero, List.getD_cons_succ, List.getElem?_cons_zero, List.getElem?_cons_succ, tt_b, int_i, str_s, rs_r, Option.isSome_some, Option.getD_some, decide_eq_true_eq, decide_eq_false_iff_not, dS_eS, dC_eC, dU_eU, dW_eW, dY_eY, eC_0, eC_1, eU_0, eU_1, eW_0, eW_1, eW_2, eY_0, eY_1, eS_0, eS_1, eS_2, eS_3, eS_4, eS_5, List.length_map, i_inj, b_inj, s_inj, eC_eq, eU_eq, eW_eq, eY_eq, eS_eq, rng64, List.take_succ_cons, List.take_zero, List.nil_append, List.cons_append, decide_true, decide_false, Bool.or_true, true_and, and_true, dT_eT, eT_0, eT_1, eT_2, eT_3, eT_eq, eT_z, gPos], key _ (posL vs t.n) (by rw [if_pos h]) ?_⟩
    simp only [q00, go_br, q01, q02, allSay, X.says, X.ev, X.evs, evl, tblS, List.getD_cons_zero, List.getD_cons_succ, List.getElem?_cons_zero, List.getElem?_cons_succ, tt_b, int_i, str_s, rs_r, Option.isSome_some, Option.getD_some, decide_eq_true_eq, decide_eq_false_iff_not, dS_eS, dC_eC, dU_eU, dW_eW, dY_eY, eC_0, eC_1, eU_0, eU_1, eW_0, eW_1, eW_2, eY_0, eY_1, eS_0, eS_1, eS_2, eS_3, eS_4, eS_5, List.length_map, i_inj, b_inj, s_inj, eC_eq, eU_eq, eW_eq, eY_eq, eS_eq, rng64, List.take_succ_cons, List.take_zero, List.nil_append, List.cons_append, decide_true, decide_false, Bool.or_true, true_and, and_true, dT_eT, eT_0, eT_1, eT_2, eT_3, eT_eq, eT_z, gPos, dIs_eIs, eT_mk]
    rfl
  · simp only [q00, go_br, q01, q02, allSay, X.says, X.ev, X.evs, evl, tblS, List.getD_cons_zero, List.getD_cons_succ, List.getElem?_cons_zero, List.getElem?_cons_succ, tt_b, int_i, str_s, rs_r, Option.isSome_some, Option.getD_some, decide_eq_true_eq, decide_eq_false_iff_not, dS_eS, dC_eC, dU_eU, dW_eW, dY_eY, eC_0, eC_1, eU_0, eU_1, eW_0, eW_1, eW_2, eY_0, eY_1, eS_0, eS_1, eS_2, eS_3, eS_4, eS_5, List.length_map, i_inj, b_inj, s_inj, eC_eq, eU_eq, eW_eq, eY_eq, eS_eq, rng64, List.take_succ_cons, List.take_zero, List.nil_append, List.cons_append, decide_true, decide_false, Bool.or_true, true_and, and_true, dT_eT, eT_0, eT_1, eT_2, eT_3, eT_eq, eT_z] at h
    refine key _ t.n (by rw [if_neg h]) ?_
    simp only [q00, go_br, q01, q02, allSay, X.says, X.ev, X.evs, evl, tblS, List.getD_cons_zero, List.getD_cons_succ, List.getElem?_cons_zero, List.getElem?_cons_succ, tt_b, int_i, str_s, rs_r, Option.isSome_some, Option.getD_some, decide_eq_true_eq, decide_eq_false_iff_not, dS_eS, dC_eC, dU_eU, dW_eW, dY_eY, eC_0, eC_1, eU_0, eU_1, eW_0, eW_1, eW_2, eY_0, eY_1, eS_0, eS_1, eS_2, eS_3, eS_4, eS_5, List.length_map, i_inj, b_inj, s_inj, eC_eq, eU_eq, eW_eq, eY_eq, eS_eq, rng64, List.take_succ_cons, List.take_zero, List.nil_append, List.cons_append, decide_true, decide_false, Bool.or_true, true_and, and_true, dT_eT, eT_0, eT_1, eT_2, eT_3, eT_eq, eT_z, eT_mk]
    rfl
mutual
theorem varsT_ok : ∀ (t : Te) (vs : List Int), nodesT t = true → (∀ x ∈ vs, 0 ≤ x ∧ x ≤ 1099511627776) → ∀ x ∈ varsT vs t, 0 ≤ x ∧ x ≤ 1099511627776
  | .mk k n s l, vs, h, hv => by
    rw [nodesT, Bool.and_eq_true, nodeT_mk] at h
    rw [varsT]
    refine varsTs_ok l _ h.2 fun x hx => ?_
    split at hx
    · rename_i hk
      rw [if_pos hk.1] at h
      simp only [Bool.and_eq_true, decide_eq_true_eq] at h
      rcases List.mem_append.1 hx with hx | hx
      · exact hv x hx
      · rw [List.mem_singleton.1 hx]
        exact ⟨h.1.1, h.1.2.1⟩
    · exact hv x hx
theorem varsTs_ok : ∀ (l : List Te) (vs : List Int), nodesTs l = true → (∀ x ∈ vs, 0 ≤ x ∧ x ≤ 1099511627776) → ∀ x ∈ varsTs vs l, 0 ≤ x ∧ x ≤ 1099511627776
  | [], vs, h, hv => hv
  | t :: l, vs, h, hv => by
    rw [nodesTs, Bool.and_eq_true] at h
    rw [varsTs]
    exact varsTs_ok l _ h.2 (varsT_ok t vs h.1 hv)
end
end Go.Proofs.Ytinclokohcommaa


namespace Go.Proofs.Ytinclokohcommaa
open Go.RowKit
set_option linter.unusedVariables false
set_option linter.unusedSimpArgs false

end Go.Proofs.Ytinclokohcommaa


namespace Go.Proofs.Ytinclokohcommaa
open Go.RowKit
set_option linter.unusedVariables false
set_option linter.unusedSimpArgs false

theorem addD_mono {t : Te} {q : Sv} {a : Int} (hn : nodesT t = true) (hs : SV q.2) : q.1.cs.length ≤ (addD q t a).2.1.cs.length := by
  have := (addD_len t q a hn hs).1
  omega
theorem addAs_mono {l : List Te} {q : Sv} {to : Nat} (hn : nodesTs l = true) (hs : SV q.2) : q.1.cs.length ≤ (addAs q l to).1.cs.length := by
  have := (addAs_len l q to hn hs).1
  omega
def grow (s : So) (y : Int) (n : Nat) : List Ce := s.cs ++ (⟨4, y⟩ :: List.replicate n ⟨0, 0⟩)
theorem grow_len (s : So) (y : Int) (n : Nat) : (grow s y n).length = s.cs.length + 1 + n := by simp [grow]; omega
mutual
theorem addD_keep : ∀ (t : Te) (q : Sv) (a : Int) (i : Nat), nodesT t = true → SV q.2 → i < q.1.cs.length → (addD q t a).2.1.cs[i]? = q.1.cs[i]?
  | .mk k n nm l, q, a, i, hn, hs, hi => by
    rw [nodesT, Bool.and_eq_true] at hn
    rcases node_cases hn.1 with ⟨rfl, rfl, h1, h2⟩ | ⟨rfl, rfl⟩ | ⟨rfl, rfl, h1⟩ | ⟨rfl, h1, h2, h3⟩
    · rw [addD_0]
      split
      · rfl
      · split
        · exact List.getElem?_append_left hi
        · rfl
    · rw [addD_1]
    · rw [addD_2]
      exact congrArg (·[i]?) (symN_cs q.1 nm 0).1
    · rw [addD_3]
      have hg := grow_len q.1 (symN q.1 nm (l.length : Nat)).1 l.length
      refine (addAs_keep l ({ (symN q.1 nm (l.length : Nat)).2 with cs := grow q.1 (symN q.1 nm (l.length : Nat)).1 l.length }, q.2) (q.1.cs.length + 1) i hn.2 hs (by show _ ≤ (grow _ _ _).length; omega) (by show i < (grow _ _ _).length; omega) (.inl (by omega))).trans ?_
      exact List.getElem?_append_left hi
theorem addAs_keep : ∀ (l : List Te) (q : Sv) (to i : Nat), nodesTs l = true → SV q.2 → to + l.length ≤ q.1.cs.length → i < q.1.cs.length → i < to ∨ to + l.length ≤ i → (addAs q l to).1.cs[i]? = q.1.cs[i]?
  | [], q, to, i, _, _, _, _, _ => by rw [addAs]
  | t :: l, q, to, i, hn, hs, hto, hi, hh => by
    rw [nodesTs, Bool.and_eq_true] at hn
    rw [List.length_cons] at hto hh
    rw [addAs]
    have hm := addD_mono (a := (to : Nat)) hn.1 hs
    have h4 := (addD_len t q (to : Nat) hn.1 hs).2.2.2
    rw [addAs_keep l (setC (addD q t (to : Nat)).2.1 to (addD q t (to : Nat)).1, (addD q t (to : Nat)).2.2) (to + 1) i hn.2 h4 (by rw [setC_len]; omega) (by rw [setC_len]; omega) (by omega)]
    show ((addD q t (to : Nat)).2.1.cs.set to _)[i]? = _
    rw [List.getElem?_set_ne (by omega)]
    exact addD_keep t q _ i hn.1 hs hi
end
theorem symX_pre (ys : List Sy) (y : Sy) : ∃ m, symX ys y = ys ++ m := by
  unfold symX
  split
  · exact ⟨[], by simp⟩
  · exact ⟨[y], rfl⟩
mutual
theorem symsT_pre : ∀ (t : Te) (ys : List Sy), ∃ m, symsT ys t = ys ++ m
  | .mk k n nm l, ys => by
    rw [symsT]
    obtain ⟨m, hm⟩ := symsTs_pre l (if k = 2 ∨ k = 3 then symX ys ⟨nm, (l.length : Nat)⟩ else ys)
    rw [hm]
    split
    · obtain ⟨m2, h2⟩ := symX_pre ys ⟨nm, (l.length : Nat)⟩
      exact ⟨m2 ++ m, by rw [h2, List.append_assoc]⟩
    · exact ⟨m, rfl⟩
theorem symsTs_pre : ∀ (l : List Te) (ys : List Sy), ∃ m, symsTs ys l = ys ++ m
  | [], ys => ⟨[], by simp [symsTs]⟩
  | t :: l, ys => by
    rw [symsTs]
    obtain ⟨m, hm⟩ := symsT_pre t ys
    obtain ⟨m2, h2⟩ := symsTs_pre l (symsT ys t)
    exact ⟨m ++ m2, by rw [h2, hm, List.append_assoc]⟩
end
theorem ofV_ins {v n : Int} {c : Ce} : ∀ {l : List Vc}, ofV l n = none → ofV (insV l n c) v = if v = n then some c else ofV l v
  | [], _ => by
    by_cases h : v = n
    · simp [insV, ofV, h]
    · have h' : ¬ n = v := fun e => h e.symm
      simp [insV, ofV, h, h']
  | x :: l, hn => by
    rw [ofV] at hn
    split at hn
    · cases hn
    rename_i hx
    rw [insV]
    split
    · rw [ofV, ofV, ofV_ins hn]
      by_cases h : v = n
      · subst h
        simp [hx]
      · simp [h]
    · by_cases h : v = n
      · simp [ofV, h]
      · have h' : ¬ n = v := fun e => h e.symm
        rw [ofV, if_neg h', if_neg h]
theorem insV_len (n : Int) (c : Ce) : ∀ l, (insV l n c).length = l.length + 1
  | [] => rfl
  | x :: l => by
    rw [insV]
    split
    · rw [List.length_cons, insV_len n c l, List.length_cons]
    · simp
mutual
/-- The cells of variables stay. -/
theorem addD_of : ∀ (t : Te) (q : Sv) (a : Int), nodesT t = true → ∀ v c, ofV q.2 v = some c → ofV (addD q t a).2.2 v = some c
  | .mk k n nm l, q, a, hn, v, c, hv => by
    rw [nodesT, Bool.and_eq_true] at hn
    rcases node_cases hn.1 with ⟨rfl, rfl, h1, h2⟩ | ⟨rfl, rfl⟩ | ⟨rfl, rfl, h1⟩ | ⟨rfl, h1, h2, h3⟩
    · rw [addD_0]
      cases ho : ofV q.2 n with
      | some c' => exact hv
      | none =>
        have hne : ¬ v = n := fun e => by rw [e, ho] at hv; cases hv
        by_cases ha : a < 0
        · simp only [if_pos ha]
          rw [ofV_ins ho, if_neg hne, hv]
        · simp only [if_neg ha]
          rw [ofV_ins ho, if_neg hne, hv]
    · rw [addD_1]; exact hv
    · rw [addD_2]; exact hv
    · rw [addD_3]
      exact addAs_of l _ _ hn.2 v c hv
theorem addAs_of : ∀ (l : List Te) (q : Sv) (to : Nat), nodesTs l = true → ∀ v c, ofV q.2 v = some c → ofV (addAs q l to).2 v = some c
  | [], q, to, _, v, c, hv => by rw [addAs]; exact hv
  | t :: l, q, to, hn, v, c, hv => by
    rw [nodesTs, Bool.and_eq_true] at hn
    rw [addAs]
    exact addAs_of l _ _ hn.2 v c (addD_of t q _ hn.1 v c hv)
end
theorem inV_mk (V : List Int) (k n : Int) (s : ByteArray) (l : List Te) : inV V (.mk k n s l) ↔ (k = 0 → n ∈ V) ∧ inVs V l := by rw [inV]
mutual
/-- Which variables have cells then, and how many. -/
theorem addD_vars : ∀ (t : Te) (q : Sv) (a : Int) (vs : List Int), nodesT t = true → (∀ v, v ∈ vs ↔ (ofV q.2 v).isSome = true) → (∀ v, v ∈ varsT vs t ↔ (ofV (addD q t a).2.2 v).isSome = true) ∧ (addD q t a).2.2.length + vs.length = q.2.length + (varsT vs t).length
  | .mk k n nm l, q, a, vs, hn, hv => by
    rw [nodesT, Bool.and_eq_true] at hn
    rcases node_cases hn.1 with ⟨rfl, rfl, h1, h2⟩ | ⟨rfl, rfl⟩ | ⟨rfl, rfl, h1⟩ | ⟨rfl, h1, h2, h3⟩
    · rw [addD_0, varsT_t]
      simp only [Te.k, Te.n, Te.l, varsTs, true_and]
      cases ho : ofV q.2 n with
      | some c' =>
        have : n ∈ vs := (hv n).2 (by rw [ho]; rfl)
        rw [if_neg (fun h => h this)]
        exact ⟨hv, rfl⟩
      | none =>
        have hnv : n ∉ vs := fun h => by
          have := (hv n).1 h
          rw [ho] at this
          cases this
        rw [if_pos hnv]
        have key : ∀ c, (∀ v, v ∈ vs ++ [n] ↔ (ofV (insV q.2 n c) v).isSome = true) ∧ (insV q.2 n c).length + vs.length = q.2.length + (vs ++ [n]).length := fun c => by
          refine ⟨fun v => ?_, by rw [insV_len]; simp; omega⟩
          rw [ofV_ins ho]
          by_cases h : v = n
          · simp [h]
          · simp [h, hv v]
        by_cases ha : a < 0
        · simp only [if_pos ha]
          exact key _
        · simp only [if_neg ha]
          exact key _
    · rw [addD_1, varsT_t]
      simp only [Te.k, Te.l, varsTs]
      exact ⟨hv, rfl⟩
    · rw [addD_2, varsT_t]
      simp only [Te.k, Te.l, varsTs]
      exact ⟨hv, rfl⟩
    · rw [addD_3, varsT_t]
      simp only [Te.k, Te.l]
      exact addAs_vars l ({ (symN q.1 nm (l.length : Nat)).2 with cs := q.1.cs ++ (⟨4, (symN q.1 nm (l.length : Nat)).1⟩ :: List.replicate l.length ⟨0, 0⟩) }, q.2) _ vs hn.2 hv
theorem addAs_vars : ∀ (l : List Te) (q : Sv) (to : Nat) (vs : List Int), nodesTs l = true → (∀ v, v ∈ vs ↔ (ofV q.2 v).isSome = true) → (∀ v, v ∈ varsTs vs l ↔ (ofV (addAs q l to).2 v).isSome = true) ∧ (addAs q l to).2.length + vs.length = q.2.length + (varsTs vs l).length
  | [], q, to, vs, _, hv => by rw [addAs, varsTs]; exact ⟨hv, rfl⟩
  | t :: l, q, to, vs, hn, hv => by
    rw [nodesTs, Bool.and_eq_true] at hn
    rw [addAs, varsTs]
    obtain ⟨h1, h2⟩ := addD_vars t q (to : Nat) vs hn.1 hv
    obtain ⟨h3, h4⟩ := addAs_vars l (setC (addD q t (to : Nat)).2.1 to (addD q t (to : Nat)).1, (addD q t (to : Nat)).2.2) (to + 1) (varsT vs t) hn.2 h1
    simp only at h4
    exact ⟨h3, by omega⟩
end
end Go.Proofs.Ytinclokohcommaa


namespace Go.Proofs.Ytinclokohcommaa
open Go.RowKit
set_option linter.unusedVariables false
set_option linter.unusedSimpArgs false

mutual
/-- A cell represents a term; f: what represents a variable. -/
def Rh (S : So) (f : Int → Ce) : Te → Ce → Prop
  | .mk k n nm l, c => (k = 0 ∧ c = f n) ∨ (k = 1 ∧ c = ⟨1, n⟩) ∨ (k = 2 ∧ c.t = 2 ∧ ∃ y : Nat, c.n = (y : Int) ∧ S.ys[y]? = some ⟨nm, 0⟩) ∨
    (k = 3 ∧ c.t = 3 ∧ ∃ p y : Nat, c.n = (p : Int) ∧ S.cs[p]? = some ⟨4, y⟩ ∧ S.ys[y]? = some ⟨nm, (l.length : Nat)⟩ ∧ Rhs S f l (p + 1))
def Rhs (S : So) (f : Int → Ce) : List Te → Nat → Prop
  | [], _ => True
  | t :: l, p => (∃ c, S.cs[p]? = some c ∧ Rh S f t c) ∧ Rhs S f l (p + 1)
end
theorem Rh_1 {S : So} {f : Int → Ce} {n : Int} {nm : ByteArray} {l : List Te} : Rh S f (.mk 1 n nm l) ⟨1, n⟩ := by rw [Rh]; exact .inr (.inl ⟨rfl, rfl⟩)
theorem fnd_at {nm : ByteArray} {ar : Int} : ∀ (k : Nat) (l : List Sy), 0 ≤ fnd nm ar k l → ∃ j : Nat, fnd nm ar k l = ((k + j : Nat) : Int) ∧ l[j]? = some ⟨nm, ar⟩
  | k, [], h => by simp [fnd] at h
  | k, y :: l, h => by
    unfold fnd at h ⊢
    split
    · rename_i hy
      obtain ⟨rfl, rfl⟩ := hy
      exact ⟨0, rfl, rfl⟩
    · rename_i hy
      rw [if_neg hy] at h
      obtain ⟨j, e, hj⟩ := fnd_at (k + 1) l h
      exact ⟨j + 1, by rw [e]; congr 1; omega, by simpa using hj⟩
theorem symN_at (s : So) (nm : ByteArray) (ar : Int) : ∃ y : Nat, (symN s nm ar).1 = (y : Int) ∧ (symN s nm ar).2.ys[y]? = some ⟨nm, ar⟩ := by
  unfold symN
  by_cases h : 0 ≤ findS s nm ar
  · rw [if_pos h]
    obtain ⟨j, e, hj⟩ := fnd_at 0 s.ys h
    exact ⟨j, by rw [← Nat.zero_add j]; exact e, hj⟩
  · rw [if_neg h]
    exact ⟨s.ys.length, rfl, by simp⟩
theorem ys_up {ys m : List Sy} {i : Nat} {y : Sy} (h : ys[i]? = some y) : (ys ++ m)[i]? = some y := by
  rw [List.getElem?_append_left (List.getElem?_eq_some_iff.1 h).1]
  exact h
def NewOk (S : So) (f : Int → Ce) (P : Te → Prop) (i : Nat) : Prop :=
  (∃ y k : Nat, ∃ nm, S.cs[i]? = some ⟨4, y⟩ ∧ S.ys[y]? = some ⟨nm, k⟩ ∧ 1 ≤ k ∧ k ≤ 8 ∧ ∀ j, 1 ≤ j → j ≤ k → ∃ t c, P t ∧ S.cs[i + j]? = some c ∧ Rh S f t c) ∨ ∃ t c, P t ∧ S.cs[i]? = some c ∧ Rh S f t c
theorem Rhs_at {S : So} {f : Int → Ce} : ∀ {l : List Te} {p j : Nat}, Rhs S f l p → j < l.length → ∃ c, S.cs[p + j]? = some c ∧ Rh S f (l.getD j default) c
  | t :: l, p, 0, h, _ => by rw [Rhs] at h; exact h.1
  | t :: l, p, j + 1, h, hj => by
    rw [Rhs] at h
    obtain ⟨c, h1, h2⟩ := Rhs_at h.2 (j := j) (by simpa using hj)
    exact ⟨c, by rw [← h1]; congr 1; omega, by simpa using h2⟩

mutual
theorem addD_rep {S : So} {f : Int → Ce} {P : Te → Prop} (hP : ∀ k n nm l, P (.mk k n nm l) → ∀ t ∈ l, P t) : ∀ (t : Te) (q : Sv) (a : Int), P t → nodesT t = true → SV q.2 → (∀ i, q.1.cs.length ≤ i → i < (addD q t a).2.1.cs.length → S.cs[i]? = (addD q t a).2.1.cs[i]?) → (∀ (i : Nat) y, (addD q t a).2.1.ys[i]? = some y → S.ys[i]? = some y) → (∀ v c, ofV (addD q t a).2.2 v = some c → f v = keptC c) →
    Rh S f t (addD q t a).1 ∧ ∀ i, q.1.cs.length ≤ i → i < (addD q t a).2.1.cs.length → NewOk S f P i
  | .mk k n nm l, q, a, hp, hn, hs, hc, hy, hf => by
    rw [nodesT, Bool.and_eq_true] at hn
    rcases node_cases hn.1 with ⟨rfl, rfl, h1, h2⟩ | ⟨rfl, rfl⟩ | ⟨rfl, rfl, h1⟩ | ⟨rfl, h1, h2, h3⟩
    · rw [addD_0] at hc hy hf ⊢
      cases ho : ofV q.2 n with
      | some c =>
        simp only [ho] at hc hf ⊢
        refine ⟨?_, fun i h1 h2 => by omega⟩
        rw [Rh]
        exact .inl ⟨rfl, (hf n c ho).symm⟩
      | none =>
        by_cases ha : a < 0
        · simp only [ho, if_pos ha] at hc hf ⊢
          have e := hf n _ (by rw [ofV_ins ho, if_pos rfl])
          have hr : Rh S f (.mk 0 n nm []) ⟨0, (q.1.cs.length : Nat)⟩ := by
            rw [Rh]
            exact .inl ⟨rfl, by rw [e]; rfl⟩
          refine ⟨hr, fun i h1 h2 => ?_⟩
          have : i = q.1.cs.length := by simp at h2; omega
          subst this
          exact .inr ⟨_, _, hp, by rw [hc _ h1 h2]; simp, hr⟩
        · simp only [ho, if_neg ha] at hc hf ⊢
          have e := hf n _ (by rw [ofV_ins ho, if_pos rfl])
          refine ⟨?_, fun i h1 h2 => by omega⟩
          rw [Rh]
          exact .inl ⟨rfl, by rw [e]; rfl⟩
    · rw [addD_1]
      exact ⟨Rh_1, fun i h1 h2 => by simp only at h2; omega⟩
    · rw [addD_2] at hy ⊢
      obtain ⟨y, e, hy'⟩ := symN_at q.1 nm 0
      refine ⟨?_, fun i h1 h2 => ?_⟩
      · rw [Rh]
        exact .inr (.inr (.inl ⟨rfl, rfl, y, e, hy _ _ hy'⟩))
      · have e1 := (symN_cs q.1 nm 0).1
        simp only [e1] at h2
        omega
    · rw [addD_3] at hc hy hf ⊢
      obtain ⟨y, e, hy'⟩ := symN_at q.1 nm (l.length : Nat)
      have hg := grow_len q.1 (symN q.1 nm (l.length : Nat)).1 l.length
      have hm : q.1.cs.length + 1 + l.length ≤ (addAs ({ (symN q.1 nm (l.length : Nat)).2 with cs := grow q.1 (symN q.1 nm (l.length : Nat)).1 l.length }, q.2) l (q.1.cs.length + 1)).1.cs.length := by
        rw [← hg]
        exact addAs_mono (q := ({ (symN q.1 nm (l.length : Nat)).2 with cs := grow q.1 (symN q.1 nm (l.length : Nat)).1 l.length }, q.2)) hn.2 hs
      have hk := addAs_keep l ({ (symN q.1 nm (l.length : Nat)).2 with cs := grow q.1 (symN q.1 nm (l.length : Nat)).1 l.length }, q.2) (q.1.cs.length + 1) q.1.cs.length hn.2 hs (by show _ ≤ (grow _ _ _).length; omega) (by show _ < (grow _ _ _).length; omega) (.inl (by omega))
      have hys := (addAs_len l ({ (symN q.1 nm (l.length : Nat)).2 with cs := grow q.1 (symN q.1 nm (l.length : Nat)).1 l.length }, q.2) (q.1.cs.length + 1) hn.2 hs).2.1
      have hpl := hP _ _ _ _ hp
      have ih := addAs_rep hP l ({ (symN q.1 nm (l.length : Nat)).2 with cs := grow q.1 (symN q.1 nm (l.length : Nat)).1 l.length }, q.2) (q.1.cs.length + 1) hpl hn.2 hs (by show _ ≤ (grow _ _ _).length; omega) (fun i h1 h2 => hc i (by have h1 : (grow _ _ _).length ≤ i := h1; omega) h2) (fun i h1 h2 => hc i (by omega) (by
        have : q.1.cs.length + 1 + l.length ≤ (addAs ({ (symN q.1 nm (l.length : Nat)).2 with cs := grow q.1 (symN q.1 nm (l.length : Nat)).1 l.length }, q.2) l (q.1.cs.length + 1)).1.cs.length := hm
        exact Nat.lt_of_lt_of_le h2 this)) hy hf
      obtain ⟨i1, i2, i3⟩ := ih
      obtain ⟨m, hpre⟩ := symsTs_pre l (symN q.1 nm (l.length : Nat)).2.ys
      have hhead : S.cs[q.1.cs.length]? = some ⟨4, y⟩ := by
        rw [hc _ (Nat.le_refl _) (by
          have : q.1.cs.length + 1 + l.length ≤ (addAs ({ (symN q.1 nm (l.length : Nat)).2 with cs := grow q.1 (symN q.1 nm (l.length : Nat)).1 l.length }, q.2) l (q.1.cs.length + 1)).1.cs.length := hm
          exact Nat.lt_of_lt_of_le (by omega) this)]
        refine Eq.trans hk ?_
        show (grow _ _ _)[q.1.cs.length]? = _
        rw [grow, List.getElem?_append_right (Nat.le_refl _), Nat.sub_self, e]
        rfl
      have hsy : S.ys[y]? = some ⟨nm, (l.length : Nat)⟩ := by
        refine hy _ _ ?_
        refine Eq.trans (congrArg (·[y]?) hys) ?_
        show (symsTs (symN q.1 nm (l.length : Nat)).2.ys l)[y]? = _
        rw [hpre]
        exact ys_up hy'
      refine ⟨?_, fun i h4 h5 => ?_⟩
      · rw [Rh]
        exact .inr (.inr (.inr ⟨rfl, rfl, q.1.cs.length, y, rfl, hhead, hsy, i1⟩))
      · rcases Nat.lt_or_ge i (q.1.cs.length + 1) with h6 | h6
        · have : i = q.1.cs.length := by omega
          subst this
          refine .inl ⟨y, l.length, nm, hhead, hsy, h2, h3, fun j g1 g2 => ?_⟩
          obtain ⟨c, g3, g4⟩ := Rhs_at i1 (j := j - 1) (by omega)
          exact ⟨_, c, hpl _ (getD_mem (by omega)), by rw [← g3]; congr 1; omega, g4⟩
        rcases Nat.lt_or_ge i (q.1.cs.length + 1 + l.length) with h7 | h7
        · exact i3 i h6 h7
        · exact i2 i (by show (grow _ _ _).length ≤ i; omega) h5
theorem addAs_rep {S : So} {f : Int → Ce} {P : Te → Prop} (hP : ∀ k n nm l, P (.mk k n nm l) → ∀ t ∈ l, P t) : ∀ (l : List Te) (q : Sv) (to : Nat), (∀ t ∈ l, P t) → nodesTs l = true → SV q.2 → to + l.length ≤ q.1.cs.length → (∀ i, q.1.cs.length ≤ i → i < (addAs q l to).1.cs.length → S.cs[i]? = (addAs q l to).1.cs[i]?) → (∀ i, to ≤ i → i < to + l.length → S.cs[i]? = (addAs q l to).1.cs[i]?) → (∀ (i : Nat) y, (addAs q l to).1.ys[i]? = some y → S.ys[i]? = some y) → (∀ v c, ofV (addAs q l to).2 v = some c → f v = keptC c) →
    Rhs S f l to ∧ (∀ i, q.1.cs.length ≤ i → i < (addAs q l to).1.cs.length → NewOk S f P i) ∧ ∀ i, to ≤ i → i < to + l.length → NewOk S f P i
  | [], q, to, _, _, _, _, hc, hc2, hy, hf => by
    rw [addAs]
    refine ⟨?_, fun i h1 h2 => by omega, fun i h1 h2 => ?_⟩
    · rw [Rhs]; trivial
    · simp only [List.length_nil] at h2; omega
  | t :: l, q, to, hp, hn, hs, hto, hc, hc2, hy, hf => by
    rw [nodesTs, Bool.and_eq_true] at hn
    rw [List.length_cons] at hto hc2
    rw [addAs] at hc hc2 hy hf ⊢
    obtain ⟨g1, g2, g3, g4⟩ := addD_len t q (to : Nat) hn.1 hs
    have hm := addD_mono (a := (to : Nat)) hn.1 hs
    have hL := setC_len (addD q t (to : Nat)).2.1 to (addD q t (to : Nat)).1
    have hkeep := fun i h1 h2 h3 => addAs_keep l (setC (addD q t (to : Nat)).2.1 to (addD q t (to : Nat)).1, (addD q t (to : Nat)).2.2) (to + 1) i hn.2 g4 h1 h2 h3
    have hys := (addAs_len l (setC (addD q t (to : Nat)).2.1 to (addD q t (to : Nat)).1, (addD q t (to : Nat)).2.2) (to + 1) hn.2 g4).2.1
    have hm2 := addAs_mono (to := to + 1) (q := (setC (addD q t (to : Nat)).2.1 to (addD q t (to : Nat)).1, (addD q t (to : Nat)).2.2)) hn.2 g4
    have hof := addAs_of l (setC (addD q t (to : Nat)).2.1 to (addD q t (to : Nat)).1, (addD q t (to : Nat)).2.2) (to + 1) hn.2
    simp only at hm2
    rw [hL] at hm2
    have hset : ∀ i, i ≠ to → (setC (addD q t (to : Nat)).2.1 to (addD q t (to : Nat)).1).cs[i]? = (addD q t (to : Nat)).2.1.cs[i]? := fun i h => List.getElem?_set_ne (fun e => h e.symm)
    obtain ⟨m, hpre⟩ := symsTs_pre l (addD q t (to : Nat)).2.1.ys
    obtain ⟨r1, r2⟩ := addD_rep hP t q (to : Nat) (hp t List.mem_cons_self) hn.1 hs (fun i h1 h2 => by
      rw [hc i h1 (Nat.lt_of_lt_of_le h2 hm2), hkeep i (by rw [hL]; omega) (by rw [hL]; omega) (.inr (by omega)), hset i (by omega)]) (fun i y h => by
      refine hy i y ?_
      refine Eq.trans (congrArg (·[i]?) hys) ?_
      show (symsTs (addD q t (to : Nat)).2.1.ys l)[i]? = _
      rw [hpre]
      exact ys_up h) (fun v c h => hf v c (hof v c h))
    have hat : S.cs[to]? = some (addD q t (to : Nat)).1 := by
      rw [hc2 to (Nat.le_refl _) (by omega), hkeep to (by rw [hL]; omega) (by rw [hL]; omega) (.inl (by omega))]
      show ((addD q t (to : Nat)).2.1.cs.set to _)[to]? = _
      rw [List.getElem?_set_self (by omega)]
    obtain ⟨s1, s2, s3⟩ := addAs_rep hP l (setC (addD q t (to : Nat)).2.1 to (addD q t (to : Nat)).1, (addD q t (to : Nat)).2.2) (to + 1) (fun u hu => hp u (List.mem_cons_of_mem _ hu)) hn.2 g4 (by rw [hL]; omega) (fun i h1 h2 => hc i (by rw [hL] at h1; omega) h2) (fun i h1 h2 => hc2 i (by omega) (by omega)) hy hf
    refine ⟨?_, fun i h1 h2 => ?_, fun i h1 h2 => ?_⟩
    · rw [Rhs]
      exact ⟨⟨_, hat, r1⟩, s1⟩
    · rcases Nat.lt_or_ge i (addD q t (to : Nat)).2.1.cs.length with h3 | h3
      · exact r2 i h1 h3
      · exact s2 i (by rw [hL]; exact h3) h2
    · rw [List.length_cons] at h2
      rcases Nat.lt_or_ge to i with h3 | h3
      · exact s3 i h3 (by omega)
      · have : i = to := by omega
        subst this
        exact .inr ⟨_, _, hp t List.mem_cons_self, hat, r1⟩
end
mutual
/-- New variables: their cells hold themselves. -/
theorem addD_new {S : So} : ∀ (t : Te) (q : Sv) (a : Int), nodesT t = true → SV q.2 → (∀ i, q.1.cs.length ≤ i → i < (addD q t a).2.1.cs.length → S.cs[i]? = (addD q t a).2.1.cs[i]?) → (0 ≤ a → S.cs[a.toNat]? = some (addD q t a).1) → ∀ v c, ofV (addD q t a).2.2 v = some c → ofV q.2 v = some c ∨ ∃ p : Nat, c = ⟨0, p⟩ ∧ S.cs[p]? = some c ∧ (q.1.cs.length ≤ p ∨ a = p)
  | .mk k n nm l, q, a, hn, hs, hc, ha, v, c, hv => by
    rw [nodesT, Bool.and_eq_true] at hn
    rcases node_cases hn.1 with ⟨rfl, rfl, h1, h2⟩ | ⟨rfl, rfl⟩ | ⟨rfl, rfl, h1⟩ | ⟨rfl, h1, h2, h3⟩
    · rw [addD_0] at hc ha hv
      cases ho : ofV q.2 n with
      | some c' => simp only [ho] at hv; exact .inl hv
      | none =>
        by_cases h0 : a < 0
        · simp only [ho, if_pos h0] at hc hv
          rw [ofV_ins ho] at hv
          split at hv
          · cases hv
            refine .inr ⟨_, rfl, ?_, .inl (Nat.le_refl _)⟩
            rw [hc _ (Nat.le_refl _) (by simp)]
            simp
          · exact .inl hv
        · simp only [ho, if_neg h0] at ha hv
          rw [ofV_ins ho] at hv
          split at hv
          · cases hv
            have e : (a.toNat : Int) = a := Int.toNat_of_nonneg (by omega)
            refine .inr ⟨a.toNat, by rw [e], ha (by omega), .inr e.symm⟩
          · exact .inl hv
    · rw [addD_1] at hv; exact .inl hv
    · rw [addD_2] at hv; exact .inl hv
    · rw [addD_3] at hc hv
      have hg := grow_len q.1 (symN q.1 nm (l.length : Nat)).1 l.length
      have hm : q.1.cs.length + 1 + l.length ≤ (addAs ({ (symN q.1 nm (l.length : Nat)).2 with cs := grow q.1 (symN q.1 nm (l.length : Nat)).1 l.length }, q.2) l (q.1.cs.length + 1)).1.cs.length := by
        rw [← hg]
        exact addAs_mono (q := ({ (symN q.1 nm (l.length : Nat)).2 with cs := grow q.1 (symN q.1 nm (l.length : Nat)).1 l.length }, q.2)) hn.2 hs
      rcases addAs_new l ({ (symN q.1 nm (l.length : Nat)).2 with cs := grow q.1 (symN q.1 nm (l.length : Nat)).1 l.length }, q.2) (q.1.cs.length + 1) hn.2 hs (by show _ ≤ (grow _ _ _).length; omega) (fun i h1 h2 => hc i (by have h1 : (grow _ _ _).length ≤ i := h1; omega) h2) (fun i h1 h2 => hc i (by omega) (Nat.lt_of_lt_of_le h2 hm)) v c hv with h | ⟨p, e1, e2, e3⟩
      · exact .inl h
      · refine .inr ⟨p, e1, e2, .inl ?_⟩
        rcases e3 with e3 | e3
        · have e3 : (grow _ _ _).length ≤ p := e3
          omega
        · omega
theorem addAs_new {S : So} : ∀ (l : List Te) (q : Sv) (to : Nat), nodesTs l = true → SV q.2 → to + l.length ≤ q.1.cs.length → (∀ i, q.1.cs.length ≤ i → i < (addAs q l to).1.cs.length → S.cs[i]? = (addAs q l to).1.cs[i]?) → (∀ i, to ≤ i → i < to + l.length → S.cs[i]? = (addAs q l to).1.cs[i]?) → ∀ v c, ofV (addAs q l to).2 v = some c → ofV q.2 v = some c ∨ ∃ p : Nat, c = ⟨0, p⟩ ∧ S.cs[p]? = some c ∧ (q.1.cs.length ≤ p ∨ to ≤ p)
  | [], q, to, _, _, _, _, _, v, c, hv => by rw [addAs] at hv; exact .inl hv
  | t :: l, q, to, hn, hs, hto, hc, hc2, v, c, hv => by
    rw [nodesTs, Bool.and_eq_true] at hn
    rw [List.length_cons] at hto hc2
    rw [addAs] at hc hc2 hv
    obtain ⟨g1, g2, g3, g4⟩ := addD_len t q (to : Nat) hn.1 hs
    have hm := addD_mono (a := (to : Nat)) hn.1 hs
    have hL := setC_len (addD q t (to : Nat)).2.1 to (addD q t (to : Nat)).1
    have hkeep := fun i h1 h2 h3 => addAs_keep l (setC (addD q t (to : Nat)).2.1 to (addD q t (to : Nat)).1, (addD q t (to : Nat)).2.2) (to + 1) i hn.2 g4 h1 h2 h3
    have hm2 := addAs_mono (to := to + 1) (q := (setC (addD q t (to : Nat)).2.1 to (addD q t (to : Nat)).1, (addD q t (to : Nat)).2.2)) hn.2 g4
    simp only at hm2
    rw [hL] at hm2
    have hset : ∀ i, i ≠ to → (setC (addD q t (to : Nat)).2.1 to (addD q t (to : Nat)).1).cs[i]? = (addD q t (to : Nat)).2.1.cs[i]? := fun i h => List.getElem?_set_ne (fun e => h e.symm)
    have hat : S.cs[to]? = some (addD q t (to : Nat)).1 := by
      rw [hc2 to (Nat.le_refl _) (by omega), hkeep to (by rw [hL]; omega) (by rw [hL]; omega) (.inl (by omega))]
      show ((addD q t (to : Nat)).2.1.cs.set to _)[to]? = _
      rw [List.getElem?_set_self (by omega)]
    rcases addAs_new l (setC (addD q t (to : Nat)).2.1 to (addD q t (to : Nat)).1, (addD q t (to : Nat)).2.2) (to + 1) hn.2 g4 (by rw [hL]; omega) (fun i h1 h2 => hc i (by rw [hL] at h1; omega) h2) (fun i h1 h2 => hc2 i (by omega) (by omega)) v c hv with h | ⟨p, e1, e2, e3⟩
    · rcases addD_new t q (to : Nat) hn.1 hs (fun i h1 h2 => by
        rw [hc i h1 (Nat.lt_of_lt_of_le h2 hm2), hkeep i (by rw [hL]; omega) (by rw [hL]; omega) (.inr (by omega)), hset i (by omega)]) (fun _ => by simpa using hat) v c h with h | ⟨p, e1, e2, e3⟩
      · exact .inl h
      · exact .inr ⟨p, e1, e2, by omega⟩
    · exact .inr ⟨p, e1, e2, by rw [hL] at e3; omega⟩
end
end Go.Proofs.Ytinclokohcommaa


namespace Go.Proofs.Ytinclokohcommaa
open Go.RowKit
set_option linter.unusedVariables false
set_option linter.unusedSimpArgs false

theorem cell_of {S : So} {p : Nat} {c : Ce} (h : S.cs[p]? = some c) : inS S p = true ∧ cellAt S p = c := by
  have hl := (List.getElem?_eq_some_iff.1 h).1
  refine ⟨inS_iff.2 ⟨by omega, by omega⟩, ?_⟩
  show S.cs.getD ((p : Nat) : Int).toNat default = c
  rw [Int.toNat_natCast, List.getD_eq_getElem?_getD, h]
  rfl
theorem ar_of {S : So} {y : Nat} {nm : ByteArray} {k : Int} (h : S.ys[y]? = some ⟨nm, k⟩) : arS S y = k ∧ syAt S y = ⟨nm, k⟩ := by
  have hl := (List.getElem?_eq_some_iff.1 h).1
  have e : S.ys.getD y default = ⟨nm, k⟩ := by
    rw [List.getD_eq_getElem?_getD, h]
    rfl
  have e2 : syAt S y = ⟨nm, k⟩ := by
    show S.ys.getD ((y : Nat) : Int).toNat default = _
    rw [Int.toNat_natCast, e]
  refine ⟨?_, e2⟩
  unfold arS
  rw [if_pos ⟨by omega, by omega⟩, Int.toNat_natCast, e]
mutual
/-- A term with terms for its variables. -/
def subT (g : Int → Te) : Te → Te
  | .mk k n s l => if k = 0 then g n else .mk k n s (subTs g l)
def subTs (g : Int → Te) : List Te → List Te
  | [] => []
  | t :: l => subT g t :: subTs g l
end
theorem subTs_len (g : Int → Te) : ∀ l, (subTs g l).length = l.length
  | [] => rfl
  | t :: l => by rw [subTs, List.length_cons, subTs_len g l, List.length_cons]
theorem der_id {S : So} {c : Ce} (hv : vcR S c = true) (h : c.t ≠ 0 ∨ cellAt S c.n = c) : derS S c = c := by
  rw [derS, if_pos hv, derN, if_neg]
  rintro ⟨h1, h2, h3⟩
  rcases h with h | h
  · exact h h1
  · exact h3 h
def cellsFrom (S : So) : Nat → Nat → List Ce
  | p, 0 => []
  | p, k + 1 => cellAt S p :: cellsFrom S (p + 1) k
theorem args_from (S : So) : ∀ (k p : Nat), (List.range k).map (fun j : Nat => cellAt S ((p : Nat) + (j : Nat))) = cellsFrom S p k
  | 0, p => rfl
  | k + 1, p => by
    rw [List.range_succ_eq_map, List.map_cons, List.map_map, cellsFrom, ← args_from S k (p + 1)]
    congr 1
    refine List.map_congr_left fun j _ => ?_
    show cellAt S ((p : Int) + ((j + 1 : Nat) : Int)) = cellAt S (((p + 1 : Nat) : Int) + (j : Int))
    congr 1
    omega
theorem argsOf_from (S : So) (p k : Nat) : argsOf S (p : Nat) k = cellsFrom S (p + 1) k := by
  rw [← args_from]
  rfl
theorem node_form {k n : Int} {s : ByteArray} {l : List Te} (h : nodeT (.mk k n s l) = true) : (k = 1 → s = ⟨#[]⟩ ∧ l = []) ∧ (k = 2 → n = 0 ∧ l = []) ∧ (k = 3 → n = 0) := by
  have hc := node_cases h
  rw [nodeT_k] at h
  refine ⟨fun e => ?_, fun e => ?_, fun e => ?_⟩
  · subst e
    simp at h
    exact ⟨h.1, h.2⟩
  · subst e
    simp at h
    exact ⟨h.1, h.2.2⟩
  · subst e
    simp at h
    exact h.1
section
variable {S : So} {f : Int → Ce} {g : Int → Te} {V : List Int}
mutual
theorem get_rep (hg : ∀ v ∈ V, ∀ (m : Nat) (l : Int), szT (g v) ≤ m → (szT (g v) : Int) ≤ l → getN S m (f v) l = (g v, l - szT (g v))) : ∀ (t : Te) (c : Ce), inV V t → nodesT t = true → Rh S f t c → ∀ (m : Nat) (l : Int), szT (subT g t) ≤ m → (szT (subT g t) : Int) ≤ l → getN S m c l = (subT g t, l - szT (subT g t))
  | .mk k n nm l, c, hi, hn, hr, m, a, hm, ha => by
    rw [inV_mk] at hi
    rw [nodesT, Bool.and_eq_true] at hn
    obtain ⟨f1, f2, f3⟩ := node_form hn.1
    rw [Rh] at hr
    rcases hr with ⟨rfl, rfl⟩ | ⟨rfl, rfl⟩ | ⟨rfl, ht, y, hy, hs⟩ | ⟨rfl, ht, p, y, hp, hc, hs, hl⟩
    · rw [subT, if_pos rfl] at hm ha ⊢
      exact hg n (hi.1 rfl) m a hm ha
    · obtain ⟨rfl, rfl⟩ := f1 rfl
      rw [subT, if_neg (by decide), subTs] at hm ha ⊢
      simp only [szT, szTs] at hm ha ⊢
      obtain ⟨m, rfl⟩ : ∃ m', m = m' + 1 := ⟨m - 1, by omega⟩
      have hd : derS S ⟨1, n⟩ = ⟨1, n⟩ := der_id rfl (.inl (fun h => absurd h (by decide : ¬ (1 : Int) = 0)))
      rw [getN, if_neg (by omega), hd]
      rfl
    · obtain ⟨rfl, rfl⟩ := f2 rfl
      obtain ⟨q1, q2⟩ := ar_of hs
      rw [subT, if_neg (by decide), subTs] at hm ha ⊢
      simp only [szT, szTs] at hm ha ⊢
      obtain ⟨m, rfl⟩ : ∃ m', m = m' + 1 := ⟨m - 1, by omega⟩
      have hv : vcR S c = true := by
        unfold vcR
        rw [if_neg (by omega), if_neg (by omega), if_pos ht, hy, q1]
        rfl
      have hd : derS S c = c := der_id hv (.inl (by omega))
      rw [getN, if_neg (by omega), hd, if_neg (by omega), if_pos ht, hy, q2]
      rfl
    · have hn0 := f3 rfl
      subst hn0
      obtain ⟨q1, q2⟩ := ar_of hs
      obtain ⟨q3, q4⟩ := cell_of hc
      rw [subT, if_neg (by decide)] at hm ha ⊢
      simp only [szT] at hm ha ⊢
      obtain ⟨m, rfl⟩ : ∃ m', m = m' + 1 := ⟨m - 1, by omega⟩
      have hv : vcR S c = true := by
        unfold vcR
        rw [if_neg (by omega), if_neg (by omega), if_neg (by omega), if_pos ht, hp, tagS_in q3, q4]
        rfl
      have hd : derS S c = c := der_id hv (.inl (by omega))
      have ih := gets_rep hg l (p + 1) hi.2 hn.2 hl m (a - 1) (by omega) (by omega)
      rw [getN, if_neg (by omega), hd, if_neg (by omega), if_neg (by omega), if_pos ht, hp, q4]
      simp only [q1, q2, argsOf_from, Int.toNat_natCast, ih]
      congr 1
      omega
theorem gets_rep (hg : ∀ v ∈ V, ∀ (m : Nat) (l : Int), szT (g v) ≤ m → (szT (g v) : Int) ≤ l → getN S m (f v) l = (g v, l - szT (g v))) : ∀ (l : List Te) (p : Nat), inVs V l → nodesTs l = true → Rhs S f l p → ∀ (m : Nat) (a : Int), szTs (subTs g l) ≤ m → (szTs (subTs g l) : Int) ≤ a → getL (getN S m) (cellsFrom S p l.length) a = (subTs g l, a - szTs (subTs g l))
  | [], p, _, _, _, m, a, _, _ => by
    simp only [List.length_nil, cellsFrom, getL, subTs, szTs]
    congr 1
    omega
  | t :: l, p, hi, hn, hr, m, a, hm, ha => by
    rw [inVs] at hi
    rw [nodesTs, Bool.and_eq_true] at hn
    rw [Rhs] at hr
    obtain ⟨⟨c, hc, hrt⟩, hrl⟩ := hr
    obtain ⟨q3, q4⟩ := cell_of hc
    rw [subTs] at hm ha ⊢
    rw [szTs] at hm ha ⊢
    have h1 := szT_pos (subT g t)
    have ih := get_rep hg t c hi.1 hn.1 hrt m a (by omega) (by omega)
    have ih2 := gets_rep hg l (p + 1) hi.2 hn.2 hrl m (a - szT (subT g t)) (by omega) (by omega)
    rw [List.length_cons, cellsFrom, q4, getL, if_neg (by omega), ih]
    simp only [ih2]
    congr 1
    omega
end
end

structure Ext (s S : So) : Prop where
  cs : ∀ i : Nat, i < s.cs.length → S.cs[i]? = s.cs[i]?
  len : s.cs.length ≤ S.cs.length
  ys : ∀ (i : Nat) y, s.ys[i]? = some y → S.ys[i]? = some y
section
variable {s S : So}
theorem Ext.inS (E : Ext s S) {i : Int} (h : inS s i = true) : inS S i = true ∧ cellAt S i = cellAt s i := by
  have q := inS_iff.1 h
  have hl := E.len
  refine ⟨inS_iff.2 ⟨q.1, by omega⟩, ?_⟩
  unfold cellAt
  rw [List.getD_eq_getElem?_getD, List.getD_eq_getElem?_getD, E.cs _ (by omega)]
theorem Ext.tag (E : Ext s S) {i : Int} (h : i < s.cs.length) : tagS S i = tagS s i := by
  cases hi : Go.Proofs.Ytinclokohcommaa.inS s i with
  | true => rw [tagS_in hi, tagS_in (E.inS hi).1, (E.inS hi).2]
  | false =>
    rw [tagS_out hi, tagS_out]
    cases h2 : Go.Proofs.Ytinclokohcommaa.inS S i with
    | false => rfl
    | true =>
      have q := inS_iff.1 h2
      rw [inS_iff.2 ⟨q.1, h⟩] at hi
      cases hi
theorem Ext.ar (E : Ext s S) {n : Int} (h : 0 ≤ arS s n) : arS S n = arS s n ∧ syAt S n = syAt s n := by
  obtain ⟨h0, h1, h2⟩ := ar_rng h
  have hy : s.ys[n.toNat]? = some (syAt s n) := by
    unfold syAt
    rw [List.getD_eq_getElem?_getD, List.getElem?_eq_getElem (by omega)]
    rfl
  have hY := E.ys _ _ hy
  have hn : n = ((n.toNat : Nat) : Int) := by omega
  generalize hz : syAt s n = z at hY hy
  obtain ⟨nm, k⟩ := z
  have a1 := ar_of hy
  have a2 := ar_of hY
  rw [← hn] at a1 a2
  exact ⟨a2.1.trans a1.1.symm, a2.2⟩
theorem Ext.vc (E : Ext s S) {c : Ce} (h : vcR s c = true) : vcR S c = true := by
  rcases vcR_tag h with ht | ht | ht | ht | ht
  · obtain ⟨h1, h2⟩ := vc_ref h ht
    obtain ⟨h3, h4⟩ := E.inS h1
    unfold vcR
    rw [if_pos ht, tagS_in h3, h3, h4]
    simp [h2]
  · unfold vcR
    rw [if_neg (by omega), if_pos ht]
  · unfold vcR at h ⊢
    rw [if_neg (by omega), if_neg (by omega), if_pos ht] at h ⊢
    have h := of_decide_eq_true h
    rw [(E.ar (by omega)).1, h]
    rfl
  · unfold vcR at h ⊢
    rw [if_neg (by omega), if_neg (by omega), if_neg (by omega), if_pos ht] at h ⊢
    have h := of_decide_eq_true h
    rw [E.tag (inS_iff.1 (tag_in' (by decide) h)).2, h]
    rfl
  · unfold vcR at h ⊢
    rw [if_neg (by omega), if_neg (by omega), if_neg (by omega), if_neg (by omega), if_pos ht] at h ⊢
    have h := of_decide_eq_true h
    rw [E.tag (inS_iff.1 (tag_in' (by decide) h)).2, h]
    rfl
theorem Ext.ends (E : Ext s S) (h : validR s = true) : ∀ (k : Nat) (n : Int), Go.Proofs.Ytinclokohcommaa.inS s n = true → endsN s k n = true → endsN S k n = true
  | 0, n, _, h1 => by cases h1
  | k + 1, n, hi, h1 => by
    have hT := E.tag (inS_iff.1 hi).2
    have hC := (E.inS hi).2
    by_cases hn : Ns s n
    · have hn' : Ns S n := ⟨hT.trans hn.1, by rw [hC]; exact hn.2⟩
      rw [endsN_ns hn] at h1
      rw [endsN_ns hn', nx, hC]
      exact Ext.ends E h k _ (vr_nx h hn) h1
    · exact endsN_st fun q => hn ⟨hT.symm.trans q.1, by have := q.2; rwa [hC] at this⟩
theorem Ext.derN (E : Ext s S) (h : validR s = true) : ∀ (k : Nat) {c : Ce}, vcR s c = true → Go.Proofs.Ytinclokohcommaa.derN S k c = Go.Proofs.Ytinclokohcommaa.derN s k c
  | 0, c, _ => rfl
  | k + 1, c, hc => by
    unfold Go.Proofs.Ytinclokohcommaa.derN
    by_cases ht : c.t = 0
    · obtain ⟨h1, h2⟩ := vc_ref hc ht
      obtain ⟨h3, h4⟩ := E.inS h1
      rw [h1, h3, h4]
      by_cases he : cellAt s c.n = c
      · rw [if_neg (fun q => q.2.2 he), if_neg (fun q => q.2.2 he)]
      · rw [if_pos ⟨ht, rfl, he⟩, if_pos ⟨ht, rfl, he⟩]
        exact Ext.derN E h k (vr_vc h h1 h2)
    · rw [if_neg (fun q => ht q.1), if_neg (fun q => ht q.1)]
theorem Ext.der (E : Ext s S) (h : validR s = true) {c : Ce} (hc : vcR s c = true) : derS S c = derS s c := by
  rw [derS, derS, if_pos hc, if_pos (E.vc hc), E.derN h _ hc]
  have hl := E.len
  by_cases ht : c.t = 0
  · have e : c = ⟨0, c.n⟩ := Ce.ext' ht rfl
    rw [e, ← der_len h (by rw [← e]; exact hc), show S.cs.length + 1 = s.cs.length + (S.cs.length + 1 - s.cs.length) by omega]
    exact der_stable _ _ _ (vr_ends_len h (vc_ref hc ht).1)
  · rw [derN_t ht, derN_t ht]
theorem getL_ext {g G : Ce → Int → Te × Int} {b : Int} {m : Nat} (hle : ∀ c l, 0 ≤ l → (g c l).2 ≤ l - 1 ∧ -1 ≤ (g c l).2) {P : Ce → Prop} (hg : ∀ c l, P c → 0 ≤ l → l ≤ b → 0 ≤ (g c l).2 → ∀ l', l - (g c l).2 ≤ m → l - (g c l).2 ≤ l' → G c l' = ((g c l).1, l' - (l - (g c l).2))) : ∀ (cs : List Ce) (l : Int), (∀ c ∈ cs, P c) → -1 ≤ l → l ≤ b → 0 ≤ (getL g cs l).2 → ∀ l', l - (getL g cs l).2 ≤ m → l - (getL g cs l).2 ≤ l' → getL G cs l' = ((getL g cs l).1, l' - (l - (getL g cs l).2))
  | [], l, _, _, _, h, l', _, _ => by
    simp only [getL]
    congr 1
    omega
  | c :: cs, l, hP, h0, hb, h, l', hm, hl' => by
    unfold getL at h hm hl' ⊢
    split at h
    · simp only at h; omega
    rename_i hn
    rw [if_neg hn] at hm hl' ⊢
    simp only at h hm hl' ⊢
    have h1 := hle c l (by omega)
    have h2 := getL_le hle cs (g c l).2 h1.2
    have e := hg c l (hP c List.mem_cons_self) (by omega) hb (by omega) l' (by omega) (by omega)
    have e2 := getL_ext hle hg cs (g c l).2 (fun x hx => hP x (List.mem_cons_of_mem _ hx)) h1.2 (by omega) h (l' - (l - (g c l).2)) (by omega) (by omega)
    rw [if_neg (by omega), e]
    simp only [e2]
    congr 1
    omega
theorem get_ext (E : Ext s S) (h : validR s = true) : ∀ (f : Nat) (c : Ce) (l : Int), vcR s c = true → 0 ≤ l → l < f → 0 ≤ (getN s f c l).2 → ∀ (m : Nat) (l' : Int), l - (getN s f c l).2 ≤ m → l - (getN s f c l).2 ≤ l' → getN S m c l' = ((getN s f c l).1, l' - (l - (getN s f c l).2))
  | 0, c, l, _, h0, hlf, _, _, _, _, _ => by omega
  | f + 1, c, l, hc, h0, hlf, hr, m, l', hm, hl' => by
    have hle := getN_le s (f + 1) c l h0
    obtain ⟨m, rfl⟩ : ∃ m', m = m' + 1 := ⟨m - 1, by omega⟩
    have hl1 : ¬ (l' - 1 < 0) := by omega
    have hd := derS_vc h hc
    rw [getN, E.der h hc, if_neg hl1]
    unfold getN at hr hm hl' ⊢
    split at hr
    · simp only at hr; omega
    rename_i hn
    rw [if_neg hn] at hm hl' ⊢
    split at hr
    · rename_i ht
      simp only [if_pos ht]
      congr 1
      omega
    rename_i h1
    rw [if_neg h1] at hm hl' ⊢
    rw [if_neg h1]
    split at hr
    · rename_i ht
      rw [if_pos ht, if_pos ht]
      have ha : arS s (derS s c).n = 0 := by
        simp only [vcR, ht] at hd
        simpa using hd
      rw [(E.ar (by omega)).2]
      simp only
      congr 1
      omega
    rename_i h2
    rw [if_neg h2] at hm hl' ⊢
    rw [if_neg h2]
    split at hr
    · rename_i ht
      rw [if_pos ht] at hm hl' ⊢
      rw [if_pos ht]
      have htag : tagS s (derS s c).n = 4 := by
        simp only [vcR, ht] at hd
        simpa using hd
      have hin := tag_in' (by decide) htag
      rw [tagS_in hin] at htag
      obtain ⟨a1, a2, a3⟩ := vr_fun h hin htag
      obtain ⟨b1, b2⟩ := E.inS hin
      obtain ⟨b3, b4⟩ := E.ar (n := (cellAt s (derS s c).n).n) (by omega)
      have hA : argsOf S (derS s c).n (arS s (cellAt s (derS s c).n).n).toNat = argsOf s (derS s c).n (arS s (cellAt s (derS s c).n).n).toNat := by
        refine List.map_congr_left fun j hj => ?_
        have := List.mem_range.1 hj
        exact (E.inS (a3 j (by omega)).1).2
      rw [b2, b3, b4, hA]
      simp only at hr hm hl' ⊢
      have e := getL_ext (g := getN s f) (G := getN S m) (b := l - 1) (m := m) (P := fun c => vcR s c = true) (getN_le s f) (fun c l hc h0 hb hr l' hm hl' => get_ext E h f c l hc h0 (by omega) hr m l' hm hl') (argsOf s (derS s c).n (arS s (cellAt s (derS s c).n).n).toNat) (l - 1) (fun x hx => by
        obtain ⟨j, hj, rfl⟩ := List.mem_map.1 hx
        have := List.mem_range.1 hj
        exact (a3 j (by omega)).2) (by omega) (Int.le_refl _) hr (l' - 1) (by omega) (by omega)
      simp only [e]
      congr 1
      omega
    rename_i h3
    simp only [if_neg h3]
    congr 1
    omega
end
end Go.Proofs.Ytinclokohcommaa


namespace Go.Proofs.Ytinclokohcommaa
open Go.RowKit
set_option linter.unusedVariables false
set_option linter.unusedSimpArgs false

theorem symsB_iff {ys : List Sy} : symsB ys = true ↔ ys.length ≤ 1048576 ∧ ys.Nodup ∧ ∀ y ∈ ys, okY y = true := by
  unfold symsB
  rw [Bool.and_eq_true, decide_eq_true_eq, List.all_eq_true]
  refine and_congr Iff.rfl ?_
  constructor
  · intro h
    have h' : ∀ k, k < ys.length → symAt ys k = true := fun k hk => h k (List.mem_range.2 hk)
    refine ⟨List.pairwise_iff_getElem.2 fun i j hi hj hij e => ?_, fun y hy => ?_⟩
    · have := h' j hj
      simp only [symAt, Bool.and_eq_true, Bool.not_eq_true', decide_eq_false_iff_not] at this
      refine this.2 ?_
      rw [show ys.getD j default = ys[i] by rw [e]; simp [List.getD_eq_getElem?_getD, hj]]
      exact List.mem_iff_getElem.2 ⟨i, by simp; omega, by simp⟩
    · obtain ⟨k, hk, rfl⟩ := List.mem_iff_getElem.1 hy
      have := h' k hk
      simp only [symAt, Bool.and_eq_true] at this
      simpa [List.getD_eq_getElem?_getD, hk] using this.1
  · rintro ⟨hn, ho⟩ k hk
    have hk := List.mem_range.1 hk
    simp only [symAt, Bool.and_eq_true, Bool.not_eq_true', decide_eq_false_iff_not]
    have e : ys.getD k default = ys[k] := by simp [List.getD_eq_getElem?_getD, hk]
    rw [e]
    refine ⟨ho _ (List.getElem_mem hk), fun hm => ?_⟩
    obtain ⟨i, hi, he⟩ := List.mem_iff_getElem.1 hm
    have hi2 : i < k := by simp at hi; omega
    rw [List.getElem_take] at he
    exact List.pairwise_iff_getElem.1 hn i k (by omega) hk hi2 he
def okYs (ys : List Sy) : Prop := ys.Nodup ∧ ∀ y ∈ ys, okY y = true
theorem symX_ok {ys : List Sy} {y : Sy} (h : okYs ys) (hy : okY y = true) : okYs (symX ys y) := by
  unfold symX
  split
  · exact h
  · rename_i hm
    refine ⟨List.nodup_append.2 ⟨h.1, by simp, fun a ha b hb e => ?_⟩, fun z hz => ?_⟩
    · rw [List.mem_singleton.1 hb] at e
      exact hm (e ▸ ha)
    · rcases List.mem_append.1 hz with hz | hz
      · exact h.2 z hz
      · rw [List.mem_singleton.1 hz]; exact hy
mutual
theorem symsT_ok : ∀ (t : Te) (ys : List Sy), nodesT t = true → okYs ys → okYs (symsT ys t)
  | .mk k n nm l, ys, hn, h => by
    rw [nodesT, Bool.and_eq_true] at hn
    rw [symsT]
    refine symsTs_ok l _ hn.2 ?_
    rcases node_cases hn.1 with ⟨rfl, rfl, h1, h2⟩ | ⟨rfl, rfl⟩ | ⟨rfl, rfl, h1⟩ | ⟨rfl, h1, h2, h3⟩
    · exact h
    · exact h
    · refine symX_ok h ?_
      simp [okY]
      omega
    · refine symX_ok h ?_
      simp [okY]
      omega
theorem symsTs_ok : ∀ (l : List Te) (ys : List Sy), nodesTs l = true → okYs ys → okYs (symsTs ys l)
  | [], ys, _, h => by rw [symsTs]; exact h
  | t :: l, ys, hn, h => by
    rw [nodesTs, Bool.and_eq_true] at hn
    rw [symsTs]
    exact symsTs_ok l _ hn.2 (symsT_ok t ys hn.1 h)
end
structure Vgood (S : So) (c : Ce) : Prop where
  vc : vcR S c = true
  no5 : c.t ≠ 5
  ends : c.t = 0 → endsN S S.cs.length c.n = true
section
variable {s S : So} {f : Int → Ce} {V : List Int}
theorem Rh_good (hf : ∀ v ∈ V, Vgood S (f v)) {t : Te} {c : Ce} (hi : inV V t) (hn : nodesT t = true) (h : Rh S f t c) : Vgood S c := by
  obtain ⟨k, n, nm, l⟩ := t
  rw [inV_mk] at hi
  rw [Rh] at h
  rcases h with ⟨rfl, rfl⟩ | ⟨rfl, rfl⟩ | ⟨rfl, ht, y, hy, hs⟩ | ⟨rfl, ht, p, y, hp, hc, hs, hl⟩
  · exact hf n (hi.1 rfl)
  · exact ⟨rfl, fun h => absurd h (by decide : ¬ (1 : Int) = 5), fun h => absurd h (by decide : ¬ (1 : Int) = 0)⟩
  · obtain ⟨q1, q2⟩ := ar_of hs
    refine ⟨?_, by omega, fun h => by omega⟩
    unfold vcR
    rw [if_neg (by omega), if_neg (by omega), if_pos ht, hy, q1]
    rfl
  · obtain ⟨q3, q4⟩ := cell_of hc
    refine ⟨?_, by omega, fun h => by omega⟩
    unfold vcR
    rw [if_neg (by omega), if_neg (by omega), if_neg (by omega), if_pos ht, hp, tagS_in q3, q4]
    rfl
theorem Vgood.no4 {c : Ce} (h : Vgood S c) : c.t ≠ 4 := fun e => by
  rcases vcR_tag h.vc with q | q | q | q | q <;> omega
theorem group_ext (E : Ext s S) (hs : S.ser = s.ser) {i : Int} (h : groupS s i = true) : groupS S i = true := by
  simp only [groupS, Bool.and_eq_true, decide_eq_true_eq, Bool.not_eq_true', decide_eq_false_iff_not] at h ⊢
  obtain ⟨h1, h2, h3, h4, h5, h6⟩ := h
  have i1 := tag_in' (by decide) h1
  have i2 := tag_nn h4
  rw [E.tag (inS_iff.1 i1).2, E.tag (inS_iff.1 i2).2, (E.inS i1).2, hs]
  exact ⟨h1, h2, h3, h4, h5, h6⟩
theorem cellR_ext (E : Ext s S) (h : validR s = true) (hs : S.ser = s.ser) {i : Int} (hi : inS s i = true) : cellR S i = true := by
  have hc := vr_cell h hi
  have he := vr_ends_len h hi
  have hl := E.len
  unfold cellR at hc ⊢
  rw [(E.inS hi).2]
  split at hc
  · rename_i ht
    rw [if_pos ht]
    simp only [Bool.and_eq_true, decide_eq_true_eq, List.all_eq_true, List.mem_range, Bool.not_eq_true', decide_eq_false_iff_not] at hc ⊢
    obtain ⟨h1, h2, h3⟩ := hc
    rw [(E.ar (by omega)).1]
    have q := inS_iff.1 h2
    refine ⟨h1, (E.inS h2).1, fun j hj => ?_⟩
    rw [E.tag (by omega)]
    exact h3 j hj
  · rename_i ht
    rw [if_neg ht]
    simp only [Bool.and_eq_true, Bool.or_eq_true, decide_eq_true_eq] at hc ⊢
    obtain ⟨h1, h2, h3⟩ := hc
    refine ⟨E.vc h1, ?_, h3.imp id fun q => ⟨q.1, group_ext E hs q.2⟩⟩
    exact endsN_le (by omega) (E.ends h _ _ hi he)
theorem old_ext (E : Ext s S) (hs : S.ser = s.ser) {u : Un} (h : oldR s u = true) : oldR S u = true := by
  simp only [oldR, oldB, Bool.and_eq_true] at h ⊢
  obtain ⟨h1, h2⟩ := h
  have q := inS_iff.1 h1
  refine ⟨(E.inS h1).1, ?_⟩
  split at h2
  · rename_i h3
    rw [if_pos h3]; exact h2
  rename_i h3
  rw [if_neg h3]
  split at h2
  · rename_i h4
    rw [if_pos h4]
    simp only [Bool.and_eq_true] at h2 ⊢
    refine ⟨h2.1, group_ext E hs h2.2.1, ?_⟩
    rw [E.tag (by omega)]
    exact h2.2.2
  rename_i h4
  rw [if_neg h4]
  split at h2
  · rename_i h5
    rw [if_pos h5]; exact E.vc h2
  · cases h2
theorem wake_ext (E : Ext s S) (hs : S.ser = s.ser) {w : Wk} (h : wkB vcR s w = true) : wkB vcR S w = true := by
  simp only [wkB, Bool.and_eq_true] at h ⊢
  rw [hs]
  exact ⟨h.1, h.2.1, E.vc h.2.2.1, E.vc h.2.2.2⟩
theorem cellR_new (hf : ∀ v ∈ V, Vgood S (f v)) {i : Nat} (h : NewOk S f (fun t => nodesT t = true ∧ inV V t) i) : cellR S i = true := by
  have e1 : ∀ k : Nat, (k : Int).toNat = k := fun k => Int.toNat_natCast k
  rcases h with ⟨y, k, nm, hc, hy, h1, h2, hj⟩ | ⟨t, c, ⟨hn, hi⟩, hc, hr⟩
  · obtain ⟨q1, q2⟩ := cell_of hc
    obtain ⟨q3, q4⟩ := ar_of hy
    unfold cellR
    rw [q2, if_pos rfl]
    simp only [q3, e1, Bool.and_eq_true, decide_eq_true_eq, List.all_eq_true, List.mem_range, Bool.not_eq_true', decide_eq_false_iff_not]
    refine ⟨by omega, ?_, fun j hjk => ?_⟩
    · obtain ⟨t, c, -, g1, -⟩ := hj k h1 (Nat.le_refl _)
      exact (cell_of g1).1
    · obtain ⟨t, c, ⟨g0, g00⟩, g1, g2⟩ := hj (j + 1) (by omega) (by omega)
      obtain ⟨g3, g4⟩ := cell_of g1
      have e : ((i : Int) + ((j : Int) + 1)) = ((i + (j + 1) : Nat) : Int) := by omega
      rw [e, tagS_in g3, g4]
      exact (Rh_good hf g00 g0 g2).no4
  · obtain ⟨q1, q2⟩ := cell_of hc
    have hg := Rh_good hf hi hn hr
    unfold cellR
    rw [q2, if_neg hg.no4, hg.vc]
    simp only [Bool.true_and, Bool.and_eq_true, Bool.or_eq_true]
    refine ⟨?_, .inl (by simp [hg.no5])⟩
    unfold endsB
    by_cases hN : Ns S i
    · rw [endsN_ns hN, nx, q2]
      refine hg.ends ?_
      have := hN.1
      rwa [tagS_in q1, q2] at this
    · exact endsN_st hN
theorem valid_new (h : validR s = true) (E : Ext s S) (hm : S.mx = s.mx) (ht : S.tr = s.tr) (hw : S.wk = s.wk) (hs : S.ser = s.ser) (hc : (S.cs.length : Int) ≤ S.mx) (hy : symsB S.ys = true) (hf : ∀ v ∈ V, Vgood S (f v)) (hn : ∀ i, s.cs.length ≤ i → i < S.cs.length → NewOk S f (fun t => nodesT t = true ∧ inV V t) i) : validR S = true := by
  have hh := vr_head h
  have h0 := h
  simp only [validR, headB, Bool.and_eq_true, decide_eq_true_eq] at h hh ⊢
  obtain ⟨-, h2, h3, h4⟩ := h
  rw [hm, hs, ht, hw]
  refine ⟨⟨hh.1, hh.2.1, by rw [← hm]; exact hc, hh.2.2.2.1, hy⟩, all_yes fun i hi => ?_, all_yes fun i hi => old_ext E hs (all_of h3 hi), all_yes fun i hi => wake_ext E hs (all_of h4 hi)⟩
  rcases Nat.lt_or_ge i s.cs.length with h5 | h5
  · exact cellR_ext E h0 hs (inS_iff.2 ⟨by omega, by omega⟩)
  · exact cellR_new hf (hn i h5 hi)
end
end Go.Proofs.Ytinclokohcommaa


namespace Go.Proofs.Ytinclokohcommaa
open Go.RowKit
set_option linter.unusedVariables false
set_option linter.unusedSimpArgs false

def Fr (all : List Vc) (n : Nat) (H : Nat → Prop) : Prop := ∀ v c, ofV all v = some c → ∃ p : Nat, c = ⟨0, p⟩ ∧ p < n ∧ ¬ H p
def Inj (all : List Vc) : Prop := ∀ v w c, ofV all v = some c → ofV all w = some c → v = w
theorem Inj.ins {all : List Vc} {n : Int} {c : Ce} (h : Inj all) (ho : ofV all n = none) (hc : ∀ v, ofV all v ≠ some c) : Inj (insV all n c) := fun v w d hv hw => by
  rw [ofV_ins ho] at hv hw
  split at hv <;> split at hw
  · rename_i h1 h2; exact h1.trans h2.symm
  · cases hv; exact absurd hw (hc w)
  · cases hw; exact absurd hv (hc v)
  · exact h v w d hv hw
mutual
theorem addD_inj : ∀ (t : Te) (q : Sv) (a : Int) (H : Nat → Prop), nodesT t = true → SV q.2 → Fr q.2 q.1.cs.length H → (0 ≤ a → H a.toNat) → (∀ p, H p → p < q.1.cs.length) → Inj q.2 → Inj (addD q t a).2.2 ∧ Fr (addD q t a).2.2 (addD q t a).2.1.cs.length (fun p => H p ∧ (p : Int) ≠ a)
  | .mk k n nm l, q, a, H, hn, hs, hf, ha, hH, hi => by
    have hm := addD_mono (a := a) hn hs
    rw [nodesT, Bool.and_eq_true] at hn
    rcases node_cases hn.1 with ⟨rfl, rfl, h1, h2⟩ | ⟨rfl, rfl⟩ | ⟨rfl, rfl, h1⟩ | ⟨rfl, h1, h2, h3⟩
    · rw [addD_0] at hm ⊢
      cases ho : ofV q.2 n with
      | some c =>
        simp only [ho] at hm ⊢
        exact ⟨hi, fun v c hv => (hf v c hv).imp fun p ⟨e1, e2, e3⟩ => ⟨e1, e2, fun q => e3 q.1⟩⟩
      | none =>
        by_cases h0 : a < 0
        · simp only [ho, if_pos h0] at hm ⊢
          refine ⟨hi.ins ho fun v hv => ?_, fun v c hv => ?_⟩
          · obtain ⟨p, e1, e2, -⟩ := hf v _ hv
            have := congrArg Ce.n e1
            simp only at this
            omega
          · rw [ofV_ins ho] at hv
            split at hv
            · cases hv
              exact ⟨_, rfl, by simp, fun h => absurd (hH _ h.1) (Nat.lt_irrefl _)⟩
            · obtain ⟨p, e1, e2, e3⟩ := hf v c hv
              exact ⟨p, e1, by omega, fun q => e3 q.1⟩
        · simp only [ho, if_neg h0] at hm ⊢
          have e : (a.toNat : Int) = a := Int.toNat_of_nonneg (by omega)
          have haH := ha (by omega)
          refine ⟨hi.ins ho fun v hv => ?_, fun v c hv => ?_⟩
          · obtain ⟨p, e1, e2, e3⟩ := hf v _ hv
            have := congrArg Ce.n e1
            simp only at this
            have : p = a.toNat := by omega
            subst this
            exact e3 haH
          · rw [ofV_ins ho] at hv
            split at hv
            · cases hv
              exact ⟨a.toNat, by rw [e], hH _ haH, fun h => h.2 e⟩
            · obtain ⟨p, e1, e2, e3⟩ := hf v c hv
              exact ⟨p, e1, by omega, fun q => e3 q.1⟩
    · rw [addD_1]
      exact ⟨hi, fun v c hv => (hf v c hv).imp fun p ⟨e1, e2, e3⟩ => ⟨e1, e2, fun q => e3 q.1⟩⟩
    · rw [addD_2] at hm ⊢
      exact ⟨hi, fun v c hv => (hf v c hv).imp fun p ⟨e1, e2, e3⟩ => ⟨e1, by have hm := hm; simp only at hm ⊢; omega, fun q => e3 q.1⟩⟩
    · rw [addD_3] at hm ⊢
      have hg := grow_len q.1 (symN q.1 nm (l.length : Nat)).1 l.length
      have ih := addAs_inj l ({ (symN q.1 nm (l.length : Nat)).2 with cs := grow q.1 (symN q.1 nm (l.length : Nat)).1 l.length }, q.2) (q.1.cs.length + 1) (fun p => H p ∨ q.1.cs.length + 1 ≤ p ∧ p < q.1.cs.length + 1 + l.length) hn.2 hs (fun v c hv => by
        obtain ⟨p, e1, e2, e3⟩ := hf v c hv
        refine ⟨p, e1, ?_, ?_⟩
        · show p < (grow _ _ _).length
          omega
        · rintro (h | h)
          · exact e3 h
          · omega) (fun p hp => by
        show p < (grow _ _ _).length
        rcases hp with h | h
        · have := hH p h
          omega
        · omega) (fun i g1 g2 => .inr ⟨g1, g2⟩) hi
      obtain ⟨i1, i2⟩ := ih
      refine ⟨i1, fun v c hv => ?_⟩
      obtain ⟨p, e1, e2, e3⟩ := i2 v c hv
      refine ⟨p, e1, e2, fun h => e3 ⟨.inl h.1, fun r => ?_⟩⟩
      have := hH p h.1
      omega
theorem addAs_inj : ∀ (l : List Te) (q : Sv) (to : Nat) (H : Nat → Prop), nodesTs l = true → SV q.2 → Fr q.2 q.1.cs.length H → (∀ p, H p → p < q.1.cs.length) → (∀ i, to ≤ i → i < to + l.length → H i) → Inj q.2 → Inj (addAs q l to).2 ∧ Fr (addAs q l to).2 (addAs q l to).1.cs.length (fun p => H p ∧ ¬ (to ≤ p ∧ p < to + l.length))
  | [], q, to, H, _, _, hf, _, _, hi => by
    rw [addAs]
    exact ⟨hi, fun v c hv => (hf v c hv).imp fun p ⟨e1, e2, e3⟩ => ⟨e1, e2, fun q => e3 q.1⟩⟩
  | t :: l, q, to, H, hn, hs, hf, hH, hr, hi => by
    rw [nodesTs, Bool.and_eq_true] at hn
    rw [List.length_cons] at hr
    rw [addAs]
    have h4 := (addD_len t q (to : Nat) hn.1 hs).2.2.2
    have hm := addD_mono (a := (to : Nat)) hn.1 hs
    obtain ⟨i1, i2⟩ := addD_inj t q (to : Nat) H hn.1 hs hf (fun _ => by rw [Int.toNat_natCast]; exact hr to (Nat.le_refl _) (by omega)) hH hi
    have hL := setC_len (addD q t (to : Nat)).2.1 to (addD q t (to : Nat)).1
    obtain ⟨j1, j2⟩ := addAs_inj l (setC (addD q t (to : Nat)).2.1 to (addD q t (to : Nat)).1, (addD q t (to : Nat)).2.2) (to + 1) (fun p => H p ∧ (p : Int) ≠ (to : Nat)) hn.2 h4 (by rw [hL]; exact i2) (fun p hp => by
      rw [hL]
      have := hH p hp.1
      omega) (fun i g1 g2 => ⟨hr i (by omega) (by omega), by omega⟩) i1
    refine ⟨j1, fun v c hv => ?_⟩
    obtain ⟨p, e1, e2, e3⟩ := j2 v c hv
    refine ⟨p, e1, e2, fun h => e3 ⟨⟨h.1, fun r => ?_⟩, fun r => ?_⟩⟩
    · have h2 := h.2
      rw [List.length_cons] at h2
      omega
    · have h2 := h.2
      rw [List.length_cons] at h2
      omega
end
theorem ofV_some {l : List Vc} (h : SV l) {x : Vc} (hx : x ∈ l) : ofV l x.v = some x.c := by
  have h1 := h.1
  clear h
  induction l with
  | nil => cases hx
  | cons y l ih =>
    rw [List.pairwise_cons] at h1
    rw [ofV]
    rcases List.mem_cons.1 hx with rfl | hx
    · rw [if_pos rfl]
    · have := h1.1 x hx
      rw [if_neg (by omega)]
      exact ih hx h1.2

def fOf (all : List Vc) (v : Int) : Ce := keptC ((ofV all v).getD default)
theorem fOf_some {all : List Vc} {v : Int} {c : Ce} (h : ofV all v = some c) : fOf all v = keptC c := by rw [fOf, h]; rfl
structure PutOk (s : So) (t : Te) (l : List Vc) (c : Ce) (all : List Vc) (S : So) : Prop where
  ext : Ext s S
  rst : Rst s S
  valid : validR S = true
  rep : Rh S (fOf all) t c
  sv : SV all
  of : ∀ v d, ofV l v = some d → ofV all v = some d
  new : ∀ v d, ofV all v = some d → ofV l v = some d ∨ ∃ p : Nat, d = ⟨0, p⟩ ∧ S.cs[p]? = some d
  vc : vcR S c = true
  vv : vvP S all = true
  len : S.cs.length = s.cs.length + nedT t l
  ys : ∃ m, S.ys = s.ys ++ m
  vars : ∀ v, v ∈ varsT (l.map Vc.v) t ↔ (ofV all v).isSome = true
  varsG : ∀ vs : List Int, (∀ v, v ∈ vs ↔ (ofV l v).isSome = true) → (∀ v, v ∈ varsT vs t ↔ (ofV all v).isSome = true) ∧ all.length + vs.length = l.length + (varsT vs t).length
  cnt : all.length = (varsT (l.map Vc.v) t).length
  inj : ∀ H : Inj l, (∀ v d, ofV l v = some d → ∃ p : Nat, d = ⟨0, p⟩ ∧ p < s.cs.length) → Inj all ∧ ∀ v d, ofV all v = some d → ∃ p : Nat, d = ⟨0, p⟩ ∧ p < S.cs.length
theorem mem_of {l : List Vc} (v : Int) : v ∈ l.map Vc.v ↔ (ofV l v).isSome = true := by
  induction l with
  | nil => simp [ofV]
  | cons x l ih =>
    rw [List.map_cons, List.mem_cons, ih, ofV]
    by_cases h : x.v = v
    · simp [h]
    · have h' : ¬ v = x.v := fun e => h e.symm
      simp [h, h']
theorem kept_good {s S : So} (h : validR s = true) (E : Ext s S) (hl : 0 < S.cs.length) {c : Ce} (hc : vcR s c = true) : Vgood S (keptC c) := by
  have hL := E.len
  unfold keptC
  split
  · rename_i h5
    have ht : tagS s c.n = 5 := by
      unfold vcR at hc
      rw [if_neg (by omega), if_neg (by omega), if_neg (by omega), if_neg (by omega), if_pos h5] at hc
      exact of_decide_eq_true hc
    have hi := tag_in' (by decide) ht
    have hT := E.tag (inS_iff.1 hi).2
    have hI := (E.inS hi).1
    refine ⟨?_, fun h => absurd h (by decide : ¬ (0 : Int) = 5), fun _ => ?_⟩
    · unfold vcR
      rw [if_pos rfl]
      simp only [hI, hT, ht]
      rfl
    · obtain ⟨k, hk⟩ : ∃ k, S.cs.length = k + 1 := ⟨S.cs.length - 1, by omega⟩
      rw [hk]
      exact endsN_st fun q => by have := q.1; simp only [hT, ht] at this; omega
  · rename_i h5
    refine ⟨E.vc hc, h5, fun h0 => ?_⟩
    have := (vc_ref hc h0).1
    exact endsN_le hL (E.ends h _ _ this (vr_ends_len h this))
theorem self_good {S : So} {p : Nat} (h : S.cs[p]? = some ⟨0, p⟩) : Vgood S ⟨0, p⟩ := by
  obtain ⟨h1, h2⟩ := cell_of h
  have hl := (List.getElem?_eq_some_iff.1 h).1
  refine ⟨?_, fun h => absurd h (by decide : ¬ (0 : Int) = 5), fun _ => ?_⟩
  · unfold vcR
    rw [if_pos rfl]
    simp only [h1, tagS_in h1, h2]
    rfl
  · obtain ⟨k, hk⟩ : ∃ k, S.cs.length = k + 1 := ⟨S.cs.length - 1, by omega⟩
    rw [hk]
    refine endsN_st fun q => q.2 ?_
    show (cellAt S (p : Nat)).n = _
    rw [h2]
theorem put_ok {s : So} {t : Te} {l : List Vc} (hs : validR s = true) (ht : validT t = true) (hl : vvP s l = true) (hr : roomB s t l = true) : PutOk s t l (addD (s, l) t (-1)).1 (addD (s, l) t (-1)).2.2 (addD (s, l) t (-1)).2.1 := by
  have hA := room_add hs ht hl hr
  simp only [addQ, Bool.and_eq_true, decide_eq_true_eq] at hA
  obtain ⟨hn, hsv, hcs, hmx, hys, -⟩ := hA
  obtain ⟨g1, g2, ⟨r1, r2, r3, r4⟩, g4⟩ := addD_len t (s, l) (-1) hn hsv
  have hk := fun i h => addD_keep t (s, l) (-1) i hn hsv h
  have hof := addD_of t (s, l) (-1) hn
  obtain ⟨v1, v2⟩ := addD_vars t (s, l) (-1) (l.map Vc.v) hn (fun v => mem_of v)
  have hvg := fun vs h => addD_vars t (s, l) (-1) vs hn h
  have hnew := addD_new (S := (addD (s, l) t (-1)).2.1) t (s, l) (-1) hn hsv (fun i _ _ => rfl) (fun h => absurd h (by decide))
  have hinj := fun H h1 h2 h3 h4 => addD_inj t (s, l) (-1) H hn hsv h1 h2 h3 h4
  have hm := addD_mono (a := -1) (q := (s, l)) hn hsv
  rw [if_pos (by decide)] at g1 hcs
  obtain ⟨hd1, hd2, hd3, hd4⟩ := vr_hd hs
  obtain ⟨m, hpre⟩ := symsT_pre t s.ys
  have hrep := addD_rep (S := (addD (s, l) t (-1)).2.1) (f := fOf (addD (s, l) t (-1)).2.2) (P := fun u => nodesT u = true ∧ inV (varsT (l.map Vc.v) t) u) (fun k n nm l' hp u hu => by
    rw [nodesT, Bool.and_eq_true, inV_mk] at hp
    exact ⟨nodesTs_iff.1 hp.1.2 u hu, inVs_iff.1 hp.2.2 u hu⟩) t (s, l) (-1) ⟨hn, varsT_in t _⟩ hn hsv (fun i _ _ => rfl) (fun i y h => h) (fun v c h => fOf_some h)
  have hcz := cntT_sz t
  simp only [validT, Bool.and_eq_true, decide_eq_true_eq] at ht
  generalize addD (s, l) t (-1) = R at *
  obtain ⟨rep, news⟩ := hrep
  have E : Ext s R.2.1 := ⟨fun i h => hk i h, hm, fun i y h => by rw [g2]; show (symsT s.ys t)[i]? = _; rw [hpre]; exact ys_up h⟩
  have hvs := validR_vs hs
  have hlv := (vvP_iff.1 hl).2
  have hvP : ∀ c, vcP s c = vcR s c := hvs.vc
  have hsome : ∀ v d, ofV R.2.2 v = some d → Vgood R.2.1 (keptC d) := fun v d hv => by
    rcases hnew v d hv with h | ⟨p, e, h, -⟩
    · have hmem := ofV_mem h
      have hvd : vcR s d = true := by rw [← hvP]; exact hlv _ hmem
      have hpos : 0 < R.2.1.cs.length ∨ d.t ≠ 0 ∧ d.t ≠ 5 := by
        rcases Nat.eq_zero_or_pos R.2.1.cs.length with h0 | h0
        · right
          have hs0 : s.cs.length = 0 := by have : s.cs.length ≤ R.2.1.cs.length := hm; omega
          refine ⟨fun q => ?_, fun q => ?_⟩
          · have := inS_iff.1 (vc_ref hvd q).1
            omega
          · unfold vcR at hvd
            rw [if_neg (by omega), if_neg (by omega), if_neg (by omega), if_neg (by omega), if_pos q] at hvd
            have := inS_iff.1 (tag_in' (by decide) (of_decide_eq_true hvd))
            omega
        · exact .inl h0
      rcases hpos with h0 | h0
      · exact kept_good hs E h0 hvd
      · have : keptC d = d := if_neg h0.2
        rw [this]
        exact ⟨E.vc hvd, h0.2, fun q => absurd q h0.1⟩
    · subst e
      exact self_good h
  have hgood : ∀ v ∈ varsT (l.map Vc.v) t, Vgood R.2.1 (fOf R.2.2 v) := fun v hv => by
    have := (v1 v).1 hv
    cases ho : ofV R.2.2 v with
    | none => rw [ho] at this; cases this
    | some d => rw [fOf_some ho]; exact hsome v d ho
  have hsy : symsB R.2.1.ys = true := by
    have h0 := symsB_iff.1 (vr_syms hs)
    refine symsB_iff.2 ⟨by rw [g2]; exact hys, ?_⟩
    rw [g2]
    exact symsT_ok t s.ys hn ⟨h0.2.1, h0.2.2⟩
  have hval : validR R.2.1 = true := valid_new (V := varsT (l.map Vc.v) t) (f := fOf R.2.2) hs E r1 r2 r3 r4 (by rw [g1, r1]; show ((s.cs.length + nedT t l : Nat) : Int) ≤ s.mx; have hcs : (s.cs.length : Int) + ((nedT t l : Nat) : Int) ≤ s.mx := hcs; omega) hsy hgood news
  have hvP2 : ∀ c, vcP R.2.1 c = vcR R.2.1 c := (validR_vs hval).vc
  refine ⟨E, ⟨r1, r2, r3, r4⟩, hval, rep, g4, hof, fun v d hv => (hnew v d hv).imp id fun ⟨p, e, h, _⟩ => ⟨p, e, h⟩, (Rh_good hgood (varsT_in t _) hn rep).vc, vvP_iff.2 ⟨g4, fun x hx => ?_⟩, g1, ⟨m, by rw [g2]; exact hpre⟩, v1, hvg, ?_, fun H hb => ?_⟩
  · rw [hvP2]
    rcases hnew _ _ (ofV_some g4 hx) with h | ⟨p, e, h, -⟩
    · exact E.vc (by rw [← hvP]; exact hlv _ (ofV_mem h))
    · rw [e] at h ⊢
      exact (self_good h).vc
  · rw [List.length_map] at v2
    have v2 : R.2.2.length + l.length = l.length + (varsT (l.map Vc.v) t).length := v2
    omega
  · obtain ⟨i1, i2⟩ := hinj (fun _ => False) (fun v c hv => (hb v c hv).imp fun p ⟨e1, e2⟩ => ⟨e1, e2, id⟩) (fun h => absurd h (by decide)) (fun p h => h.elim) H
    exact ⟨i1, fun v d hv => (i2 v d hv).imp fun p ⟨e1, e2, _⟩ => ⟨e1, e2⟩⟩
end Go.Proofs.Ytinclokohcommaa


namespace Go.Proofs.Ytinclokohcommaa
open Go.RowKit
set_option linter.unusedVariables false
set_option linter.unusedSimpArgs false

def varsS (t : Te) : List Int := if validT t then varsT [] t else []
def gVarsS : List D → Option (List D)
  | [t] => some [eIs (varsS (dT t))]
  | _ => none
theorem ok_ref03_Vars : FOk q29 gVarsS := fok_ref03_Vars q35 ok_ref03_vars fun ds outs hw hg => by
  obtain ⟨d, r, rfl, hd, rfl⟩ := hw
  obtain ⟨t, rfl, ht⟩ := wfT hd
  simp only [gVarsS, dT_eT, Option.some.injEq] at hg
  subst hg
  simp only [q4w, q00, go_br, q01, q02, allSay, X.says, X.ev, X.evs, evl, tblS, List.getD_cons_zero, List.getD_cons_succ, List.getElem?_cons_zero, List.getElem?_cons_succ, tt_b, int_i, str_s, rs_r, Option.isSome_some, Option.getD_some, decide_eq_true_eq, decide_eq_false_iff_not, dS_eS, dC_eC, dU_eU, dW_eW, dY_eY, eC_0, eC_1, eU_0, eU_1, eW_0, eW_1, eW_2, eY_0, eY_1, eS_0, eS_1, eS_2, eS_3, eS_4, eS_5, List.length_map, i_inj, b_inj, s_inj, eC_eq, eU_eq, eW_eq, eY_eq, eS_eq, rng64, List.take_succ_cons, List.take_zero, List.nil_append, List.cons_append, decide_true, decide_false, Bool.or_true, true_and, and_true, dT_eT, eT_0, eT_1, eT_2, eT_3, eT_eq, eT_z, gTb, gVars, varsS]
  cases hv : validT t
  · simp [eIs]
  · have h2 := hv
    simp only [validT, Bool.and_eq_true, decide_eq_true_eq] at h2
    have e : dIs (.r []) = [] := rfl
    have : (dIs (.r [])).length + szT t ≤ 1000000 := by rw [e]; simp; omega
    have h3 : szT t ≤ 1000000 := by omega
    simp only [if_pos this, e]
    simp [h3]
def canS (t : Te) : Te := if validT t then numT (varsT [] t) t else zT
theorem ok_ref03_Canon : FOk q23 (gTT canS) := fok_ref03_Canon q35 ok_ref03_vars ok_ref03_number fun ds outs hw hg => by
  obtain ⟨d, r, rfl, hd, rfl⟩ := hw
  obtain ⟨t, rfl, ht⟩ := wfT hd
  simp only [gTT, dT_eT, Option.some.injEq] at hg
  subst hg
  simp only [q4m, q00, go_br, q01, q02, allSay, X.says, X.ev, X.evs, evl, tblS, List.getD_cons_zero, List.getD_cons_succ, List.getElem?_cons_zero, List.getElem?_cons_succ, tt_b, int_i, str_s, rs_r, Option.isSome_some, Option.getD_some, decide_eq_true_eq, decide_eq_false_iff_not, dS_eS, dC_eC, dU_eU, dW_eW, dY_eY, eC_0, eC_1, eU_0, eU_1, eW_0, eW_1, eW_2, eY_0, eY_1, eS_0, eS_1, eS_2, eS_3, eS_4, eS_5, List.length_map, i_inj, b_inj, s_inj, eC_eq, eU_eq, eW_eq, eY_eq, eS_eq, rng64, List.take_succ_cons, List.take_zero, List.nil_append, List.cons_append, decide_true, decide_false, Bool.or_true, true_and, and_true, dT_eT, eT_0, eT_1, eT_2, eT_3, eT_eq, eT_z, gTb, gVars, gNum, canS]
  cases hv : validT t
  · simp [eT_z]
  · have h2 := hv
    simp only [validT, Bool.and_eq_true, decide_eq_true_eq] at h2
    have e : dIs (.r []) = [] := rfl
    have : (dIs (.r [])).length + szT t ≤ 1000000 := by rw [e]; simp; omega
    have h3 : szT t ≤ 1000000 := by omega
    simp only [if_pos this, e]
    simp [h3, dIs_eIs]
end Go.Proofs.Ytinclokohcommaa


namespace Go.Proofs.Ytinclokohcommaa
open Go.RowKit
set_option linter.unusedVariables false
set_option linter.unusedSimpArgs false

end Go.Proofs.Ytinclokohcommaa


namespace Go.Proofs.Ytinclokohcommaa
open Go.RowKit
set_option linter.unusedVariables false
set_option linter.unusedSimpArgs false

def two (t u : Te) : Te := .mk 3 0 ⟨#[116, 119, 111]⟩ [t, u]
end Go.Proofs.Ytinclokohcommaa


namespace Go.Proofs.Ytinclokohcommaa
open Go.RowKit
set_option linter.unusedVariables false
set_option linter.unusedSimpArgs false

theorem ok_ref03_copied : FOk q18 (gTT id) := q2u (m := mT) q5l fun N ih => fok_ref03_copied ih fun ds outs hw hg => by
  obtain ⟨d, r, rfl, hd, rfl⟩ := hw
  obtain ⟨t, rfl, ht⟩ := wfT hd
  simp only [cutM, mT, gTT, List.getD_cons_zero, dT_eT, int_i, Option.ite_none_right_eq_some, Option.some.injEq] at hg
  obtain ⟨hsz, rfl⟩ := hg
  have hl := ht.l
  rw [q4h, q1j]
  refine ⟨fun st => ∃ k : Nat, k ≤ t.l.length ∧ st = [.i k, eT (.mk t.k t.n t.s (t.l.take k))], fun st => t.l.length - (st.getD 0 .u).int.toNat, ⟨0, Nat.zero_le _, by simp only [X.evs, X.ev, evl, List.getD_cons_zero, eT_0, eT_1, eT_2, eT_mk]; rfl⟩, ?_⟩
  rintro st - ⟨k, hk, rfl⟩
  rw [go_br]
  refine ⟨fun hlt => ?_, fun hlt => ?_⟩
  · simp only [q00, go_br, q01, q02, allSay, X.says, X.ev, X.evs, evl, tblS, List.getD_cons_zero, List.getD_cons_succ, List.getElem?_cons_zero, List.getElem?_cons_succ, tt_b, int_i, str_s, rs_r, Option.isSome_some, Option.getD_some, decide_eq_true_eq, decide_eq_false_iff_not, dS_eS, dC_eC, dU_eU, dW_eW, dY_eY, eC_0, eC_1, eU_0, eU_1, eW_0, eW_1, eW_2, eY_0, eY_1, eS_0, eS_1, eS_2, eS_3, eS_4, eS_5, List.length_map, i_inj, b_inj, s_inj, eC_eq, eU_eq, eW_eq, eY_eq, eS_eq, rng64, List.take_succ_cons, List.take_zero, List.nil_append, List.cons_append, decide_true, decide_false, Bool.or_true, true_and, and_true, dT_eT, eT_0, eT_1, eT_2, eT_3, eT_eq, eT_z] at hlt
    have hkl' : k < t.l.length := by omega
    have ha := arg_sz hkl'
    simp only [q00, go_br, q01, q02, allSay, X.says, X.ev, X.evs, evl, tblS, List.getD_cons_zero, List.getD_cons_succ, List.getElem?_cons_zero, List.getElem?_cons_succ, tt_b, int_i, str_s, rs_r, Option.isSome_some, Option.getD_some, decide_eq_true_eq, decide_eq_false_iff_not, dS_eS, dC_eC, dU_eU, dW_eW, dY_eY, eC_0, eC_1, eU_0, eU_1, eW_0, eW_1, eW_2, eY_0, eY_1, eS_0, eS_1, eS_2, eS_3, eS_4, eS_5, List.length_map, i_inj, b_inj, s_inj, eC_eq, eU_eq, eW_eq, eY_eq, eS_eq, rng64, List.take_succ_cons, List.take_zero, List.nil_append, List.cons_append, decide_true, decide_false, Bool.or_true, true_and, and_true, dT_eT, eT_0, eT_1, eT_2, eT_3, eT_eq, eT_z, get_t hkl', cutM, mT, gTT, if_pos (show szT (t.l.getD k default) < N by omega), id, Te_l, List.length_take]
    refine ⟨⟨by omega, by omega, by omega⟩, ⟨by omega, by omega⟩, ?_⟩
    rw [updB, if_pos rfl]
    refine ⟨⟨k + 1, by omega, ?_⟩, ?_⟩
    · rw [take_snoc hkl', eT_snoc]
      rfl
    · simp [D.int]
      omega
  · simp only [q00, go_br, q01, q02, allSay, X.says, X.ev, X.evs, evl, tblS, List.getD_cons_zero, List.getD_cons_succ, List.getElem?_cons_zero, List.getElem?_cons_succ, tt_b, int_i, str_s, rs_r, Option.isSome_some, Option.getD_some, decide_eq_true_eq, decide_eq_false_iff_not, dS_eS, dC_eC, dU_eU, dW_eW, dY_eY, eC_0, eC_1, eU_0, eU_1, eW_0, eW_1, eW_2, eY_0, eY_1, eS_0, eS_1, eS_2, eS_3, eS_4, eS_5, List.length_map, i_inj, b_inj, s_inj, eC_eq, eU_eq, eW_eq, eY_eq, eS_eq, rng64, List.take_succ_cons, List.take_zero, List.nil_append, List.cons_append, decide_true, decide_false, Bool.or_true, true_and, and_true, dT_eT, eT_0, eT_1, eT_2, eT_3, eT_eq, eT_z] at hlt ⊢
    have : k = t.l.length := by omega
    subst this
    rw [List.take_length]
    cases t
    rfl

mutual
def occT (v : Int) : Te → Nat
  | .mk k n _ l => (if k = 0 ∧ n = v then 1 else 0) + occTs v l
def occTs (v : Int) : List Te → Nat
  | [] => 0
  | t :: l => occT v t + occTs v l
end
mutual
def putT (v : Int) (b : Te) : Te → Te
  | .mk k n s l => if k = 0 ∧ n = v then b else .mk k n s (putTs v b l)
def putTs (v : Int) (b : Te) : List Te → List Te
  | [] => []
  | t :: l => putT v b t :: putTs v b l
end
theorem occT_t (v : Int) (t : Te) : occT v t = (if t.k = 0 ∧ t.n = v then 1 else 0) + occTs v t.l := by
  cases t
  rw [occT]
  rfl
theorem putT_t (v : Int) (b t : Te) : putT v b t = if t.k = 0 ∧ t.n = v then b else .mk t.k t.n t.s (putTs v b t.l) := by
  cases t
  rw [putT]
  rfl
theorem occTs_app (v : Int) : ∀ l m, occTs v (l ++ m) = occTs v l + occTs v m
  | [], m => by simp [occTs]
  | t :: l, m => by rw [List.cons_append, occTs, occTs, occTs_app v l m]; omega
theorem putTs_app (v : Int) (b : Te) : ∀ l m, putTs v b (l ++ m) = putTs v b l ++ putTs v b m
  | [], m => rfl
  | t :: l, m => by rw [List.cons_append, putTs, putTs, putTs_app v b l m]; rfl
theorem putTs_len (v : Int) (b : Te) : ∀ l, (putTs v b l).length = l.length
  | [] => rfl
  | t :: l => by rw [putTs, List.length_cons, putTs_len v b l, List.length_cons]
mutual
theorem occT_sz (v : Int) : ∀ t, occT v t ≤ szT t
  | .mk k n s l => by
    rw [occT, szT]
    have := occTs_sz v l
    split <;> omega
theorem occTs_sz (v : Int) : ∀ l, occTs v l ≤ szTs l
  | [] => Nat.le_refl _
  | t :: l => by
    rw [occTs, szTs]
    have h1 := occT_sz v t
    have h2 := occTs_sz v l
    omega
end
def gOcc : List D → Option (List D)
  | [t, v] => if szT (dT t) ≤ 2000 then some [.i (occT v.int (dT t))] else none
  | _ => none
theorem ok_ref03_Occurrences : FOk q0h gOcc := q2u (m := mT) q4b fun N ih => fok_ref03_Occurrences ih fun ds outs hw hg => by
  obtain ⟨d, r, rfl, hd, e, r', rfl, he, rfl⟩ := hw
  obtain ⟨t, rfl, ht⟩ := wfT hd
  obtain ⟨v, rfl, hv⟩ := wfI he
  simp only [cutM, mT, gOcc, List.getD_cons_zero, dT_eT, int_i, Option.ite_none_right_eq_some, Option.some.injEq] at hg
  obtain ⟨hsz, h2k, rfl⟩ := hg
  have hl := ht.l
  have hz := szT_l t
  have key : ∀ (x : X) (z : Nat), x.ev (evl (tblS [(q0h, cutM mT N gOcc)]) [eT t, .i v]) = .i z → z ≤ 1 → z + occTs v t.l = occT v t → Tree.go (tblS [(q0h, cutM mT N gOcc)]) (fun o => o = [.i (occT v t)]) (.loop 5 2 [x, (.lit (.i 0))] (.br (.lt (.tok 3) (.len (.fld (.tok 0) 3))) (.need [(.le (.lit (.i 0)) (.tok 3)), (.lt (.tok 3) (.len (.fld (.tok 0) 3))), (.ok 0 [(.get (.fld (.tok 0) 3) (.tok 3)), (.tok 1)]), (.rng .i64 (.add (.tok 2) (.call 0 0 [(.get (.fld (.tok 0) 3) (.tok 3)), (.tok 1)])))] (.need [(.rng .i64 (.add (.tok 3) (.lit (.i 1))))] (.back 5 [(.add (.tok 2) (.call 0 0 [(.get (.fld (.tok 0) 3) (.tok 3)), (.tok 1)])), (.add (.tok 3) (.lit (.i 1)))]))) (.leaf [(.tok 2)]))) [eT t, .i v] fun _ _ => False := by
    intro x z hx hz1 hzo
    rw [q1j]
    refine ⟨fun st => ∃ k : Nat, k ≤ t.l.length ∧ st = [.i ((z + occTs v (t.l.take k) : Nat) : Int), .i k], fun st => t.l.length - (st.getD 1 .u).int.toNat, ⟨0, Nat.zero_le _, by simp only [X.evs, hx, X.ev]; simp [occTs]⟩, ?_⟩
    rintro st - ⟨k, hk, rfl⟩
    rw [go_br]
    refine ⟨fun hlt => ?_, fun hlt => ?_⟩
    · simp only [q00, go_br, q01, q02, allSay, X.says, X.ev, X.evs, evl, tblS, List.getD_cons_zero, List.getD_cons_succ, List.getElem?_cons_zero, List.getElem?_cons_succ, tt_b, int_i, str_s, rs_r, Option.isSome_some, Option.getD_some, decide_eq_true_eq, decide_eq_false_iff_not, dS_eS, dC_eC, dU_eU, dW_eW, dY_eY, eC_0, eC_1, eU_0, eU_1, eW_0, eW_1, eW_2, eY_0, eY_1, eS_0, eS_1, eS_2, eS_3, eS_4, eS_5, List.length_map, i_inj, b_inj, s_inj, eC_eq, eU_eq, eW_eq, eY_eq, eS_eq, rng64, List.take_succ_cons, List.take_zero, List.nil_append, List.cons_append, decide_true, decide_false, Bool.or_true, true_and, and_true, dT_eT, eT_0, eT_1, eT_2, eT_3, eT_eq, eT_z] at hlt
      have hkl : k < t.l.length := by omega
      have ha := arg_sz hkl
      have hsn : occTs v (t.l.take (k + 1)) = occTs v (t.l.take k) + occT v (t.l.getD k default) := by
        rw [take_snoc hkl, occTs_app]
        simp [occTs]
      have hle : occTs v (t.l.take (k + 1)) ≤ occTs v t.l := by
        have := occTs_app v (t.l.take (k + 1)) (t.l.drop (k + 1))
        rw [List.take_append_drop] at this
        omega
      have hos := occTs_sz v t.l
      simp only [q00, go_br, q01, q02, allSay, X.says, X.ev, X.evs, evl, tblS, List.getD_cons_zero, List.getD_cons_succ, List.getElem?_cons_zero, List.getElem?_cons_succ, tt_b, int_i, str_s, rs_r, Option.isSome_some, Option.getD_some, decide_eq_true_eq, decide_eq_false_iff_not, dS_eS, dC_eC, dU_eU, dW_eW, dY_eY, eC_0, eC_1, eU_0, eU_1, eW_0, eW_1, eW_2, eY_0, eY_1, eS_0, eS_1, eS_2, eS_3, eS_4, eS_5, List.length_map, i_inj, b_inj, s_inj, eC_eq, eU_eq, eW_eq, eY_eq, eS_eq, rng64, List.take_succ_cons, List.take_zero, List.nil_append, List.cons_append, decide_true, decide_false, Bool.or_true, true_and, and_true, dT_eT, eT_0, eT_1, eT_2, eT_3, eT_eq, eT_z, get_t hkl, cutM, mT, gOcc, if_pos (show szT (t.l.getD k default) < N by omega), if_pos (show szT (t.l.getD k default) ≤ 2000 by omega)]
      refine ⟨⟨by omega, by omega, by omega, by omega⟩, ⟨by omega, by omega⟩, ?_⟩
      rw [updB, if_pos rfl]
      refine ⟨⟨k + 1, by omega, ?_⟩, by simp [D.int]; omega⟩
      rw [hsn]
      simp
      omega
    · simp only [q00, go_br, q01, q02, allSay, X.says, X.ev, X.evs, evl, tblS, List.getD_cons_zero, List.getD_cons_succ, List.getElem?_cons_zero, List.getElem?_cons_succ, tt_b, int_i, str_s, rs_r, Option.isSome_some, Option.getD_some, decide_eq_true_eq, decide_eq_false_iff_not, dS_eS, dC_eC, dU_eU, dW_eW, dY_eY, eC_0, eC_1, eU_0, eU_1, eW_0, eW_1, eW_2, eY_0, eY_1, eS_0, eS_1, eS_2, eS_3, eS_4, eS_5, List.length_map, i_inj, b_inj, s_inj, eC_eq, eU_eq, eW_eq, eY_eq, eS_eq, rng64, List.take_succ_cons, List.take_zero, List.nil_append, List.cons_append, decide_true, decide_false, Bool.or_true, true_and, and_true, dT_eT, eT_0, eT_1, eT_2, eT_3, eT_eq, eT_z] at hlt ⊢
      have : k = t.l.length := by omega
      subst this
      rw [List.take_length, hzo]
  rw [q2y]
  have ho := occT_t v t
  simp only [go_br, q00, go_br, q01, q02, allSay, X.says, X.ev, X.evs, evl, tblS, List.getD_cons_zero, List.getD_cons_succ, List.getElem?_cons_zero, List.getElem?_cons_succ, tt_b, int_i, str_s, rs_r, Option.isSome_some, Option.getD_some, decide_eq_true_eq, decide_eq_false_iff_not, dS_eS, dC_eC, dU_eU, dW_eW, dY_eY, eC_0, eC_1, eU_0, eU_1, eW_0, eW_1, eW_2, eY_0, eY_1, eS_0, eS_1, eS_2, eS_3, eS_4, eS_5, List.length_map, i_inj, b_inj, s_inj, eC_eq, eU_eq, eW_eq, eY_eq, eS_eq, rng64, List.take_succ_cons, List.take_zero, List.nil_append, List.cons_append, decide_true, decide_false, Bool.or_true, true_and, and_true, dT_eT, eT_0, eT_1, eT_2, eT_3, eT_eq, eT_z, Bool.and_eq_true, Bool.and_eq_false_iff, decide_eq_true_eq, decide_eq_false_iff_not]
  refine ⟨fun h => key _ 1 rfl (by omega) (by rw [ho, if_pos h]), fun h => key _ 0 rfl (by omega) (by rw [ho, if_neg (fun q => h.elim (fun h => h q.1) (fun h => h q.2))])⟩
def gPutT : List D → Option (List D)
  | [t, v, b] => some [eT (putT v.int (dT b) (dT t))]
  | _ => none
theorem ok_ref03_put : FOk q1t gPutT := q2u (m := mT) enter_ref03_put fun N ih => fok_ref03_put ok_ref03_copied ih fun ds outs hw hg => by
  obtain ⟨d, r, rfl, hd, e, r', rfl, he, f, r2, rfl, hf, rfl⟩ := hw
  obtain ⟨t, rfl, ht⟩ := wfT hd
  obtain ⟨v, rfl, hv⟩ := wfI he
  obtain ⟨b, rfl, hb⟩ := wfT hf
  simp only [cutM, mT, gPutT, List.getD_cons_zero, dT_eT, int_i, Option.ite_none_right_eq_some, Option.some.injEq] at hg
  obtain ⟨hsz, rfl⟩ := hg
  have hl := ht.l
  rw [q5e, go_br]
  refine ⟨fun h => ?_, fun h => ?_⟩
  · simp only [q00, go_br, q01, q02, allSay, X.says, X.ev, X.evs, evl, tblS, List.getD_cons_zero, List.getD_cons_succ, List.getElem?_cons_zero, List.getElem?_cons_succ, tt_b, int_i, str_s, rs_r, Option.isSome_some, Option.getD_some, decide_eq_true_eq, decide_eq_false_iff_not, dS_eS, dC_eC, dU_eU, dW_eW, dY_eY, eC_0, eC_1, eU_0, eU_1, eW_0, eW_1, eW_2, eY_0, eY_1, eS_0, eS_1, eS_2, eS_3, eS_4, eS_5, List.length_map, i_inj, b_inj, s_inj, eC_eq, eU_eq, eW_eq, eY_eq, eS_eq, rng64, List.take_succ_cons, List.take_zero, List.nil_append, List.cons_append, decide_true, decide_false, Bool.or_true, true_and, and_true, dT_eT, eT_0, eT_1, eT_2, eT_3, eT_eq, eT_z, Bool.and_eq_true, decide_eq_true_eq] at h
    simp only [q00, q01, q00, go_br, q01, q02, allSay, X.says, X.ev, X.evs, evl, tblS, List.getD_cons_zero, List.getD_cons_succ, List.getElem?_cons_zero, List.getElem?_cons_succ, tt_b, int_i, str_s, rs_r, Option.isSome_some, Option.getD_some, decide_eq_true_eq, decide_eq_false_iff_not, dS_eS, dC_eC, dU_eU, dW_eW, dY_eY, eC_0, eC_1, eU_0, eU_1, eW_0, eW_1, eW_2, eY_0, eY_1, eS_0, eS_1, eS_2, eS_3, eS_4, eS_5, List.length_map, i_inj, b_inj, s_inj, eC_eq, eU_eq, eW_eq, eY_eq, eS_eq, rng64, List.take_succ_cons, List.take_zero, List.nil_append, List.cons_append, decide_true, decide_false, Bool.or_true, true_and, and_true, dT_eT, eT_0, eT_1, eT_2, eT_3, eT_eq, eT_z, gTT, id]
    rw [putT_t, if_pos h]
  · simp only [q00, go_br, q01, q02, allSay, X.says, X.ev, X.evs, evl, tblS, List.getD_cons_zero, List.getD_cons_succ, List.getElem?_cons_zero, List.getElem?_cons_succ, tt_b, int_i, str_s, rs_r, Option.isSome_some, Option.getD_some, decide_eq_true_eq, decide_eq_false_iff_not, dS_eS, dC_eC, dU_eU, dW_eW, dY_eY, eC_0, eC_1, eU_0, eU_1, eW_0, eW_1, eW_2, eY_0, eY_1, eS_0, eS_1, eS_2, eS_3, eS_4, eS_5, List.length_map, i_inj, b_inj, s_inj, eC_eq, eU_eq, eW_eq, eY_eq, eS_eq, rng64, List.take_succ_cons, List.take_zero, List.nil_append, List.cons_append, decide_true, decide_false, Bool.or_true, true_and, and_true, dT_eT, eT_0, eT_1, eT_2, eT_3, eT_eq, eT_z, Bool.and_eq_false_iff, decide_eq_false_iff_not] at h
    have hp : putT v b t = .mk t.k t.n t.s (putTs v b t.l) := by rw [putT_t, if_neg (fun q => h.elim (fun h => h q.1) (fun h => h q.2))]
    rw [hp, q1j]
    refine ⟨fun st => ∃ k : Nat, k ≤ t.l.length ∧ st = [.i k, eT (.mk t.k t.n t.s (putTs v b (t.l.take k)))], fun st => t.l.length - (st.getD 0 .u).int.toNat, ⟨0, Nat.zero_le _, by simp only [X.evs, X.ev, evl, List.getD_cons_zero, eT_0, eT_1, eT_2, eT_mk]; rfl⟩, ?_⟩
    rintro st - ⟨k, hk, rfl⟩
    rw [go_br]
    refine ⟨fun hlt => ?_, fun hlt => ?_⟩
    · simp only [q00, go_br, q01, q02, allSay, X.says, X.ev, X.evs, evl, tblS, List.getD_cons_zero, List.getD_cons_succ, List.getElem?_cons_zero, List.getElem?_cons_succ, tt_b, int_i, str_s, rs_r, Option.isSome_some, Option.getD_some, decide_eq_true_eq, decide_eq_false_iff_not, dS_eS, dC_eC, dU_eU, dW_eW, dY_eY, eC_0, eC_1, eU_0, eU_1, eW_0, eW_1, eW_2, eY_0, eY_1, eS_0, eS_1, eS_2, eS_3, eS_4, eS_5, List.length_map, i_inj, b_inj, s_inj, eC_eq, eU_eq, eW_eq, eY_eq, eS_eq, rng64, List.take_succ_cons, List.take_zero, List.nil_append, List.cons_append, decide_true, decide_false, Bool.or_true, true_and, and_true, dT_eT, eT_0, eT_1, eT_2, eT_3, eT_eq, eT_z] at hlt
      have hkl' : k < t.l.length := by omega
      have ha := arg_sz hkl'
      simp only [q00, go_br, q01, q02, allSay, X.says, X.ev, X.evs, evl, tblS, List.getD_cons_zero, List.getD_cons_succ, List.getElem?_cons_zero, List.getElem?_cons_succ, tt_b, int_i, str_s, rs_r, Option.isSome_some, Option.getD_some, decide_eq_true_eq, decide_eq_false_iff_not, dS_eS, dC_eC, dU_eU, dW_eW, dY_eY, eC_0, eC_1, eU_0, eU_1, eW_0, eW_1, eW_2, eY_0, eY_1, eS_0, eS_1, eS_2, eS_3, eS_4, eS_5, List.length_map, i_inj, b_inj, s_inj, eC_eq, eU_eq, eW_eq, eY_eq, eS_eq, rng64, List.take_succ_cons, List.take_zero, List.nil_append, List.cons_append, decide_true, decide_false, Bool.or_true, true_and, and_true, dT_eT, eT_0, eT_1, eT_2, eT_3, eT_eq, eT_z, get_t hkl', cutM, mT, gPutT, gTT, if_pos (show szT (t.l.getD k default) < N by omega), id, Te_l, putTs_len, List.length_take]
      refine ⟨⟨by omega, by omega, by omega⟩, ⟨by omega, by omega⟩, ?_⟩
      rw [updB, if_pos rfl]
      refine ⟨⟨k + 1, by omega, ?_⟩, by simp [D.int]; omega⟩
      rw [take_snoc hkl', putTs_app, eT_snoc]
      rfl
    · simp only [q00, go_br, q01, q02, allSay, X.says, X.ev, X.evs, evl, tblS, List.getD_cons_zero, List.getD_cons_succ, List.getElem?_cons_zero, List.getElem?_cons_succ, tt_b, int_i, str_s, rs_r, Option.isSome_some, Option.getD_some, decide_eq_true_eq, decide_eq_false_iff_not, dS_eS, dC_eC, dU_eU, dW_eW, dY_eY, eC_0, eC_1, eU_0, eU_1, eW_0, eW_1, eW_2, eY_0, eY_1, eS_0, eS_1, eS_2, eS_3, eS_4, eS_5, List.length_map, i_inj, b_inj, s_inj, eC_eq, eU_eq, eW_eq, eY_eq, eS_eq, rng64, List.take_succ_cons, List.take_zero, List.nil_append, List.cons_append, decide_true, decide_false, Bool.or_true, true_and, and_true, dT_eT, eT_0, eT_1, eT_2, eT_3, eT_eq, eT_z] at hlt ⊢
      have : k = t.l.length := by omega
      subst this
      rw [List.take_length]
def repT (t : Te) (v : Int) (b : Te) : Te × Int := if validT t && (decide (0 ≤ v) && (decide (v ≤ 1099511627776) && validT b)) then (if 2000 < (szT t : Int) + (occT v t : Int) * ((szT b : Int) - 1) then (zT, 2) else (putT v b t, 0)) else (zT, 1)
def gRep : List D → Option (List D)
  | [t, v, b] => some [eT (repT (dT t) v.int (dT b)).1, .i (repT (dT t) v.int (dT b)).2]
  | _ => none
theorem ok_ref03_Replace : FOk q1o gRep := fok_ref03_Replace q35 ok_ref03_Size ok_ref03_Occurrences ok_ref03_put fun ds outs hw hg => by
  obtain ⟨d, r, rfl, hd, e, r', rfl, he, f, r2, rfl, hf, rfl⟩ := hw
  obtain ⟨t, rfl, ht⟩ := wfT hd
  obtain ⟨v, rfl, hv⟩ := wfI he
  obtain ⟨b, rfl, hb⟩ := wfT hf
  simp only [gRep, dT_eT, int_i, Option.some.injEq] at hg
  subst hg
  simp only [q42, q00, go_br, q01, q02, allSay, X.says, X.ev, X.evs, evl, tblS, List.getD_cons_zero, List.getD_cons_succ, List.getElem?_cons_zero, List.getElem?_cons_succ, tt_b, int_i, str_s, rs_r, Option.isSome_some, Option.getD_some, decide_eq_true_eq, decide_eq_false_iff_not, dS_eS, dC_eC, dU_eU, dW_eW, dY_eY, eC_0, eC_1, eU_0, eU_1, eW_0, eW_1, eW_2, eY_0, eY_1, eS_0, eS_1, eS_2, eS_3, eS_4, eS_5, List.length_map, i_inj, b_inj, s_inj, eC_eq, eU_eq, eW_eq, eY_eq, eS_eq, rng64, List.take_succ_cons, List.take_zero, List.nil_append, List.cons_append, decide_true, decide_false, Bool.or_true, true_and, and_true, dT_eT, eT_0, eT_1, eT_2, eT_3, eT_eq, eT_z, gTb, gTi, eT_z, repT]
  cases hvt : validT t
  · simp
  by_cases h1 : v < 0
  · have h1' : ¬ 0 ≤ v := by omega
    simp [h1, h1']
  by_cases h2 : 1099511627776 < v
  · have h2' : ¬ v ≤ 1099511627776 := by omega
    simp [h2, h2']
  have h1' : 0 ≤ v := by omega
  have h2' : v ≤ 1099511627776 := by omega
  cases hvb : validT b
  · simp [h1, h2]
  have a1 := hvt
  have a2 := hvb
  simp only [validT, Bool.and_eq_true, decide_eq_true_eq] at a1 a2
  have m1 : min (szT t : Int) 2001 = szT t := by omega
  have m2 : min (szT b : Int) 2001 = szT b := by omega
  have ho := occT_sz v t
  have hb1 := szT_pos b
  have hmul : (occT v t : Int) * ((szT b : Int) - 1) ≤ 2000 * 2000 := Int.mul_le_mul (by omega) (by omega) (by omega) (by omega)
  have hmul0 : 0 ≤ (occT v t : Int) * ((szT b : Int) - 1) := Int.mul_nonneg (by omega) (by omega)
  simp only [h1, h2, h1', h2', gOcc, gPutT, dT_eT, int_i, if_pos a1.1, m1, m2, Option.getD_some, Option.isSome_some, List.getD_cons_zero, Bool.not_true, Bool.or_false, decide_false, decide_true, Bool.and_self, Bool.true_and, if_true, Bool.false_or]
  generalize (occT v t : Int) * ((szT b : Int) - 1) = w at hmul hmul0
  by_cases h3 : 2000 < (szT t : Int) + w
  · simp [h3]
    omega
  · simp [h3]
    omega
def gVq : List D → Option (List D)
  | [p, q] => some [.b (decide (dVs p = dVs q))]
  | _ => none
theorem ok_law30_vars : FOk q1a gVq := fok_law30_vars fun ds outs hw hg => by
  obtain ⟨d, r, rfl, hd, e, r', rfl, he, rfl⟩ := hw
  obtain ⟨l, rfl, hl, -⟩ := wfVs hd
  obtain ⟨m, rfl, hm, -⟩ := wfVs he
  simp only [gVq, dVs_eVs, Option.some.injEq] at hg
  subst hg
  rw [q3l, go_br]
  refine ⟨fun h => ?_, fun h => ?_⟩
  · simp only [q00, go_br, q01, q02, allSay, X.says, X.ev, X.evs, evl, tblS, List.getD_cons_zero, List.getD_cons_succ, List.getElem?_cons_zero, List.getElem?_cons_succ, tt_b, int_i, str_s, rs_r, Option.isSome_some, Option.getD_some, decide_eq_true_eq, decide_eq_false_iff_not, dS_eS, dC_eC, dU_eU, dW_eW, dY_eY, eC_0, eC_1, eU_0, eU_1, eW_0, eW_1, eW_2, eY_0, eY_1, eS_0, eS_1, eS_2, eS_3, eS_4, eS_5, List.length_map, i_inj, b_inj, s_inj, eC_eq, eU_eq, eW_eq, eY_eq, eS_eq, rng64, List.take_succ_cons, List.take_zero, List.nil_append, List.cons_append, decide_true, decide_false, Bool.or_true, true_and, and_true, dT_eT, eT_0, eT_1, eT_2, eT_3, eT_eq, eT_z] at h
    have hne : ¬ l = m := fun e => by subst e; simp at h
    simp only [q01, q00, go_br, q01, q02, allSay, X.says, X.ev, X.evs, evl, tblS, List.getD_cons_zero, List.getD_cons_succ, List.getElem?_cons_zero, List.getElem?_cons_succ, tt_b, int_i, str_s, rs_r, Option.isSome_some, Option.getD_some, decide_eq_true_eq, decide_eq_false_iff_not, dS_eS, dC_eC, dU_eU, dW_eW, dY_eY, eC_0, eC_1, eU_0, eU_1, eW_0, eW_1, eW_2, eY_0, eY_1, eS_0, eS_1, eS_2, eS_3, eS_4, eS_5, List.length_map, i_inj, b_inj, s_inj, eC_eq, eU_eq, eW_eq, eY_eq, eS_eq, rng64, List.take_succ_cons, List.take_zero, List.nil_append, List.cons_append, decide_true, decide_false, Bool.or_true, true_and, and_true, dT_eT, eT_0, eT_1, eT_2, eT_3, eT_eq, eT_z, decide_eq_false hne]
  · simp only [q00, go_br, q01, q02, allSay, X.says, X.ev, X.evs, evl, tblS, List.getD_cons_zero, List.getD_cons_succ, List.getElem?_cons_zero, List.getElem?_cons_succ, tt_b, int_i, str_s, rs_r, Option.isSome_some, Option.getD_some, decide_eq_true_eq, decide_eq_false_iff_not, dS_eS, dC_eC, dU_eU, dW_eW, dY_eY, eC_0, eC_1, eU_0, eU_1, eW_0, eW_1, eW_2, eY_0, eY_1, eS_0, eS_1, eS_2, eS_3, eS_4, eS_5, List.length_map, i_inj, b_inj, s_inj, eC_eq, eU_eq, eW_eq, eY_eq, eS_eq, rng64, List.take_succ_cons, List.take_zero, List.nil_append, List.cons_append, decide_true, decide_false, Bool.or_true, true_and, and_true, dT_eT, eT_0, eT_1, eT_2, eT_3, eT_eq, eT_z, Bool.not_eq_false', decide_eq_true_eq] at h
    have hlm : l.length = m.length := by omega
    rw [q1j]
    refine ⟨fun st => ∃ k : Nat, k ≤ l.length ∧ st = [.b false, .i k] ∧ ∀ j, j < k → l.getD j default = m.getD j default, fun st => l.length - (st.getD 1 .u).int.toNat, ⟨0, Nat.zero_le _, rfl, fun j hj => absurd hj (Nat.not_lt_zero _)⟩, ?_⟩
    rintro st - ⟨k, hk, rfl, hP⟩
    rw [go_br]
    refine ⟨fun hlt => ?_, fun hlt => ?_⟩
    · simp only [q00, go_br, q01, q02, allSay, X.says, X.ev, X.evs, evl, tblS, List.getD_cons_zero, List.getD_cons_succ, List.getElem?_cons_zero, List.getElem?_cons_succ, tt_b, int_i, str_s, rs_r, Option.isSome_some, Option.getD_some, decide_eq_true_eq, decide_eq_false_iff_not, dS_eS, dC_eC, dU_eU, dW_eW, dY_eY, eC_0, eC_1, eU_0, eU_1, eW_0, eW_1, eW_2, eY_0, eY_1, eS_0, eS_1, eS_2, eS_3, eS_4, eS_5, List.length_map, i_inj, b_inj, s_inj, eC_eq, eU_eq, eW_eq, eY_eq, eS_eq, rng64, List.take_succ_cons, List.take_zero, List.nil_append, List.cons_append, decide_true, decide_false, Bool.or_true, true_and, and_true, dT_eT, eT_0, eT_1, eT_2, eT_3, eT_eq, eT_z] at hlt
      have hkl : k < l.length := by omega
      have hkm : k < m.length := by omega
      simp only [q00, go_br, q01, q02, q00, go_br, q01, q02, allSay, X.says, X.ev, X.evs, evl, tblS, List.getD_cons_zero, List.getD_cons_succ, List.getElem?_cons_zero, List.getElem?_cons_succ, tt_b, int_i, str_s, rs_r, Option.isSome_some, Option.getD_some, decide_eq_true_eq, decide_eq_false_iff_not, dS_eS, dC_eC, dU_eU, dW_eW, dY_eY, eC_0, eC_1, eU_0, eU_1, eW_0, eW_1, eW_2, eY_0, eY_1, eS_0, eS_1, eS_2, eS_3, eS_4, eS_5, List.length_map, i_inj, b_inj, s_inj, eC_eq, eU_eq, eW_eq, eY_eq, eS_eq, rng64, List.take_succ_cons, List.take_zero, List.nil_append, List.cons_append, decide_true, decide_false, Bool.or_true, true_and, and_true, dT_eT, eT_0, eT_1, eT_2, eT_3, eT_eq, eT_z, get_n eV hkl, get_n eV hkm, eV_eq]
      refine ⟨⟨by omega, by omega, by omega, by omega⟩, fun hb => ?_, fun hb => ⟨⟨by omega, by omega⟩, ?_⟩⟩
      · have hne : ¬ l = m := fun e => by subst e; simp at hb
        rw [decide_eq_false hne]
      · rw [updB, if_pos rfl]
        exact ⟨⟨k + 1, by omega, by simp, upto_succ hP (by simpa using hb)⟩, by simp [D.int]; omega⟩
    · simp only [q00, go_br, q01, q02, allSay, X.says, X.ev, X.evs, evl, tblS, List.getD_cons_zero, List.getD_cons_succ, List.getElem?_cons_zero, List.getElem?_cons_succ, tt_b, int_i, str_s, rs_r, Option.isSome_some, Option.getD_some, decide_eq_true_eq, decide_eq_false_iff_not, dS_eS, dC_eC, dU_eU, dW_eW, dY_eY, eC_0, eC_1, eU_0, eU_1, eW_0, eW_1, eW_2, eY_0, eY_1, eS_0, eS_1, eS_2, eS_3, eS_4, eS_5, List.length_map, i_inj, b_inj, s_inj, eC_eq, eU_eq, eW_eq, eY_eq, eS_eq, rng64, List.take_succ_cons, List.take_zero, List.nil_append, List.cons_append, decide_true, decide_false, Bool.or_true, true_and, and_true, dT_eT, eT_0, eT_1, eT_2, eT_3, eT_eq, eT_z] at hlt ⊢
      have : k = l.length := by omega
      subst this
      have he : l = m := List.ext_getElem hlm fun i h1 h2 => by
        have := hP i h1
        rwa [getD_el h1, getD_el h2] at this
      simp [he]
end Go.Proofs.Ytinclokohcommaa


namespace Go.Proofs.Ytinclokohcommaa
open Go.RowKit
set_option linter.unusedVariables false
set_option linter.unusedSimpArgs false

mutual
theorem vars_no : ∀ (t : Te) (vs : List Int), inV vs t → varsT vs t = vs
  | .mk k n s l, vs, h => by
    rw [inV_mk] at h
    rw [varsT_t, if_neg (fun q => q.2 (h.1 q.1))]
    exact varss_no l vs h.2
theorem varss_no : ∀ (l : List Te) (vs : List Int), inVs vs l → varsTs vs l = vs
  | [], vs, _ => by rw [varsTs]
  | t :: l, vs, h => by
    rw [inVs] at h
    rw [varsTs, vars_no t vs h.1, varss_no l vs h.2]
end
mutual
theorem sub_sz {g : Int → Te} {b : Nat} (hg : ∀ v, szT (g v) ≤ b) (hb : 1 ≤ b) : ∀ t, szT (subT g t) ≤ szT t * b
  | .mk k n s l => by
    rw [subT, szT]
    split
    · exact Nat.le_trans (hg n) (Nat.le_mul_of_pos_left _ (by omega))
    · rw [szT]
      have := subs_sz hg hb l
      rw [Nat.add_mul]
      omega
theorem subs_sz {g : Int → Te} {b : Nat} (hg : ∀ v, szT (g v) ≤ b) (hb : 1 ≤ b) : ∀ l, szTs (subTs g l) ≤ szTs l * b
  | [] => by simp [subTs, szTs]
  | t :: l => by
    rw [subTs, szTs, szTs, Nat.add_mul]
    have h1 := sub_sz hg hb t
    have h2 := subs_sz hg hb l
    omega
end
mutual
theorem sub_nodes {g : Int → Te} (hg : ∀ v, nodesT (g v) = true) : ∀ t, nodesT t = true → nodesT (subT g t) = true
  | .mk k n s l, h => by
    rw [nodesT, Bool.and_eq_true] at h
    rw [subT]
    split
    · exact hg n
    · rename_i h0
      rw [nodesT, Bool.and_eq_true]
      refine ⟨?_, subs_nodes hg l h.2⟩
      have hn := h.1
      rw [nodeT_k, if_neg h0] at hn ⊢
      rw [subTs_len]
      exact hn
theorem subs_nodes {g : Int → Te} (hg : ∀ v, nodesT (g v) = true) : ∀ l, nodesTs l = true → nodesTs (subTs g l) = true
  | [], _ => rfl
  | t :: l, h => by
    rw [nodesTs, Bool.and_eq_true] at h
    rw [subTs, nodesTs, Bool.and_eq_true]
    exact ⟨sub_nodes hg t h.1, subs_nodes hg l h.2⟩
end
mutual
/-- All variables are mapped to one, which is replaced then. -/
theorem put_map {f : Int → Int} {z : Int} {b : Te} {V : List Int} (hf : ∀ v ∈ V, f v = z) : ∀ t, inV V t → putT z b (mapV f t) = subT (fun _ => b) t
  | .mk k n s l, h => by
    rw [inV_mk] at h
    rw [mapV, putT, subT, puts_map hf l h.2]
    by_cases h0 : k = 0
    · rw [if_pos h0, if_pos h0, if_pos ⟨h0, hf n (h.1 h0)⟩]
    · rw [if_neg h0, if_neg h0, if_neg (fun q => h0 q.1)]
theorem puts_map {f : Int → Int} {z : Int} {b : Te} {V : List Int} (hf : ∀ v ∈ V, f v = z) : ∀ l, inVs V l → putTs z b (mapVs f l) = subTs (fun _ => b) l
  | [], _ => rfl
  | t :: l, h => by
    rw [inVs] at h
    rw [mapVs, putTs, subTs, put_map hf t h.1, puts_map hf l h.2]
end
theorem getN_der {S : So} {c c' : Ce} (h : derS S c = derS S c') : ∀ (m : Nat) (l : Int), getN S m c l = getN S m c' l
  | 0, l => rfl
  | m + 1, l => by rw [getN, getN, h]
theorem der_kept {S : So} (hS : validR S = true) {c : Ce} (hc : vcR S c = true) : derS S (keptC c) = derS S c := by
  unfold keptC
  split
  · rename_i h5
    have ht : tagS S c.n = 5 := by
      unfold vcR at hc
      rw [if_neg (by omega), if_neg (by omega), if_neg (by omega), if_neg (by omega), if_pos h5] at hc
      exact of_decide_eq_true hc
    have hi := tag_in' (by decide) ht
    rw [tagS_in hi] at ht
    have hcl := vr_cell hS hi
    unfold cellR at hcl
    rw [if_neg (by omega)] at hcl
    simp only [Bool.and_eq_true, Bool.or_eq_true, Bool.not_eq_true', decide_eq_true_eq, decide_eq_false_iff_not] at hcl
    have hn : (cellAt S c.n).n = c.n := by
      rcases hcl.2.2 with h | h
      · exact (h ht).elim
      · exact h.1
    have hcc : cellAt S c.n = c := Ce.ext' (ht.trans h5.symm) hn
    have hv0 : vcR S ⟨0, c.n⟩ = true := by
      unfold vcR
      rw [if_pos rfl]
      simp only [hi, tagS_in hi, ht]
      rfl
    rw [der_id hc (.inl (by omega)), derS, if_pos hv0, derN, if_pos ⟨rfl, hi, fun e => absurd (ht.symm.trans (congrArg Ce.t e)) (by decide : ¬ (5 : Int) = 0)⟩]
    show derN S S.cs.length (cellAt S c.n) = c
    rw [hcc, derN_t (by omega)]
  · rfl
theorem same_self {t : Te} (h : validT t = true) : sameT t t = true := by
  simp [sameT, h, (idT_iff t t).2 rfl]
theorem law_CellsGiven : FOk q24 gYes := fok_law30_CellsGiven ok_ref30_Valid q2x q35 ok_ref03_Size ok_ref03_Vars ok_law30_awake ok_cells_Get ok_ref30_Clone ok_cells_Put ok_ref03_Canon ok_ref03_Replace ok_ref03_Same ok_law30_vars ok_cells_Valid fun ds outs hw hg => by
  obtain ⟨d, r, rfl, hd, e, r', rfl, he, f, r2, rfl, hf, rfl⟩ := hw
  obtain ⟨s, rfl, hs⟩ := wfS hd
  obtain ⟨c, rfl, hc⟩ := wfC he
  obtain ⟨t, rfl, ht⟩ := wfT hf
  simp only [gYes, Option.some.injEq] at hg
  subst hg
  rw [q32]
  cases hv : validR s
  · simp [q00, go_br, q01, q02, allSay, X.says, X.ev, X.evs, evl, tblS, List.getD_cons_zero, List.getD_cons_succ, List.getElem?_cons_zero, List.getElem?_cons_succ, tt_b, int_i, str_s, rs_r, Option.isSome_some, Option.getD_some, decide_eq_true_eq, decide_eq_false_iff_not, dS_eS, dC_eC, dU_eU, dW_eW, dY_eY, eC_0, eC_1, eU_0, eU_1, eW_0, eW_1, eW_2, eY_0, eY_1, eS_0, eS_1, eS_2, eS_3, eS_4, eS_5, List.length_map, i_inj, b_inj, s_inj, eC_eq, eU_eq, eW_eq, eY_eq, eS_eq, rng64, List.take_succ_cons, List.take_zero, List.nil_append, List.cons_append, decide_true, decide_false, Bool.or_true, true_and, and_true, dT_eT, eT_0, eT_1, eT_2, eT_3, eT_eq, eT_z, gSb, gSCb, gTb, hv, gYes]
  cases hvc : vcR s c
  · simp [q00, go_br, q01, q02, allSay, X.says, X.ev, X.evs, evl, tblS, List.getD_cons_zero, List.getD_cons_succ, List.getElem?_cons_zero, List.getElem?_cons_succ, tt_b, int_i, str_s, rs_r, Option.isSome_some, Option.getD_some, decide_eq_true_eq, decide_eq_false_iff_not, dS_eS, dC_eC, dU_eU, dW_eW, dY_eY, eC_0, eC_1, eU_0, eU_1, eW_0, eW_1, eW_2, eY_0, eY_1, eS_0, eS_1, eS_2, eS_3, eS_4, eS_5, List.length_map, i_inj, b_inj, s_inj, eC_eq, eU_eq, eW_eq, eY_eq, eS_eq, rng64, List.take_succ_cons, List.take_zero, List.nil_append, List.cons_append, decide_true, decide_false, Bool.or_true, true_and, and_true, dT_eT, eT_0, eT_1, eT_2, eT_3, eT_eq, eT_z, gSb, gSCb, gTb, hv, hvc, gYes]
  cases hvt : validT t
  · simp [q00, go_br, q01, q02, allSay, X.says, X.ev, X.evs, evl, tblS, List.getD_cons_zero, List.getD_cons_succ, List.getElem?_cons_zero, List.getElem?_cons_succ, tt_b, int_i, str_s, rs_r, Option.isSome_some, Option.getD_some, decide_eq_true_eq, decide_eq_false_iff_not, dS_eS, dC_eC, dU_eU, dW_eW, dY_eY, eC_0, eC_1, eU_0, eU_1, eW_0, eW_1, eW_2, eY_0, eY_1, eS_0, eS_1, eS_2, eS_3, eS_4, eS_5, List.length_map, i_inj, b_inj, s_inj, eC_eq, eU_eq, eW_eq, eY_eq, eS_eq, rng64, List.take_succ_cons, List.take_zero, List.nil_append, List.cons_append, decide_true, decide_false, Bool.or_true, true_and, and_true, dT_eT, eT_0, eT_1, eT_2, eT_3, eT_eq, eT_z, gSb, gSCb, gTb, hv, hvc, hvt, gYes]
  have hv2 := hvt
  simp only [validT, Bool.and_eq_true, decide_eq_true_eq] at hv2
  have hmt : min (szT t : Int) 2001 = szT t := by omega
  by_cases hz1 : 40 < szT t
  · have : (40 : Int) < szT t := by omega
    simp [q00, go_br, q01, q02, allSay, X.says, X.ev, X.evs, evl, tblS, List.getD_cons_zero, List.getD_cons_succ, List.getElem?_cons_zero, List.getElem?_cons_succ, tt_b, int_i, str_s, rs_r, Option.isSome_some, Option.getD_some, decide_eq_true_eq, decide_eq_false_iff_not, dS_eS, dC_eC, dU_eU, dW_eW, dY_eY, eC_0, eC_1, eU_0, eU_1, eW_0, eW_1, eW_2, eY_0, eY_1, eS_0, eS_1, eS_2, eS_3, eS_4, eS_5, List.length_map, i_inj, b_inj, s_inj, eC_eq, eU_eq, eW_eq, eY_eq, eS_eq, rng64, List.take_succ_cons, List.take_zero, List.nil_append, List.cons_append, decide_true, decide_false, Bool.or_true, true_and, and_true, dT_eT, eT_0, eT_1, eT_2, eT_3, eT_eq, eT_z, gSb, gSCb, gTb, gTi, hv, hvc, hvt, gYes, hmt, this]
  have hn1 : ¬ ((40 : Int) < szT t) := by omega
  have hvl : (varsS t) = varsT [] t := if_pos hvt
  by_cases hl1 : (varsT [] t).length = 1
  case neg =>
    have : ¬ (((varsT [] t).length : Int) = 1) := by omega
    simp [q00, go_br, q01, q02, allSay, X.says, X.ev, X.evs, evl, tblS, List.getD_cons_zero, List.getD_cons_succ, List.getElem?_cons_zero, List.getElem?_cons_succ, tt_b, int_i, str_s, rs_r, Option.isSome_some, Option.getD_some, decide_eq_true_eq, decide_eq_false_iff_not, dS_eS, dC_eC, dU_eU, dW_eW, dY_eY, eC_0, eC_1, eU_0, eU_1, eW_0, eW_1, eW_2, eY_0, eY_1, eS_0, eS_1, eS_2, eS_3, eS_4, eS_5, List.length_map, i_inj, b_inj, s_inj, eC_eq, eU_eq, eW_eq, eY_eq, eS_eq, rng64, List.take_succ_cons, List.take_zero, List.nil_append, List.cons_append, decide_true, decide_false, Bool.or_true, true_and, and_true, dT_eT, eT_0, eT_1, eT_2, eT_3, eT_eq, eT_z, gSb, gSCb, gTb, gTi, hv, hvc, hvt, gYes, hmt, hn1, gVarsS, hvl, eIs_len, this]
  obtain ⟨v, hV⟩ := List.length_eq_one_iff.1 hl1
  have hin : inV [v] t := by
    have := varsT_in t []
    rwa [hV] at this
  have hvb := varsT_ok t [] hv2.2 (fun x hx => by cases hx) v (by rw [hV]; simp)
  have hgeteq : gGet [eS s, eC c] = some [eT (getS s c).1, .i (getS s c).2] := by simp only [gGet, dS_eS, dC_eC, if_pos hv]
  have hl0 := getN_le s 2001 c 2000 (by decide)
  by_cases hge : (getN s 2001 c 2000).2 < 0
  · have hgs : getS s c = (zT, 2) := by rw [getS, if_pos hvc, if_pos hge]
    rw [hgs] at hgeteq
    simp [q00, go_br, q01, q02, allSay, X.says, X.ev, X.evs, evl, tblS, List.getD_cons_zero, List.getD_cons_succ, List.getElem?_cons_zero, List.getElem?_cons_succ, tt_b, int_i, str_s, rs_r, Option.isSome_some, Option.getD_some, decide_eq_true_eq, decide_eq_false_iff_not, dS_eS, dC_eC, dU_eU, dW_eW, dY_eY, eC_0, eC_1, eU_0, eU_1, eW_0, eW_1, eW_2, eY_0, eY_1, eS_0, eS_1, eS_2, eS_3, eS_4, eS_5, List.length_map, i_inj, b_inj, s_inj, eC_eq, eU_eq, eW_eq, eY_eq, eS_eq, rng64, List.take_succ_cons, List.take_zero, List.nil_append, List.cons_append, decide_true, decide_false, Bool.or_true, true_and, and_true, dT_eT, eT_0, eT_1, eT_2, eT_3, eT_eq, eT_z, gSb, gSCb, gTb, gTi, hv, hvc, hvt, gYes, hmt, hn1, gVarsS, hvl, eIs_len, hV, hgeteq]
  obtain ⟨gn, gz⟩ := getN_ok hv 2001 c 2000 hvc (by decide) (by omega)
  have hgs : getS s c = ((getN s 2001 c 2000).1, 0) := by rw [getS, if_pos hvc, if_neg hge]
  have hext := fun S (E : Ext s S) => get_ext E hv 2001 c 2000 hvc (by decide) (by decide) (by omega)
  rw [hgs] at hgeteq
  have hbv := get_valid hv hvc (l := 2000) (f := 2001) (by decide) (by decide) (by omega)
  generalize getN s 2001 c 2000 = G at hgeteq gn gz hext hbv hge hl0 hgs
  obtain ⟨b, lf⟩ := G
  simp only at hgeteq gn gz hext hbv hge hl0
  have hmb : min (szT b : Int) 2001 = szT b := by omega
  by_cases hz2 : 40 < szT b
  · have : (40 : Int) < szT b := by omega
    simp [q00, go_br, q01, q02, allSay, X.says, X.ev, X.evs, evl, tblS, List.getD_cons_zero, List.getD_cons_succ, List.getElem?_cons_zero, List.getElem?_cons_succ, tt_b, int_i, str_s, rs_r, Option.isSome_some, Option.getD_some, decide_eq_true_eq, decide_eq_false_iff_not, dS_eS, dC_eC, dU_eU, dW_eW, dY_eY, eC_0, eC_1, eU_0, eU_1, eW_0, eW_1, eW_2, eY_0, eY_1, eS_0, eS_1, eS_2, eS_3, eS_4, eS_5, List.length_map, i_inj, b_inj, s_inj, eC_eq, eU_eq, eW_eq, eY_eq, eS_eq, rng64, List.take_succ_cons, List.take_zero, List.nil_append, List.cons_append, decide_true, decide_false, Bool.or_true, true_and, and_true, dT_eT, eT_0, eT_1, eT_2, eT_3, eT_eq, eT_z, gSb, gSCb, gTb, gTi, hv, hvc, hvt, gYes, hmt, hn1, gVarsS, hvl, eIs_len, hV, hgeteq, hmb, this]
  have hn2 : ¬ ((40 : Int) < szT b) := by omega
  have hcl : gClone [eS s] = some [eS s] := by simp only [gClone, dS_eS, clQ_of hs, if_true]
  have hdv : dVs (.r [eV ⟨v, c⟩]) = [⟨v, c⟩] := rfl
  have hvv : vvP s [⟨v, c⟩] = true := vvP_iff.2 ⟨⟨List.pairwise_singleton _ _, fun x hx => by
    rw [List.mem_singleton.1 hx]
    exact hvb⟩, fun x hx => by
    rw [List.mem_singleton.1 hx, (validR_vs hv).vc]
    exact hvc⟩
  have hget0 : (eIs [v]).get 0 = .i v := rfl
  have hel : D.a [.i v, eC c] = eV ⟨v, c⟩ := rfl
  cases hr : roomB s t [⟨v, c⟩]
  · have hput : gPut [eS s, eT t, .r [eV ⟨v, c⟩]] = some [eC ⟨0, 0⟩, .r [], .i 13, eS s] := by
      simp only [gPut, dS_eS, dT_eT, hdv, if_pos hv, putV, hvt, hvv, hr, Bool.and_self, if_true]
      rfl
    simp [q00, go_br, q01, q02, allSay, X.says, X.ev, X.evs, evl, tblS, List.getD_cons_zero, List.getD_cons_succ, List.getElem?_cons_zero, List.getElem?_cons_succ, tt_b, int_i, str_s, rs_r, Option.isSome_some, Option.getD_some, decide_eq_true_eq, decide_eq_false_iff_not, dS_eS, dC_eC, dU_eU, dW_eW, dY_eY, eC_0, eC_1, eU_0, eU_1, eW_0, eW_1, eW_2, eY_0, eY_1, eS_0, eS_1, eS_2, eS_3, eS_4, eS_5, List.length_map, i_inj, b_inj, s_inj, eC_eq, eU_eq, eW_eq, eY_eq, eS_eq, rng64, List.take_succ_cons, List.take_zero, List.nil_append, List.cons_append, decide_true, decide_false, Bool.or_true, true_and, and_true, dT_eT, eT_0, eT_1, eT_2, eT_3, eT_eq, eT_z, gSb, gSCb, gTb, gTi, hv, hvc, hvt, gYes, hmt, hn1, hn2, gVarsS, hvl, eIs_len, hV, hgeteq, hmb, hcl, hget0, hel, hput]
    done
  have P := put_ok hv hvt hvv hr
  have hput : gPut [eS s, eT t, .r [eV ⟨v, c⟩]] = some [eC (addD (s, [⟨v, c⟩]) t (-1)).1, .r ((addD (s, [⟨v, c⟩]) t (-1)).2.2.map eV), .i 0, eS (addD (s, [⟨v, c⟩]) t (-1)).2.1] := by
    simp only [gPut, dS_eS, dT_eT, hdv, if_pos hv, putV, hvt, hvv, hr, Bool.and_self, if_true]
  generalize addD (s, [⟨v, c⟩]) t (-1) = R at P hput
  obtain ⟨d, S, all⟩ := R
  simp only at P hput
  have hcnt := P.cnt
  have hofv := P.of v c (by simp [ofV])
  rw [show ([⟨v, c⟩] : List Vc).map Vc.v = [v] from rfl, vars_no t [v] hin] at hcnt
  have hall : all = [⟨v, c⟩] := by
    obtain ⟨x, hx⟩ := List.length_eq_one_iff.1 hcnt
    rw [hx] at hofv ⊢
    rw [ofV] at hofv
    split at hofv
    · rename_i h
      obtain ⟨xv, xc⟩ := x
      simp only at h hofv
      rw [h, Option.some.inj hofv]
    · cases hofv
  subst hall
  have hfv : fOf [⟨v, c⟩] v = keptC c := fOf_some hofv
  have hSc := P.ext.vc hvc
  have hsubz := sub_sz (g := fun _ => b) (b := 40) (fun _ => by omega) (by decide) t
  have hgetN := get_rep (S := S) (f := fOf [⟨v, c⟩]) (g := fun _ => b) (V := [v]) (fun w hw m l hm hl => by
    rw [List.mem_singleton.1 hw, hfv, getN_der (der_kept P.valid hSc)]
    have := hext S P.ext m l (by omega) (by omega)
    rw [this]
    congr 1
    omega) t d hin hv2.2 P.rep 2001 2000 (by omega) (by omega)
  have hget : gGet [eS S, eC d] = some [eT (subT (fun _ => b) t), .i 0] := by
    simp only [gGet, dS_eS, dC_eC, if_pos P.valid, getS, P.vc, hgetN, if_true]
    rw [if_neg (by omega)]
  have hcanv : canS t = mapV (posL [v]) t := by
    rw [canS, if_pos hvt, hV]
  have hposv : posL [v] v = 0 := by simp [posL]
  have hcv : validT (canS t) = true := by
    rw [hcanv]
    refine validT_map (V := [v]) (fun x hx => ?_) hin hvt
    rw [List.mem_singleton.1 hx, hposv]
    exact ⟨by decide, by decide⟩
  have hcz : szT (canS t) = szT t := by rw [hcanv, szT_mapV]
  have hocc := occT_sz 0 (canS t)
  have hb1 := szT_pos b
  have hmul : (occT 0 (canS t) : Int) * ((szT b : Int) - 1) ≤ 40 * 39 := Int.mul_le_mul (by omega) (by omega) (by omega) (by omega)
  have hrep : repT (canS t) 0 b = (subT (fun _ => b) t, 0) := by
    rw [repT, if_pos (by simp [hcv, hbv]), if_neg (by omega), hcanv, put_map (fun w hw => by rw [List.mem_singleton.1 hw, hposv]) t hin]
  have hsv : validT (subT (fun _ => b) t) = true := by
    simp only [validT, Bool.and_eq_true, decide_eq_true_eq]
    exact ⟨by omega, sub_nodes (fun _ => gn) t hv2.2⟩
  have hsame := same_self hsv
  have hvP : validP S = true := by rw [valid_eq]; exact P.valid
  have hvm : D.r (([⟨v, c⟩] : List Vc).map eV) = .r [eV ⟨v, c⟩] := rfl
  rw [hvm] at hput
  simp [q00, go_br, q01, q02, allSay, X.says, X.ev, X.evs, evl, tblS, List.getD_cons_zero, List.getD_cons_succ, List.getElem?_cons_zero, List.getElem?_cons_succ, tt_b, int_i, str_s, rs_r, Option.isSome_some, Option.getD_some, decide_eq_true_eq, decide_eq_false_iff_not, dS_eS, dC_eC, dU_eU, dW_eW, dY_eY, eC_0, eC_1, eU_0, eU_1, eW_0, eW_1, eW_2, eY_0, eY_1, eS_0, eS_1, eS_2, eS_3, eS_4, eS_5, List.length_map, i_inj, b_inj, s_inj, eC_eq, eU_eq, eW_eq, eY_eq, eS_eq, rng64, List.take_succ_cons, List.take_zero, List.nil_append, List.cons_append, decide_true, decide_false, Bool.or_true, true_and, and_true, dT_eT, eT_0, eT_1, eT_2, eT_3, eT_eq, eT_z, gSb, gSCb, gTb, gTi, gTT, gTTb, hv, hvc, hvt, gYes, hmt, hn1, hn2, gVarsS, hvl, eIs_len, hV, hgeteq, hmb, hcl, hget0, hel, hput, hget, gRep, hrep, hsame, gVq, hvP]
  done
end Go.Proofs.Ytinclokohcommaa


namespace Go.Proofs.Ytinclokohcommaa
open Go.ChangeShapes Go.WideShapes Go.ChangeAt Go.RowKit
set_option linter.unusedVariables false
set_option maxRecDepth 100000

theorem own_knobD : ownKnob Try.prog.godebug = none := by kernel_rfl
theorem laid_outD : laidOutB Try.prog = true := by kernel_rfl

section
variable {H : Type} {enc : TypeId × Value → H} {W : World} {base : Nat} {spare : Nat → Bool} {held : Bool}

def LightD (t : TypeId) (d : DataW H) : Prop := ∀ n ∈ d.weights Try.prog t, n ≤ reachBytes

theorem weightsAll_memD {e : TypeId} : ∀ {l : List (DataW H)} {d : DataW H}, d ∈ l → ∀ n ∈ d.weights Try.prog e, n ∈ DataW.weightsAll Try.prog e l
  | [], _, h, _, _ => by cases h
  | x :: l, d, h, n, hn => by
    simp only [DataW.weightsAll, List.mem_append]
    rcases List.mem_cons.1 h with rfl | h
    · exact .inl hn
    · exact .inr (weightsAll_memD h n hn)

theorem LightD.each {ts : List TypeId} {l : List (DataW H)} {k : Nat} {t : TypeId} {d : DataW H} (h : ∀ n ∈ DataW.weightsEach Try.prog ts l, n ≤ reachBytes) (ht : ts[k]? = some t) (hd : l[k]? = some d) : LightD t d := fun n hn =>
  h n (DataW.weights_mem_each ht hd n hn)

theorem reach_eqD : reachBytes = LIM := rfl

theorem cells_w {T : TypeId} {t : Ty} (h : tyOf T = some t) : Try.prog.cellsOf T = t.w := by
  obtain ⟨i, hi, h1, -⟩ := row_info h
  simp [Program.cellsOf, hi, h1]

theorem rng_wf {k : IntKind} {t : TypeId} (ht : tyOf t = some (.int k)) {n : Int} (h : (Lit.int k n).wf = true) : rngB k n = true := by
  have h0 := (row_int ht).2.1
  cases k <;> first | (simp [rngB] at h0; done) | (simp [Lit.wf, IntKind.min, IntKind.max, IntKind.signed, IntKind.bits] at h; simp [rngB]; omega)

theorem spot_noneD {a : Addr} {v : Value} (h : W.cell? a = some v) : a.spot = none := by
  unfold World.cell? at h
  split at h
  · split at h
    · cases h
    · rename_i hs; simpa using hs
  · cases h

theorem rdF_of {F : Nat → Prop} {cs : List Value} : ∀ {fl : List Field} {fs : List Ty} {o : Nat}, fieldsB fl fs o = true → (∀ (j : Nat) (f : Field) (t : Ty), fl[j]? = some f → fs[j]? = some t → ∃ y, Rd W F y t ((cs.drop f.offset).take t.w)) → cs.length = o + widths fs → ∃ ds, RdF W F ds fs (cs.drop o)
  | [], [], o, _, _, hl => by
    simp [widths] at hl
    exact ⟨[], rfl, by rw [List.drop_eq_nil_iff]; omega⟩
  | f :: l, t :: ts, o, hb, hf, hl => by
    simp only [fieldsB, Bool.and_eq_true] at hb
    obtain ⟨⟨⟨h1, -⟩, -⟩, h3⟩ := hb
    have ho := Nat.eq_of_beq_eq_true h1
    rw [widths_cons] at hl
    obtain ⟨ds, hds⟩ := rdF_of h3 (fun j f' t' hj ht => hf (j + 1) f' t' (by simpa using hj) (by simpa using ht)) (by omega)
    obtain ⟨y, hy⟩ := hf 0 f t rfl rfl
    refine ⟨y :: ds, t, ts, (cs.drop o).take t.w, cs.drop (o + t.w), rfl, ?_, by rw [← ho]; exact hy, hds⟩
    rw [← List.drop_drop, List.take_append_drop]
  | [], _ :: _, o, hb, _, _ => by cases hb
  | _ :: _, [], o, hb, _, _ => by cases hb

theorem open_recD : ∀ (fuel : Nat) {T : TypeId} {t : Ty} (cs : List Value) (x : DataW H × List MemPlace), tyOf T = some t → isMp t = false → DataW.trod enc Try.prog W base spare held fuel T cs = some x → LightD T x.1 → ∃ y, Rd W (fun _ => True) y t cs := by
  intro fuel
  induction fuel with
  | zero => intro T t cs x _ _ h; simp [DataW.trod] at h
  | succ fuel ih =>
    intro T t cs x hT hM h hL
    cases t with
    | map K V => cases hM
    | int k =>
      obtain ⟨n, rfl, -, hw⟩ := DataW.trod_int (row_int hT).1 h
      exact ⟨.i n, k, rfl, rfl, rng_wf hT hw⟩
    | bool =>
      obtain ⟨b, rfl, -⟩ := DataW.trod_bool (row_bool hT).1 h
      exact ⟨.b b, rfl, rfl⟩
    | str =>
      obtain ⟨s, rfl, rfl, -⟩ := DataW.trod_string (row_str hT).1 h
      have := hL s.data.toList.length (by simp [DataW.weights])
      exact ⟨.s s, rfl, rfl, by rw [reach_eqD] at this; simpa using this⟩
    | st S =>
      obtain ⟨fields, fs, zc, i, hu, hfs, hfb, hi, hsz, -, -, -, -⟩ := row_st hT
      obtain ⟨xs, n, hn, hx, hlen, hxl, hf⟩ := DataW.trod_struct hu h
      obtain rfl : fuel = n := by omega
      have hw : ∀ n ∈ DataW.weightsEach Try.prog (fields.toList.map (·.type)) (xs.map (·.1)), n ≤ reachBytes := fun n hn => hL n (by rw [hx]; simp only [DataW.weights, hu]; exact hn)
      have hcl : cs.length = 0 + widths fs := by rw [hlen, cells_w hT, (fld_okD hfs).1]; omega
      obtain ⟨ds, hds⟩ := rdF_of (W := W) (F := fun _ => True) hfb (fun j f t hj ht => by
        obtain ⟨f', hf', ho, hty, -⟩ := fieldsB_get hfb ht
        obtain rfl := Option.some.inj (hj.symm.trans hf')
        have h5 := hf j f (by rw [← Array.getElem?_toList]; exact hj)
        have hjl : j < fields.toList.length := (List.getElem?_eq_some_iff.1 hj).1
        have hjx : j < xs.length := by rw [hxl]; simpa using hjl
        rw [cells_w hty, List.getElem?_eq_getElem hjx] at h5
        refine ih _ _ hty (fld_noM hfs (List.mem_of_getElem? ht)) h5 (LightD.each (k := j) hw ?_ ?_)
        · rw [List.getElem?_map, hj]; rfl
        · rw [List.getElem?_map, List.getElem?_eq_getElem hjx]; rfl) hcl
      exact ⟨.a ds, S, fs, rfl, hfs, by simpa using hds⟩
    | row E =>
      obtain ⟨hu, ⟨te, hte⟩, -⟩ := row_row hT
      rcases DataW.trod_slice hu h with ⟨rfl, hx⟩ | ⟨a, len, cap, elems, rest, n, hn, rfl, hx, hb, hl, hm, hlen, hel, -⟩
      · exact ⟨.r [], E, te, none, 0, rfl, hte, rfl, by simp, by simp, by simp [maxLen], by simp [RdE]⟩
      · obtain rfl : fuel = n := by omega
        have hwd := tyOf_pos hte
        rw [cells_w hte] at hel
        have hw := hL
        rw [hx] at hw
        simp only [LightD, DataW.weights, hu, List.mem_cons, List.mem_append] at hw
        have hlen2 : len ≤ LM te := by
          have := hw _ (.inl rfl)
          rw [reach_eqD] at this
          have hbe : Try.prog.bytesOf E = te.by := by
            obtain ⟨i, hi, -⟩ := row_info hte
            simp [Program.bytesOf, hi, row_bytes hte hi]
          refine (Nat.le_div_iff_mul_le (by_pos hte).1).2 ?_
          simp [hbe] at this
          have h2 : len * te.by ≤ (elems.length + rest.length) * te.by := Nat.mul_le_mul_right _ (by omega)
          exact Nat.le_trans h2 this
        have spot : 0 < len → a.spot = none := fun h0 => by
          have h2 := hel 0 h0
          rw [List.getElem?_eq_getElem (by omega)] at h2
          cases hc0 : W.cells? base (a.add (0 * te.w)) te.w with
          | none => rw [hc0] at h2; cases h2
          | some cs0 =>
            obtain ⟨_, hcl0, hat0⟩ := World.cells?_some hc0
            have hp : 0 < cs0.length := by omega
            have := hat0 0 (by omega)
            rw [List.getElem?_eq_getElem hp] at this
            exact spot_noneD (a := a) (v := cs0[0]) (by simpa [Addr.add] using this)
        have each : ∀ i, i < len → ∃ y, RdEl W (fun _ => True) y te (some a) i := fun i hi => by
          have h1 := hel i hi
          rw [List.getElem?_eq_getElem (by omega)] at h1
          cases hc : W.cells? base (a.add (i * te.w)) te.w with
          | none => rw [hc] at h1; cases h1
          | some cs' =>
            rw [hc] at h1
            obtain ⟨_, hcl, hat⟩ := World.cells?_some hc
            obtain ⟨y, hy⟩ := ih cs' _ hte (row_noM hT hte) h1 (fun n hn => hw n (.inr (.inl (weightsAll_memD (List.mem_map.2 ⟨_, List.getElem_mem (by omega), rfl⟩) n hn))))
            have hsp := spot (by omega)
            obtain ⟨b, o, sp⟩ := a
            obtain rfl : sp = none := hsp
            have add : ∀ k, (Addr.add ⟨b, o, none⟩ (i * te.w)).add k = ⟨b, o + i * te.w + k, none⟩ := fun k => by
              unfold Addr.add
              split <;> split <;> simp <;> omega
            refine ⟨y, b, o, cs', rfl, trivial, fun j v hj => ?_, hy⟩
            have hj' := (List.getElem?_eq_some_iff.1 hj).1
            have := hat j (by omega)
            rw [add, hj] at this
            exact this
        have pick : ∀ n, n ≤ len → ∃ l : List D, l.length = n ∧ ∀ i (h : i < l.length), RdEl W (fun _ => True) l[i] te (some a) i := by
          intro n
          induction n with
          | zero => exact fun _ => ⟨[], rfl, fun i hi => by simp at hi⟩
          | succ n ihn =>
            intro hn
            obtain ⟨l, hl1, hl2⟩ := ihn (by omega)
            obtain ⟨t, ht⟩ := each n (by omega)
            refine ⟨l ++ [t], by simp [hl1], fun i hi => ?_⟩
            by_cases hin : i < l.length
            · rw [List.getElem_append_left hin]; exact hl2 i hin
            · obtain rfl : i = l.length := by simp at hi; omega
              rw [List.getElem_append_right (by omega)]
              simp [hl1]
              exact ht
        obtain ⟨l, hl1, hl2⟩ := pick len (Nat.le_refl _)
        exact ⟨.r l, E, te, some a, cap, rfl, hte, by rw [hl1], by omega, by omega, hm, rdE_iff.2 fun j hj => by rw [Nat.zero_add]; exact hl2 j hj⟩

theorem open_D {T : TypeId} {t : Ty} (hT : tyOf T = some t) (hM : isMp t = false) {v : Value} {d : DataW H} {p : List MemPlace} {b0 : Nat} {r : Reach} (hv : Value.okWide Try.prog W r b0 T v) (h : DataW.Trod enc Try.prog W base spare held T v d p) (hL : LightD T d) :
    ∃ x cs, Pack t cs v ∧ Rd W (fun b => b < W.heap.size) x t cs := by
  obtain ⟨fuel, hf⟩ := h
  obtain ⟨y, hy⟩ := open_recD fuel _ _ hT hM hf hL
  refine ⟨y, v.cells.toList, ?_, Rd.keeps (fun b o _ ho => ⟨ho, lt_of_heap ho⟩) _ hy⟩
  cases t with
  | int k => obtain ⟨n, rfl⟩ := okWide_int (row_int hT).1 hv; rfl
  | bool => obtain ⟨n, rfl⟩ := okWide_bool (row_bool hT).1 hv; rfl
  | str => obtain ⟨n, rfl⟩ := okWide_string (row_str hT).1 hv; rfl
  | map K V => cases hM
  | row E => obtain ⟨A, l, c, rfl⟩ := okWide_slice (row_row hT).1 hv; rfl
  | st S =>
    obtain ⟨fields, fs, zc, i, hu, -⟩ := row_st hT
    obtain ⟨cs, rfl, -⟩ := okWide_struct hu hv
    simp [Pack, Value.cells]
end

def ArgsV (W : World) : List Ar → List Value → List D → Prop
  | [], vs, ds => vs = [] ∧ ds = []
  | .val t :: l, vs, ds => ∃ v r d ds', vs = v :: r ∧ ds = d :: ds' ∧ (∃ cs, Pack t cs v ∧ Rd W (FFD (fun _ => True) (fun _ => none) []) d t cs) ∧ ArgsV W l r ds'
  | _ :: _, _, _ => False
theorem ArgsV.ok {W : World} {V : List Value} : ∀ {i : Nat} {ar : List Ar} {vs : List Value} {ds : List D}, ArgsV W ar vs ds → ArgsOk V (fun _ => True) (fun _ => none) W (idx i ar) vs ds ∧ vs.length = ar.length
  | _, [], vs, ds, h => ⟨h, by rw [h.1]; rfl⟩
  | i, .val t :: l, vs, ds, ⟨v, r, d, ds', e1, e2, h1, h⟩ => by
    obtain ⟨h2, h3⟩ := ArgsV.ok (V := V) (i := i + 1) h
    exact ⟨⟨v, r, d, ds', e1, e2, h1, h2⟩, by rw [e1]; simp [h3]⟩
  | _, .ref _ :: _, _, _, h => h.elim
  | _, .rref _ :: _, _, _, h => h.elim
  | _, .own _ :: _, _, _, h => h.elim
  | _, .mref _ :: _, _, _, h => h.elim
  | _, .nils :: _, _, _, h => h.elim
  | _, .nilp :: _, _, _, h => h.elim
  | _, .fn _ _ :: _, _, _, h => h.elim
  | _, .cell _ _ :: _, _, _, h => h.elim
theorem law_calls {ct : Ct} {g : List D → Option (List D)} (h : FOk ct g) (hrs : ct.rs = [(.bool, false)]) (hvr : ct.vr = []) {W : World} {vs : List Value} {ds : List D} (ha : ArgsV W ct.ar vs ds) (hg : g ds = some [.b true]) :
    Calls Try.prog ct.f vs.toArray W fun e W' => e = .returned (.bool true) ∧ But Nil W W' := by
  obtain ⟨h1, h2⟩ := ArgsV.ok (V := vs ++ []) (i := 0) ha
  refine (h.call (fun _ => True) (fun _ => none) W vs [] ds _ hg (by constructor <;> simp) h2 (by simpa [Ct.all, hvr, idx] using h1)).mono ?_
  rintro e W' (⟨T, -, ho, -⟩ | ⟨rs, p', rfl, hb, hr, -⟩)
  · cases ho
  rw [hrs] at hr
  obtain ⟨v, r, d, ds', rfl, hd, ⟨cs, hp, hc⟩, rfl⟩ := hr
  simp at hd
  obtain ⟨rfl, rfl⟩ := hd
  obtain ⟨e1, e2⟩ : D.b true = .b true ∧ cs = [.bool true] := ⟨rfl, by
    have hc' : Rd W' (FFD (fun _ => True) p' []) (.b true) .bool cs := hc
    exact hc'.2⟩
  subst e2
  have hpv : [Value.bool true] = [v] := hp
  injection hpv with hpv
  subst hpv
  exact ⟨rfl, hb.but.mono fun i hi _ => by obtain ⟨x, hx⟩ := hi; cases hx⟩
end Go.Proofs.Ytinclokohcommaa

