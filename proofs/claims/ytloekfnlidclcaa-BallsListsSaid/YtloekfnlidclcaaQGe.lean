/-
  Lists of chapter 6 on data; the law BallsParts. No condition.
-/
import Derived.Test.YtloekfnlidclcaaZe
import Derived.Test.YtloekfnlidclcaaQGd
namespace Go.Proofs.Ytloekfnlidclcaa
open Go.RowKit
set_option linter.unusedVariables false

theorem ok_ref03_Elems : FOk ct_ref03_Elems (gTL elemsT) :=
  fok_still enter_ref03_Elems (by simp [ct_ref03_Elems]) fun F w vs ds outs hg ha => by
    obtain ⟨v0, r, t, ds', rfl, rfl, ht, ha⟩ := argT ha
    obtain ⟨rfl, rfl⟩ := arg0 ha
    simp only [gTL, dec_enc, Option.some.injEq] at hg
    subst hg
    refine (ent_calls (relems_entry t) (F := F) (vs := [v0]) ⟨ht, trivial⟩).mono ?_
    rintro e w' ⟨v, p', rfl, hb, hk, a1, a2, rfl, ⟨A, cap, rfl, h1, h2, h3, h4⟩, hv⟩
    exact ⟨[_, a2], rfl, hb, ⟨rfl, _, _, _, _, rfl, rfl, resTs hk h1 h2 h3 h4, rfl, _, [], _, [], rfl, rfl, resT hk hv, rfl⟩, rfl⟩

def sList : ByteArray := ⟨#[108, 105, 115, 116]⟩
def lsB (t : Tm) : Bool := validT t && (decide ((elT t).2.kind = 2) && decide ((elT t).2.name = sNil))
def lsL (t : Tm) : List Tm := if lsB t then (elT t).1 else []
def lsT (t : Tm) : Tm := if validT t then if (elT t).2.kind = 0 then instT else if lsB t then zeroT else aboutT sType [sList] t else zeroT
def gList : List D → Option (List D)
  | [d] => some [.r (encL (lsL (decT d))), encT (lsT (decT d)), .b (lsB (decT d))]
  | _ => none

theorem ok_ref06_List : FOk ct_ref06_List gList := fok_ref06_List ok_ref03_Valid ok_ref03_Elems ok_ref06_Inst ok_ref06_Type fun ds outs hw hg => by
  obtain ⟨d, r, rfl, hd, rfl⟩ := hw
  obtain ⟨t, rfl⟩ := wf_term hd
  simp only [gList, dec_enc, Option.some.injEq] at hg
  subst hg
  simp only [tree_ref06_List, Tree.go, allSay, X.says, X.ev, X.evs, evl, tblS, List.getD_cons_zero, List.getD_cons_succ, List.getElem?_cons_zero, List.getElem?_cons_succ, tt_b, int_i, str_s, Option.isSome_some, Option.getD_some, dec_enc, decide_eq_true_eq, decide_eq_false_iff_not, gB1, gTL, gT0, gST, enc_f0, enc_f2, enc_zero, i_inj, s_inj, type_eq, ← inst_eq]
  by_cases hv : validT t = true
  · rw [els_eq hv]
    by_cases hk : (elT t).2.kind = 0
    · simp [hv, hk, lsB, lsL, lsT, encL]
    · by_cases h2 : (elT t).2.kind = 2
      · by_cases hn : (elT t).2.name = ⟨#[91, 93]⟩
        · have hn' : (elT t).2.name = sNil := hn
          simp [hv, h2, hn, lsB, lsL, lsT, sNil]
        · have hn' : ¬ (elT t).2.name = sNil := hn
          simp [hv, h2, hn, hn', lsB, lsL, lsT, encL, sList]
      · simp [hv, hk, h2, lsB, lsL, lsT, encL, sList]
  · simp [hv, lsB, lsL, lsT, encL]

theorem el_small {t : Tm} (hv : validT t = true) : (elT t).1.length ≤ 2000 := by
  have h1 := (chain_valid hv (elT t).1.length (Nat.le_refl _)).2
  have h2 := (valid_iff.1 hv).1
  omega

theorem ok_balls_List : FOk ct_balls_List gList := fok_balls_List ok_term_Valid ok_term_Clone ok_balls_Inst ok_balls_Type fun ds outs hw hg => by
  obtain ⟨d, r, rfl, hd, rfl⟩ := hw
  obtain ⟨t, rfl⟩ := wf_term hd
  simp only [gList, dec_enc, Option.some.injEq] at hg
  subst hg
  simp only [tree_balls_List, Tree.go, allSay, X.says, X.ev, X.evs, evl, tblS, List.getD_cons_zero, List.getD_cons_succ, List.getElem?_cons_zero, List.getElem?_cons_succ, tt_b, int_i, str_s, Option.isSome_some, Option.getD_some, dec_enc, decide_eq_true_eq, decide_eq_false_iff_not, gB1, gT0, gT1, gST, enc_f0, enc_f2, enc_f3, enc_zero, i_inj, s_inj, rs_r]
  by_cases hv : validT t = true
  · refine ⟨by simp, fun h => by simp [hv] at h, fun _ => ?_⟩
    have hc := chain_ok _ t (Nat.le_refl _)
    have hcv := chain_valid hv
    refine ⟨fun st => ∃ j, j ≤ (elT t).1.length ∧ st = [.r (encL ((elT t).1.take j)), encT (chainT t j)], fun st => match st with | [.r l, _] => (elT t).1.length - l.length | _ => 0, ⟨0, Nat.zero_le _, by simp [encL, chainT]⟩, ?_⟩
    rintro st - ⟨j, hj, rfl⟩
    have hk := hc.1 j
    have hcj := (hcv j hj).1
    generalize hu : chainT t j = u at *
    have hcons : isCons u = (decide (u.kind = 3) && (decide (u.name = ⟨#[46]⟩) && decide (u.args.length = 2))) := rfl
    simp only [List.take_succ_cons, List.take_zero, List.cons_append, List.nil_append, List.getD_cons_zero, List.getD_cons_succ, enc_f0, enc_f2, enc_f3, i_inj, s_inj, rs_r, encL_len, dec_enc, int_i]
    have h2i : ((u.args.length : Int) = 2) ↔ u.args.length = 2 := by omega
    by_cases hlt : j < (elT t).1.length
    · obtain ⟨h1, h2⟩ := hk hlt
      rw [hcons] at h1
      simp only [Bool.and_eq_true, decide_eq_true_eq] at h1
      obtain ⟨g1, g2, g3⟩ := h1
      have hel : validT (u.args.getD 0 zeroT) = true := valid_getD hcj 0
      have hcl : cloneT (u.args.getD 0 zeroT) = u.args.getD 0 zeroT := by unfold cloneT; rw [if_pos hel]
      have hs := el_small hv
      rw [get0 (by omega), get1 (by omega)]
      simp only [dec_enc, hcl]
      refine ⟨fun _ => ?_, fun h => by simp [g1, g2, g3] at h⟩
      have hlen : (List.take j (elT t).1).length = j := by simp; omega
      rw [hlen]
      refine ⟨⟨trivial, decide_eq_true (by omega), trivial, decide_eq_true (by omega), trivial⟩, ⟨trivial, decide_eq_true (by omega), trivial⟩, ?_⟩
      · unfold updB
        rw [if_pos rfl]
        refine ⟨⟨j + 1, hlt, ?_⟩, ?_⟩
        · have h3 : (elT t).1.take (j + 1) = (elT t).1.take j ++ [u.args.getD 0 zeroT] := by
            rw [List.take_add_one, h2]
            rfl
          have h4 : chainT t (j + 1) = u.args.getD 1 zeroT := by
            show (chainT t j).args.getD 1 zeroT = _
            rw [hu]
          rw [h3, h4]
          simp [encL_map]
        · simp [encL_len]
          omega
    · obtain rfl : j = (elT t).1.length := by omega
      have h1 := hc.2.1
      have h2 := hc.2.2
      rw [hu] at h1 h2
      rw [hcons] at h1
      have hno : ¬ (u.kind = 3 ∧ u.name = ⟨#[46]⟩ ∧ u.args.length = 2) := fun ⟨q1, q2, q3⟩ => by simp [q1, q2, q3] at h1
      refine ⟨fun h => ?_, fun _ => ?_⟩
      · exfalso
        simp only [Bool.and_eq_true, decide_eq_true_eq] at h
        exact hno ⟨h.1.1, h.1.2, by omega⟩
      · rw [List.take_length]
        by_cases hk0 : u.kind = 0
        · simp [hk0, lsB, lsL, lsT, encL, hv, h2]
        · by_cases hk2 : u.kind = 2
          · by_cases hn : u.name = ⟨#[91, 93]⟩
            · simp [hk2, hn, lsB, lsL, lsT, hv, h2, sNil]
            · have hn' : ¬ u.name = sNil := hn
              simp [hk2, hn, hn', lsB, lsL, lsT, encL, hv, h2, sList]
          · simp [hk0, hk2, lsB, lsL, lsT, encL, hv, h2, sList]
  · simp [hv, lsB, lsL, lsT, encL]

/-! ### The law -/
theorem about_valid (f : ByteArray) (l : List ByteArray) (c : Tm) (hf : (f.size : Int) ≤ 100) (hl : l.length ≤ 7) : validT (aboutT f l c) = true := by
  rw [about_with hf hl]
  exact withR_valid _ _ _
theorem named_valid (f s : ByteArray) (hf : (f.size : Int) ≤ 100) : validT (namedT f s) = true := by
  rw [named_eq f s hf]
  exact ballR_valid _
theorem inst_valid' : validT instT = true := by rw [inst_eq]; exact clone_valid _
theorem check_valid' (bad : Bool) (ty : ByteArray) (t : Tm) : validT (checkT bad ty t) = true := by
  unfold checkT
  split
  · split
    · exact inst_valid'
    · split
      · exact about_valid _ _ _ (by decide) (by simp)
      · exact zero_valid
  · exact zero_valid
theorem lsT_valid (t : Tm) : validT (lsT t) = true := by
  unfold lsT
  split
  · split
    · exact inst_valid'
    · split
      · exact zero_valid
      · exact about_valid _ _ _ (by decide) (by simp)
  · exact zero_valid
theorem lsL_valid (t : Tm) : ∀ x ∈ lsL t, validT x = true := by
  unfold lsL
  split
  · rename_i h
    have hv : validT t = true := by
      simp only [lsB, Bool.and_eq_true] at h
      exact h.1
    intro x hx
    obtain ⟨j, hj, rfl⟩ := List.mem_iff_getElem.1 hx
    have h1 := ((chain_ok _ t (Nat.le_refl _)).1 j hj).2
    rw [List.getElem?_eq_getElem hj] at h1
    rw [Option.some.inj h1]
    exact valid_getD (chain_valid hv j (by omega)).1 0
  · simp
theorem cdT_valid (t : Tm) : validT (cdT t) = true := by
  unfold cdT
  split
  · split
    · exact zero_valid
    · exact named_valid _ _ (by decide)
  · exact check_valid' _ _ _
theorem badIA_valid {a b e : Tm} (h : badIA a b = some e) : validT e = true := by
  unfold badIA at h
  split at h
  · injection h with h; subst h; exact inst_valid'
  · split at h
    · split at h
      · split at h
        · injection h with h; subst h; exact about_valid _ _ _ (by decide) (by simp)
        · split at h
          · injection h with h; subst h; exact named_valid _ _ (by decide)
          · cases h
      · injection h with h; subst h; exact about_valid _ _ _ (by decide) (by simp)
    · injection h with h; subst h; exact about_valid _ _ _ (by decide) (by simp)
theorem badI_valid {t e : Tm} (h : badI t = some e) : validT e = true := by
  unfold badI at h
  split at h
  · split at h
    · injection h with h; subst h; exact inst_valid'
    · split at h
      · exact badIA_valid h
      · injection h with h; subst h; exact about_valid _ _ _ (by decide) (by simp)
  · injection h with h; subst h; exact zero_valid

theorem law_BallsParts : FOk ct_law06_BallsParts fun _ => some [.b true] :=
  fok_law06_BallsParts ok_balls_List ok_ref06_List ok_ref03_SameAll ok_law06_same ok_balls_Char ok_ref06_Char ok_balls_Code ok_ref06_Code ok_balls_Indicator ok_ref06_Indicator ok_law06_awake fun ds outs hw hg => by
  obtain ⟨d, r, rfl, hd, rfl⟩ := hw
  obtain ⟨t, rfl⟩ := wf_term hd
  simp only [Option.some.injEq] at hg
  subst hg
  have h1 := all_self (lsL_valid t)
  have h2 := same_self (lsT_valid t)
  have h3 := same_self (check_valid' (badChar t) sCharacter t)
  have h4 := same_self (cdT_valid t)
  simp only [tree_law06_BallsParts, Tree.go, allSay, X.says, X.ev, X.evs, evl, tblS, List.getD_cons_zero, List.getD_cons_succ, List.getElem?_cons_zero, List.getElem?_cons_succ, tt_b, int_i, str_s, Option.isSome_some, Option.getD_some, dec_enc, decide_eq_true_eq, decide_eq_false_iff_not, gList, gChar, gCode, gNTB, gLL, gB2, decL_encL, h1, h2, h3, h4]
  cases hi : badI t with
  | none =>
    have h5 := same_self zero_valid
    simp [gInd, dec_enc, hi, h5]
  | some e =>
    have h5 := same_self (badI_valid hi)
    simp [gInd, dec_enc, hi, h5]
end Go.Proofs.Ytloekfnlidclcaa
