/-
  The law BallsIndicators, on data. No condition.
-/
import Derived.Test.YtloekfnlidclcaaZe
import Derived.Test.YtloekfnlidclcaaQGe
namespace Go.Proofs.Ytloekfnlidclcaa
open Go.RowKit
set_option linter.unusedVariables false

abbrev errT (t : Tm) : Tm := .mk 3 0 sError [t, atomR sNil]
theorem ball_val {t : Tm} (h1 : nodesT t + 2 ≤ 2000) (h2 : fitsT t = true) : ballR t = errT t := by
  unfold ballR cloneT
  rw [if_pos (ball_valid_iff.2 ⟨h1, h2⟩)]
theorem inst_val : instT = errT (atomR sInst) := by
  rw [inst_eq]
  exact ball_val (by decide) (by decide)

theorem size_one {t : Tm} (h : t.args = []) : sizeT t = 1 := by
  cases t with
  | mk k n s l =>
    simp only [Tm.args] at h
    subst h
    simp [sizeT, leftT, leftL]

theorem notless_val {b : Tm} (hv : validT b = true) (hk : b.kind = 1) : aboutT sDomain [sNotLess] b = errT (.mk 3 0 sDomain [atomR sNotLess, b]) := by
  rw [about_with (by decide) (by simp)]
  unfold withR
  rw [if_pos hv]
  have hb := (valid_iff.1 hv).2
  have ha : b.args = [] := by
    cases b with
    | mk k n s l =>
      simp only [Tm.kind] at hk
      subst hk
      rw [fits_mk] at hb
      have h1 := hb.1
      simp [nodeB] at h1
      simpa [Tm.args] using h1.2
  have hs := size_one ha
  have hc : culT [sNotLess].length b = b := by
    unfold culT
    rw [if_neg]
    simp [hs]
  rw [hc]
  have hn : nodesT b = 1 := by
    cases b with
    | mk k n s l =>
      simp only [Tm.args] at ha
      subst ha
      simp [nodesT, nodesL]
  refine ball_val ?_ ?_
  · simp [nodesT, nodesL, hn]
  · rw [fits_mk]
    refine ⟨by simp [nodeB, sDomain, ByteArray.size], ?_⟩
    simp [fitsL, hb]
    decide
theorem arity_val : namedT sRep sMaxArity = errT (.mk 3 0 sRep [atomR sMaxArity]) := by
  rw [named_eq sRep sMaxArity (by decide)]
  exact ball_val (by decide) (by decide)

theorem law_BallsIndicators : FOk ct_law06_BallsIndicators fun _ => some [.b true] :=
  fok_law06_BallsIndicators ok_law06_f ok_ref03_Valid ok_law06_awake ok_balls_Indicator ok_law06_a ok_law06_error1 ok_balls_Type ok_law06_same fun ds outs hw hg => by
  obtain ⟨d, r, rfl, hd, d', r', rfl, hd', rfl⟩ := hw
  obtain ⟨a, rfl⟩ := wf_term hd
  obtain ⟨b, rfl⟩ := wf_term hd'
  simp only [Option.some.injEq] at hg
  subst hg
  have hT : ∀ s : ByteArray, D.a [.i 3, .i 0, .s s, .r [encT a, encT b]] = encT (.mk 3 0 s [a, b]) := fun s => rfl
  have hI : ∀ s : ByteArray, gInd [encT (.mk 3 0 s [a, b])] = match badI (.mk 3 0 s [a, b]) with
    | none => some [.s a.name, .i b.num, encT zeroT, .b true]
    | some e => some [.s ⟨#[]⟩, .i 0, encT e, .b false] := fun s => by
    simp only [gInd, dec_enc]
    rfl
  have hA : ∀ s : ByteArray, D.a [.i 2, .i 0, .s s, .r []] = encT (atomR s) := fun s => rfl
  have hF1 : ∀ (s : ByteArray) (x : Tm), D.a [.i 3, .i 0, .s s, .r [encT x]] = encT (.mk 3 0 s [x]) := fun s x => rfl
  have hF2 : ∀ (s : ByteArray) (x y : Tm), D.a [.i 3, .i 0, .s s, .r [encT x, encT y]] = encT (.mk 3 0 s [x, y]) := fun s x y => rfl
  by_cases hv : validT (.mk 3 0 ⟨#[47]⟩ [a, b]) = true
  · have hva : validT a = true := valid_getD hv 0
    have hvb : validT b = true := valid_getD hv 1
    have hbad : badI (.mk 3 0 ⟨#[47]⟩ [a, b]) = badIA a b := by
      unfold badI
      rw [if_pos hv]
      rfl
    simp only [tree_law06_BallsIndicators, Tree.go, allSay, X.says, X.ev, X.evs, evl, tblS, List.getD_cons_zero, List.getD_cons_succ, List.getElem?_cons_zero, List.getElem?_cons_succ, tt_b, int_i, str_s, Option.isSome_some, Option.getD_some, dec_enc, decide_eq_true_eq, decide_eq_false_iff_not, gSL, gB1, gS1, gT1, gST, gB2, hT, hI, hF1, hF2, hbad, hv, enc_f0, enc_f1, enc_f2, enc_zero, i_inj, s_inj]
    by_cases h0 : a.kind = 0 ∨ b.kind = 0
    · have e1 : badIA a b = some instT := by simp [badIA, h0]
      have h2 := same_self inst_valid'
      rw [inst_val] at e1 h2
      simp only [errT, sInst] at e1 h2
      rcases h0 with h0 | h0 <;> simp [e1, h0, h2, tt_b, dec_enc]
    · have h0a : ¬ a.kind = 0 := fun e => h0 (.inl e)
      have h0b : ¬ b.kind = 0 := fun e => h0 (.inr e)
      by_cases ha2 : a.kind = 2
      · by_cases hb1 : b.kind = 1
        · by_cases hn : b.num < 0
          · have e1 : badIA a b = some (aboutT sDomain [sNotLess] b) := by simp [badIA, ha2, hb1, hn]
            have e2 := notless_val hvb hb1
            have h2 := same_self (badIA_valid e1)
            rw [e2] at e1 h2
            simp only [errT, sDomain, sNotLess] at e1 h2
            simp [e1, ha2, hb1, hn, tt_b, dec_enc, h2]
          · by_cases h8 : 8 < b.num
            · have e1 : badIA a b = some (namedT sRep sMaxArity) := by simp [badIA, ha2, hb1, hn, h8]
              have h2 := same_self (badIA_valid e1)
              rw [arity_val] at e1 h2
              simp only [errT, sRep, sMaxArity] at e1 h2
              simp [e1, ha2, hb1, hn, h8, tt_b, dec_enc, h2]
            · have e1 : badIA a b = none := by simp [badIA, ha2, hb1, hn, h8]
              have h2 := same_self zero_valid
              simp [e1, ha2, hb1, hn, h8, h2, tt_b, dec_enc]
        · have e1 : badIA a b = some (aboutT sType [sInteger] b) := by simp [badIA, h0a, h0b, ha2, hb1]
          have h2 := same_self (badIA_valid e1)
          simp only [sInteger] at e1 h2
          simp [e1, h0a, h0b, ha2, hb1, h2, tt_b, dec_enc]
      · have e1 : badIA a b = some (aboutT sType [sAtom] a) := by simp [badIA, h0a, h0b, ha2]
        have h2 := same_self (badIA_valid e1)
        simp only [sAtom] at e1 h2
        simp [e1, h0a, h0b, ha2, h2, tt_b, dec_enc]
  · have hv' : validT (.mk 3 0 ⟨#[47]⟩ [a, b]) = false := by simpa using hv
    simp only [tree_law06_BallsIndicators, Tree.go, allSay, X.says, X.ev, X.evs, evl, tblS, List.getD_cons_zero, List.getD_cons_succ, List.getElem?_cons_zero, List.getElem?_cons_succ, tt_b, int_i, str_s, Option.isSome_some, Option.getD_some, dec_enc, decide_eq_true_eq, decide_eq_false_iff_not, gSL, gB1, gS1, gT1, gST, gB2, hT, hI, hF1, hF2, hv']
    simp
end Go.Proofs.Ytloekfnlidclcaa
