/-
  The law BallsMake, on data. No condition.
-/
import Derived.Test.YtloekfnlidclcaaZe
namespace Go.Proofs.Ytloekfnlidclcaa
open Go.RowKit
set_option linter.unusedVariables false

theorem ok_ref06_number : FOk ct_ref06_number (gI1 intT) := fok_ref06_number fun ds outs hw hg => by
  obtain ⟨d, r, rfl, hd, rfl⟩ := hw
  obtain ⟨n, rfl, -⟩ := hd.int
  simp only [gI1, Option.some.injEq] at hg
  subst hg
  simp [tree_ref06_number, Tree.go, X.ev, X.evs, evl, intT, encT, encL, D.fs]
def gSL : List D → Option (List D)
  | [.s s, .r l] => some [.a [.i 3, .i 0, .s s, .r l]]
  | _ => none
theorem ok_ref06_structure : FOk ct_ref06_structure gSL := fok_ref06_structure fun ds outs hw hg => by
  obtain ⟨d, r, rfl, hd, e, r', rfl, he, rfl⟩ := hw
  obtain ⟨s, rfl, -⟩ := hd.str
  obtain ⟨l, te, rfl, -⟩ := he.row
  simp only [gSL, Option.some.injEq] at hg
  subst hg
  simp [tree_ref06_structure, Tree.go, X.ev, X.evs, evl, D.fs]

theorem enc_mk (k n : Int) (s : ByteArray) (l : List Tm) : D.a [.i k, .i n, .s s, .r (encL l)] = encT (.mk k n s l) := rfl
theorem encL_one (t : Tm) : [encT t] = encL [t] := rfl

def syntaxR (n : Int) : Tm := if n < 0 then zeroT else ballR (.mk 3 0 sSyntax [intT n])
theorem ok_ref06_Syntax : FOk ct_ref06_Syntax (gI1 syntaxR) := fok_ref06_Syntax ok_ref06_number ok_ref06_structure ok_ref06_ball fun ds outs hw hg => by
  obtain ⟨d, r, rfl, hd, rfl⟩ := hw
  obtain ⟨n, rfl, -⟩ := hd.int
  simp only [gI1, Option.some.injEq] at hg
  subst hg
  simp only [tree_ref06_Syntax, Tree.go, allSay, X.says, X.ev, X.evs, evl, tblS, List.getD_cons_zero, List.getD_cons_succ, List.getElem?_cons_zero, List.getElem?_cons_succ, gI1, gSL, gT1, int_i, tt_b, Option.isSome_some, Option.getD_some, encL_one, enc_mk, dec_enc, decide_eq_true_eq, decide_eq_false_iff_not, and_true, true_and, syntaxR]
  refine ⟨fun h => by rw [if_pos h]; rfl, fun h => by rw [if_neg h]; rfl⟩

theorem named_eq (f s : ByteArray) (hf : (f.size : Int) ≤ 100) : namedT f s = ballR (.mk 3 0 f [atomR s]) := by
  have hn : nodeB (.mk 3 0 f [atomR s]) = true := by simp [nodeB]; omega
  unfold namedT
  by_cases h : (s.size : Int) ≤ 100
  · rw [if_pos h, atomT_eq h]
    have ha : fitsT (atomR s) = true := by simp [fitsT, fitsL, nodeB]; omega
    have hv : fitsT (.mk 3 0 f [atomR s]) = true := by
      rw [fits_mk, hn]
      simp [fitsL, ha]
    exact raise_ball (by simp) (valid_iff.2 ⟨by simp [nodesT, nodesL], hv⟩) (ball_valid_iff.2 ⟨by simp [nodesT, nodesL], hv⟩)
  · rw [if_neg h]
    have ha : fitsT (atomR s) = false := by simp [fitsT, fitsL, nodeB]; omega
    have hb : validT (.mk 3 0 sError [.mk 3 0 f [atomR s], atomR sNil]) ≠ true := fun hb => by
      have := (ball_valid_iff.1 hb).2
      rw [fits_mk, hn] at this
      simp [fitsL, ha] at this
    simp [ballR, cloneT, hb]

theorem syntax_eq {n : Int} : syntaxT n = syntaxR n := by
  unfold syntaxT syntaxR
  split
  · rfl
  · have hn : nodeB (.mk 3 0 sSyntax [intT n]) = true := by simp [nodeB, sSyntax, ByteArray.size]
    have ha : fitsT (intT n) = true := by simp [intT, fitsT, fitsL, nodeB, ByteArray.size]
    have hv : fitsT (.mk 3 0 sSyntax [intT n]) = true := by
      rw [fits_mk, hn]
      simp [fitsL, ha]
    exact raise_ball (by simp) (valid_iff.2 ⟨by simp [nodesT, nodesL, intT], hv⟩) (ball_valid_iff.2 ⟨by simp [nodesT, nodesL, intT], hv⟩)

theorem ballR_valid (t : Tm) : validT (ballR t) = true := clone_valid _
theorem withR_valid (f : ByteArray) (l : List ByteArray) (c : Tm) : validT (withR f l c) = true := by
  unfold withR
  split
  · exact ballR_valid _
  · exact zero_valid
theorem syntaxR_valid (n : Int) : validT (syntaxR n) = true := by
  unfold syntaxR
  split
  · exact zero_valid
  · exact ballR_valid _

theorem all_self {l : List Tm} (h : ∀ x ∈ l, validT x = true) : sameAllT l l = true := by
  simp only [sameAllT, decide_true, Bool.true_and, List.all_eq_true, List.mem_range]
  intro j hj
  refine same_self ?_
  rw [List.getD_eq_getElem?_getD, List.getElem?_eq_getElem hj]
  exact h _ (List.getElem_mem hj)

theorem law_BallsMake : FOk ct_law06_BallsMake fun _ => some [.b true] :=
  fok_law06_BallsMake ok_balls_Inst ok_balls_Uninst ok_balls_Type ok_balls_Domain ok_balls_Existence ok_balls_Permission ok_balls_Representation ok_balls_Evaluation ok_balls_Syntax ok_ref06_Inst ok_ref06_Uninst ok_ref06_Type ok_ref06_Domain ok_ref06_Existence ok_ref06_Permission ok_ref06_Representation ok_ref06_Evaluation ok_ref06_Syntax ok_ref03_SameAll ok_law06_awake fun ds outs hw hg => by
  obtain ⟨d0, r, rfl, h0, d1, r', rfl, h1, d2, r2, rfl, h2, d3, r3, rfl, h3, rfl⟩ := hw
  obtain ⟨k, rfl, -⟩ := h0.str
  obtain ⟨a, rfl, -⟩ := h1.str
  obtain ⟨c, rfl⟩ := wf_term h2
  obtain ⟨n, rfl, -⟩ := h3.int
  simp only [Option.some.injEq] at hg
  subst hg
  have e1 : instT = ballR (atomR sInst) := inst_eq
  have e2 : ∀ (f : ByteArray) (l : List ByteArray), (f.size : Int) ≤ 100 → l.length ≤ 7 → aboutT f l c = withR f l c := fun f l hf hl => about_with hf hl
  have e3 := named_eq sRep k (by decide)
  have e4 := named_eq sEval a (by decide)
  have e5 := @syntax_eq n
  have hl : ∀ l : List Tm, (∀ x ∈ l, validT x = true) → sameAllT (decL (encL l)) (decL (encL l)) = true := fun l h => by rw [decL_encL]; exact all_self h
  have hs := hl [ballR (atomR sInst), withR sUninst [] c, withR sType [k] c, withR sDomain [k] c, withR sExistence [k] c, withR sPermission [a, k] c, ballR (.mk 3 0 sRep [atomR k]), ballR (.mk 3 0 sEval [atomR a]), syntaxR n] (by
    simp [ballR_valid, withR_valid, syntaxR_valid])
  simp only [encL] at hs
  simp only [tree_law06_BallsMake, Tree.go, allSay, X.says, X.ev, X.evs, evl, tblS, List.getD_cons_zero, List.getD_cons_succ, List.getElem?_cons_zero, List.getElem?_cons_succ, gI1, gS1, gT0, gT1, gST, gSST, gLL, tt_b, Option.isSome_some, Option.getD_some, dec_enc, e1,
    e2 sUninst [] (by decide) (by simp), e2 sType [k] (by decide) (by simp), e2 sDomain [k] (by decide) (by simp), e2 sExistence [k] (by decide) (by simp), e2 sPermission [a, k] (by decide) (by simp), e3, e4, e5, hs]
  simp
end Go.Proofs.Ytloekfnlidclcaa
