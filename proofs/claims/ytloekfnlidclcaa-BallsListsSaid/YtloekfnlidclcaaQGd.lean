/-
  The checks of chapter 6 on data: characters, codes, indicators, lists. No condition.
-/
import Derived.Test.YtloekfnlidclcaaZe
import Derived.Test.YtloekfnlidclcaaQGc
namespace Go.Proofs.Ytloekfnlidclcaa
open Go.RowKit
set_option linter.unusedVariables false

theorem ok_law06_a : FOk ct_law06_a (gS1 atomR) := fok_law06_a fun ds outs hw hg => by
  obtain ⟨d, r, rfl, hd, rfl⟩ := hw
  obtain ⟨s, rfl, -⟩ := hd.str
  simp only [gS1, Option.some.injEq] at hg
  subst hg
  simp [tree_law06_a, Tree.go, X.ev, X.evs, evl, atomR, encT, encL, D.fs]
theorem ok_law06_n : FOk ct_law06_n (gI1 intT) := fok_law06_n fun ds outs hw hg => by
  obtain ⟨d, r, rfl, hd, rfl⟩ := hw
  obtain ⟨s, rfl, -⟩ := hd.int
  simp only [gI1, Option.some.injEq] at hg
  subst hg
  simp [tree_law06_n, Tree.go, X.ev, X.evs, evl, intT, encT, encL, D.fs]
theorem ok_law06_x : FOk ct_law06_x (gI1 V) := fok_law06_x fun ds outs hw hg => by
  obtain ⟨d, r, rfl, hd, rfl⟩ := hw
  obtain ⟨s, rfl, -⟩ := hd.int
  simp only [gI1, Option.some.injEq] at hg
  subst hg
  simp [tree_law06_x, Tree.go, X.ev, X.evs, evl, V, encT, encL, D.fs]
theorem ok_law06_f : FOk ct_law06_f gSL := fok_law06_f fun ds outs hw hg => by
  obtain ⟨d, r, rfl, hd, e, r', rfl, he, rfl⟩ := hw
  obtain ⟨s, rfl, -⟩ := hd.str
  obtain ⟨l, te, rfl, -⟩ := he.row
  simp only [gSL, Option.some.injEq] at hg
  subst hg
  simp [tree_law06_f, Tree.go, X.ev, X.evs, evl, D.fs]
theorem ok_law06_error1 : FOk ct_law06_error1 (gT1 fun t => .mk 3 0 sError [t, atomR sNil]) := fok_law06_error1 ok_law06_a ok_law06_f fun ds outs hw hg => by
  obtain ⟨d, r, rfl, hd, rfl⟩ := hw
  obtain ⟨t, rfl⟩ := wf_term hd
  simp only [gT1, dec_enc, Option.some.injEq] at hg
  subst hg
  simp only [tree_law06_error1, Tree.go, allSay, X.says, X.ev, X.evs, evl, tblS, List.getD_cons_zero, List.getD_cons_succ, List.getElem?_cons_zero, List.getElem?_cons_succ, tt_b, int_i, str_s, Option.isSome_some, Option.getD_some, dec_enc, decide_eq_true_eq, decide_eq_false_iff_not, gS1, gSL, and_true, true_and]
  simp [encT, encL, sError, sNil, atomR]

/-! ### Characters -/
def sCharacter : ByteArray := ⟨#[99, 104, 97, 114, 97, 99, 116, 101, 114]⟩
def badChar (t : Tm) : Bool := !(t.kind == 2) || !(t.name.size == 1)
def chN (t : Tm) : Int := if checkB (badChar t) t then ((t.name.data.getD 0 0).toNat : Int) else 0
theorem byte_rng (x : UInt8) : rngB .i64 (x.toNat : Int) = true := by
  have := x.toNat_lt
  simp [rngB]
  omega
theorem enc_zero : D.a [.i 0, .i 0, .s ⟨#[]⟩, .r []] = encT zeroT := rfl
abbrev gChar : List D → Option (List D) := gNTB chN (fun t => checkT (badChar t) sCharacter t) fun t => checkB (badChar t) t
theorem ok_balls_Char : FOk ct_balls_Char gChar := fok_balls_Char ok_balls_bound ok_balls_Type fun ds outs hw hg => by
  obtain ⟨d, r, rfl, hd, rfl⟩ := hw
  obtain ⟨t, rfl⟩ := wf_term hd
  simp only [gChar, gNTB, dec_enc, Option.some.injEq] at hg
  subst hg
  simp only [tree_balls_Char, Tree.go, allSay, X.says, X.ev, X.evs, evl, tblS, List.getD_cons_zero, List.getD_cons_succ, List.getElem?_cons_zero, List.getElem?_cons_succ, tt_b, int_i, str_s, Option.isSome_some, Option.getD_some, dec_enc, decide_eq_true_eq, decide_eq_false_iff_not, gTB, gST, enc_f0, enc_f2, enc_zero, i_inj]
  by_cases hv : validT t = true
  · by_cases hk : t.kind = 0
    · simp [boundB, boundT, hv, hk, chN, checkB, checkT]
    · by_cases h2 : t.kind = 2
      · by_cases hs : t.name.size = 1
        · have := byte_rng (t.name.data.getD 0 0)
          simp [boundB, boundT, hv, h2, hs, chN, checkB, checkT, badChar] at this ⊢
          simpa using this
        · have hs' : ¬ ((t.name.size : Int) = 1) := by omega
          simp [boundB, boundT, hv, h2, hs, hs', chN, checkB, checkT, badChar, sCharacter]
      · simp [boundB, boundT, hv, hk, h2, chN, checkB, checkT, badChar, sCharacter]
  · simp [boundB, boundT, hv, chN, checkB, checkT]
theorem ok_ref06_Char : FOk ct_ref06_Char gChar := fok_ref06_Char ok_ref03_Valid ok_ref06_Inst ok_ref06_Type fun ds outs hw hg => by
  obtain ⟨d, r, rfl, hd, rfl⟩ := hw
  obtain ⟨t, rfl⟩ := wf_term hd
  simp only [gChar, gNTB, dec_enc, Option.some.injEq] at hg
  subst hg
  simp only [tree_ref06_Char, Tree.go, allSay, X.says, X.ev, X.evs, evl, tblS, List.getD_cons_zero, List.getD_cons_succ, List.getElem?_cons_zero, List.getElem?_cons_succ, tt_b, int_i, str_s, Option.isSome_some, Option.getD_some, dec_enc, decide_eq_true_eq, decide_eq_false_iff_not, gB1, gT0, gST, enc_f0, enc_f2, enc_zero, i_inj]
  by_cases hv : validT t = true
  · by_cases hk : t.kind = 0
    · simp [hv, hk, chN, checkB, checkT, inst_eq]
    · by_cases h2 : t.kind = 2
      · by_cases hs : t.name.size = 1
        · have := byte_rng (t.name.data.getD 0 0)
          simp [hv, h2, hs, chN, checkB, checkT, badChar] at this ⊢
          simpa using this
        · have hs' : ¬ ((t.name.size : Int) = 1) := by omega
          simp [hv, h2, hs, hs', chN, checkB, checkT, badChar, sCharacter, type_eq]
      · simp [hv, hk, h2, chN, checkB, checkT, badChar, sCharacter, type_eq]
  · simp [hv, chN, checkB, checkT]

/-! ### Codes -/
def sCharCode : ByteArray := ⟨#[99, 104, 97, 114, 97, 99, 116, 101, 114, 95, 99, 111, 100, 101]⟩
def cdB (t : Tm) : Bool := checkB (badInt t) t && (decide (0 ≤ t.num) && decide (t.num ≤ 255))
def cdT (t : Tm) : Tm := if checkB (badInt t) t then if 0 ≤ t.num ∧ t.num ≤ 255 then zeroT else namedT sRep sCharCode else checkT (badInt t) sInteger t
def cdN (t : Tm) : Int := if cdB t then t.num else 0
abbrev gCode : List D → Option (List D) := gNTB cdN cdT cdB
theorem ok_balls_Code : FOk ct_balls_Code gCode := fok_balls_Code ok_balls_Int ok_balls_Representation fun ds outs hw hg => by
  obtain ⟨d, r, rfl, hd, rfl⟩ := hw
  obtain ⟨t, rfl⟩ := wf_term hd
  simp only [gCode, gNTB, dec_enc, Option.some.injEq] at hg
  subst hg
  simp only [tree_balls_Code, Tree.go, allSay, X.says, X.ev, X.evs, evl, tblS, List.getD_cons_zero, List.getD_cons_succ, List.getElem?_cons_zero, List.getElem?_cons_succ, tt_b, int_i, str_s, Option.isSome_some, Option.getD_some, dec_enc, decide_eq_true_eq, decide_eq_false_iff_not, gNTB, gS1, enc_zero, i_inj]
  by_cases hc : checkB (badInt t) t = true
  · by_cases h0 : t.num < 0
    · have h1 : ¬ (0 ≤ t.num) := by omega
      simp [numInt, hc, h0, h1, cdN, cdT, cdB, sCharCode]
    · by_cases h2 : 255 < t.num
      · have h3 : ¬ (t.num ≤ 255) := by omega
        simp [numInt, hc, h0, h2, h3, cdN, cdT, cdB, sCharCode]
      · have h1 : 0 ≤ t.num := by omega
        have h3 : t.num ≤ 255 := by omega
        simp [numInt, hc, h0, h2, h1, h3, cdN, cdT, cdB]
  · simp [hc, cdN, cdT, cdB]
theorem ok_ref06_Code : FOk ct_ref06_Code gCode := fok_ref06_Code ok_ref06_Int ok_ref06_Representation fun ds outs hw hg => by
  obtain ⟨d, r, rfl, hd, rfl⟩ := hw
  obtain ⟨t, rfl⟩ := wf_term hd
  simp only [gCode, gNTB, dec_enc, Option.some.injEq] at hg
  subst hg
  simp only [tree_ref06_Code, Tree.go, allSay, X.says, X.ev, X.evs, evl, tblS, List.getD_cons_zero, List.getD_cons_succ, List.getElem?_cons_zero, List.getElem?_cons_succ, tt_b, int_i, str_s, Option.isSome_some, Option.getD_some, dec_enc, decide_eq_true_eq, decide_eq_false_iff_not, gNTB, gS1, enc_zero, i_inj]
  by_cases hc : checkB (badInt t) t = true
  · by_cases h0 : t.num < 0
    · have h1 : ¬ (0 ≤ t.num) := by omega
      simp [numInt, hc, h0, h1, cdN, cdT, cdB, sCharCode, named_eq sRep _ (by decide)]
    · by_cases h2 : 255 < t.num
      · have h3 : ¬ (t.num ≤ 255) := by omega
        simp [numInt, hc, h0, h2, h3, cdN, cdT, cdB, sCharCode, named_eq sRep _ (by decide)]
      · have h1 : 0 ≤ t.num := by omega
        have h3 : t.num ≤ 255 := by omega
        simp [numInt, hc, h0, h2, h1, h3, cdN, cdT, cdB]
  · simp [hc, cdN, cdT, cdB]

/-! ### Indicators -/
def sIndicator : ByteArray := ⟨#[112, 114, 101, 100, 105, 99, 97, 116, 101, 95, 105, 110, 100, 105, 99, 97, 116, 111, 114]⟩
def sNotLess : ByteArray := ⟨#[110, 111, 116, 95, 108, 101, 115, 115, 95, 116, 104, 97, 110, 95, 122, 101, 114, 111]⟩
def sMaxArity : ByteArray := ⟨#[109, 97, 120, 95, 97, 114, 105, 116, 121]⟩
def sSlash : ByteArray := ⟨#[47]⟩
def shapeB (t : Tm) : Bool := (t.kind == 3) && (decide (t.name = sSlash) && (t.args.length == 2))
/-- What is wrong with the name and the arity. -/
def badIA (a b : Tm) : Option Tm :=
  if a.kind = 0 ∨ b.kind = 0 then some instT else if a.kind = 2 then if b.kind = 1 then if b.num < 0 then some (aboutT sDomain [sNotLess] b) else if 8 < b.num then some (namedT sRep sMaxArity) else none
    else some (aboutT sType [sInteger] b) else some (aboutT sType [sAtom] a)
def badI (t : Tm) : Option Tm := if validT t then if t.kind = 0 then some instT else if shapeB t then badIA (t.args.getD 0 zeroT) (t.args.getD 1 zeroT) else some (aboutT sType [sIndicator] t) else some zeroT
def gInd : List D → Option (List D)
  | [d] => match badI (decT d) with
    | none => some [.s ((decT d).args.getD 0 zeroT).name, .i ((decT d).args.getD 1 zeroT).num, encT zeroT, .b true]
    | some e => some [.s ⟨#[]⟩, .i 0, encT e, .b false]
  | _ => none

theorem get0 {l : List Tm} (h : 0 < l.length) : (D.r (encL l)).get 0 = encT (l.getD 0 zeroT) := by
  have := get_enc h
  rw [List.getD_eq_getElem?_getD, List.getElem?_eq_getElem h]
  exact this
theorem get1 {l : List Tm} (h : 1 < l.length) : (D.r (encL l)).get 1 = encT (l.getD 1 zeroT) := by
  have := get_enc h
  rw [List.getD_eq_getElem?_getD, List.getElem?_eq_getElem h]
  exact this
theorem valid_getD {t : Tm} (h : validT t = true) (j : Nat) : validT (t.args.getD j zeroT) = true := by
  rw [List.getD_eq_getElem?_getD]
  by_cases hj : j < t.args.length
  · rw [List.getElem?_eq_getElem hj]
    exact valid_args h hj
  · rw [List.getElem?_eq_none (by omega)]
    exact zero_valid

theorem ok_balls_Indicator : FOk ct_balls_Indicator gInd := fok_balls_Indicator ok_balls_bound ok_balls_Type ok_balls_Inst ok_balls_Atom ok_balls_Int ok_balls_Domain ok_balls_Representation fun ds outs hw hg => by
  obtain ⟨d, r, rfl, hd, rfl⟩ := hw
  obtain ⟨t, rfl⟩ := wf_term hd
  simp only [gInd, dec_enc] at hg
  simp only [tree_balls_Indicator, Tree.go, allSay, X.says, X.ev, X.evs, evl, tblS, List.getD_cons_zero, List.getD_cons_succ, List.getElem?_cons_zero, List.getElem?_cons_succ, tt_b, int_i, str_s, Option.isSome_some, Option.getD_some, dec_enc, decide_eq_true_eq, decide_eq_false_iff_not, gTB, gST, gT0, gS1, gSTB, gNTB, enc_f0, enc_f2, enc_f3, enc_zero, i_inj, s_inj, rs_r, encL_len]
  by_cases hv : validT t = true
  · by_cases hk : t.kind = 0
    · simp [badI, hv, hk] at hg
      subst hg
      simp [boundB, boundT, hv, hk]
    · by_cases hs : t.kind = 3 ∧ t.name = sSlash ∧ t.args.length = 2
      · obtain ⟨h1, h2, h3⟩ := hs
        have hva := valid_getD hv 0
        have hvb := valid_getD hv 1
        have hsh : shapeB t = true := by simp [shapeB, h1, h2, h3]
        rw [get0 (by omega), get1 (by omega)]
        simp only [enc_f0, enc_f1, enc_f2, i_inj, s_inj, dec_enc]
        simp only [badI, hv, if_true, if_neg hk, hsh, badIA] at hg
        generalize t.args.getD 0 zeroT = a at *
        generalize t.args.getD 1 zeroT = b at *
        have h2' : t.name = ⟨#[47]⟩ := h2
        by_cases ha : a.kind = 0
        · simp [ha] at hg
          subst hg
          simp [boundB, boundT, hv, hk, h1, h2', h3, ha]
        · by_cases hb : b.kind = 0
          · simp [hb] at hg
            subst hg
            simp [boundB, boundT, hv, hk, h1, h2', h3, hb]
          · by_cases ha2 : a.kind = 2
            · by_cases hb1 : b.kind = 1
              · by_cases h0 : b.num < 0
                · simp [ha2, hb1, h0] at hg
                  subst hg
                  simp [boundB, boundT, hv, hk, h1, h2', h3, ha2, hb1, checkB, badAtom, badInt, hva, hvb, numInt, h0, sNotLess]
                · by_cases h8 : 8 < b.num
                  · simp [ha2, hb1, h0, h8] at hg
                    subst hg
                    simp [boundB, boundT, hv, hk, h1, h2', h3, ha2, hb1, checkB, badAtom, badInt, hva, hvb, numInt, h0, h8, sMaxArity]
                  · simp [ha2, hb1, h0, h8] at hg
                    subst hg
                    simp [boundB, boundT, hv, hk, h1, h2', h3, ha2, hb1, checkB, badAtom, badInt, hva, hvb, numInt, strAtom, h0, h8]
              · simp [ha2, hb, hb1] at hg
                subst hg
                simp [boundB, boundT, hv, hk, h1, h2', h3, ha2, hb, hb1, checkB, checkT, badAtom, badInt, hva, hvb]
            · simp [ha, hb, ha2] at hg
              subst hg
              simp [boundB, boundT, hv, hk, h1, h2', h3, ha, hb, ha2, checkB, checkT, badAtom, hva]
      · have hsh : shapeB t = false := by
          simp only [shapeB, Bool.and_eq_false_iff, beq_eq_false_iff_ne, decide_eq_false_iff_not]
          by_cases q1 : t.kind = 3
          · by_cases q2 : t.name = sSlash
            · exact .inr (.inr fun q3 => hs ⟨q1, q2, q3⟩)
            · exact .inr (.inl q2)
          · exact .inl q1
        simp [badI, hv, hk, hsh] at hg
        subst hg
        have hcond : ¬ (t.kind = 3 ∧ t.name = ⟨#[47]⟩ ∧ (t.args.length : Int) = 2) := fun ⟨q1, q2, q3⟩ => hs ⟨q1, q2, by omega⟩
        by_cases q1 : t.kind = 3
        · by_cases q2 : t.name = ⟨#[47]⟩
          · have q3 : ¬ ((t.args.length : Int) = 2) := fun q3 => hcond ⟨q1, q2, q3⟩
            simp [boundB, boundT, hv, hk, q1, q2, q3, sIndicator]
          · simp [boundB, boundT, hv, hk, q1, q2, sIndicator]
        · simp [boundB, boundT, hv, hk, q1, sIndicator]
  · simp [badI, hv] at hg
    subst hg
    simp [boundB, boundT, hv]

theorem ok_ref06_Indicator : FOk ct_ref06_Indicator gInd := fok_ref06_Indicator ok_ref03_Valid ok_ref06_Inst ok_ref06_Type ok_ref06_Domain ok_ref06_Representation fun ds outs hw hg => by
  obtain ⟨d, r, rfl, hd, rfl⟩ := hw
  obtain ⟨t, rfl⟩ := wf_term hd
  simp only [gInd, dec_enc] at hg
  simp only [tree_ref06_Indicator, Tree.go, allSay, X.says, X.ev, X.evs, evl, tblS, List.getD_cons_zero, List.getD_cons_succ, List.getElem?_cons_zero, List.getElem?_cons_succ, tt_b, int_i, str_s, Option.isSome_some, Option.getD_some, dec_enc, decide_eq_true_eq, decide_eq_false_iff_not, gB1, gST, gT0, gS1, enc_f0, enc_f1, enc_f2, enc_f3, enc_zero, i_inj, s_inj, rs_r, encL_len]
  by_cases hv : validT t = true
  · by_cases hk : t.kind = 0
    · simp [badI, hv, hk] at hg
      subst hg
      simp [hv, hk, inst_eq]
    · by_cases hs : t.kind = 3 ∧ t.name = sSlash ∧ t.args.length = 2
      · obtain ⟨h1, h2, h3⟩ := hs
        have hsh : shapeB t = true := by simp [shapeB, h1, h2, h3]
        rw [get0 (by omega), get1 (by omega)]
        simp only [enc_f0, enc_f1, enc_f2, i_inj, s_inj, dec_enc, int_i]
        simp only [badI, hv, if_true, if_neg hk, hsh, badIA] at hg
        generalize t.args.getD 0 zeroT = a at *
        generalize t.args.getD 1 zeroT = b at *
        have h2' : t.name = ⟨#[47]⟩ := h2
        by_cases ha : a.kind = 0
        · simp [ha] at hg
          subst hg
          simp [hv, hk, h1, h2', h3, ha, inst_eq]
        · by_cases hb : b.kind = 0
          · simp [hb] at hg
            subst hg
            simp [hv, hk, h1, h2', h3, hb, inst_eq]
          · by_cases ha2 : a.kind = 2
            · by_cases hb1 : b.kind = 1
              · by_cases h0 : b.num < 0
                · simp [ha2, hb1, h0] at hg
                  subst hg
                  simp [hv, hk, h1, h2', h3, ha2, hb1, h0, sNotLess, about_with (f := sDomain) (names := [⟨#[110, 111, 116, 95, 108, 101, 115, 115, 95, 116, 104, 97, 110, 95, 122, 101, 114, 111]⟩]) (by decide) (by simp)]
                · by_cases h8 : 8 < b.num
                  · simp [ha2, hb1, h0, h8] at hg
                    subst hg
                    simp [hv, hk, h1, h2', h3, ha2, hb1, h0, h8, sMaxArity, named_eq sRep _ (by decide)]
                  · simp [ha2, hb1, h0, h8] at hg
                    subst hg
                    simp [hv, hk, h1, h2', h3, ha2, hb1, h0, h8]
              · simp [ha2, hb, hb1] at hg
                subst hg
                simp [hv, hk, h1, h2', h3, ha2, hb, hb1, type_eq, sInteger]
            · simp [ha, hb, ha2] at hg
              subst hg
              simp [hv, hk, h1, h2', h3, ha, hb, ha2, type_eq, sAtom]
      · have hsh : shapeB t = false := by
          simp only [shapeB, Bool.and_eq_false_iff, beq_eq_false_iff_ne, decide_eq_false_iff_not]
          by_cases q1 : t.kind = 3
          · by_cases q2 : t.name = sSlash
            · exact .inr (.inr fun q3 => hs ⟨q1, q2, q3⟩)
            · exact .inr (.inl q2)
          · exact .inl q1
        simp [badI, hv, hk, hsh] at hg
        subst hg
        have hcond : ¬ (t.kind = 3 ∧ t.name = ⟨#[47]⟩ ∧ (t.args.length : Int) = 2) := fun ⟨q1, q2, q3⟩ => hs ⟨q1, q2, by omega⟩
        by_cases q1 : t.kind = 3
        · by_cases q2 : t.name = ⟨#[47]⟩
          · have q3 : ¬ ((t.args.length : Int) = 2) := fun q3 => hcond ⟨q1, q2, q3⟩
            simp [hv, hk, q1, q2, q3, sIndicator, type_eq]
          · simp [hv, hk, q1, q2, sIndicator, type_eq]
        · simp [hv, hk, q1, sIndicator, type_eq]
  · simp [badI, hv] at hg
    subst hg
    simp [hv]
end Go.Proofs.Ytloekfnlidclcaa
