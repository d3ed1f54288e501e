/-
  The law BallsLists, on data. No condition.
-/
import Derived.Test.YtloekfnlidclcaaZe
import Derived.Test.YtloekfnlidclcaaQGf
namespace Go.Proofs.Ytloekfnlidclcaa
open Go.RowKit
set_option linter.unusedVariables false

/-- What the reference's List makes. -/
def listR (l : List Tm) (t : Tm) : Tm := if l.length ≤ 2000 then cloneT (consR l t) else zeroT
theorem ok_ref03_List : FOk ct_ref03_List (gLT listR) :=
  fok_still enter_ref03_List (by simp [ct_ref03_List]) fun F w vs ds outs hg ha => by
    obtain ⟨l, A, cap, r, ds', rfl, rfl, h1, h2, h3, h4, ha⟩ := argTs ha
    obtain ⟨v0, r, t, ds', rfl, rfl, ht, ha⟩ := argT ha
    obtain ⟨rfl, rfl⟩ := arg0 ha
    simp only [gLT, decL_encL, dec_enc, Option.some.injEq] at hg
    subst hg
    refine (ent_calls (rlist_entry l t) (F := F) (vs := [_, v0]) ⟨⟨A, cap, rfl, h1, h2, h3, h4⟩, ht, trivial⟩).mono ?_
    rintro e w' ⟨v, p', rfl, hb, hk, hv⟩
    refine ⟨[v], rfl, hb, ⟨rfl, _, [], _, [], rfl, rfl, ?_, rfl⟩, rfl⟩
    have : TmIn w' (Fr p') (listR l t) v := by
      have h5 : TmIn w' (Fr p') ((EnvL l t 0).T 5) v := hv
      have h6 : (EnvL l t 0).T 5 = listR l t := by
        show listT l t = _
        exact list_eq l t
      rw [← h6]
      exact h5
    exact resT hk this

theorem elT_app (l : List Tm) (t : Tm) : elT (consR l t) = (l ++ (elT t).1, (elT t).2) := by
  induction l with
  | nil => simp [consR]
  | cons x l ih =>
    show elT (consT x (consR l t)) = _
    have : consT x (consR l t) = .mk 3 0 ⟨#[46]⟩ [x, consR l t] := rfl
    rw [this]
    simp [elT, elA, ih]

theorem ok_ref03_Size : FOk ct_ref03_Size (gN1 sizeT) := fok_N1 enter_ref03_Size (fun t => by
  have h := cnt_bd t 2001 (by omega)
  rw [size_cnt] at h
  unfold wf64
  omega) fun t w v h => rsize_any t w v h

theorem el_not {t : Tm} (h : isCons t = false) : elT t = ([], t) := by
  cases t with
  | mk k n s l =>
    unfold elT
    by_cases hc : k = 3 ∧ s = ⟨#[46]⟩
    · rw [if_pos hc]
      match l with
      | [] => rfl
      | [a] => rfl
      | [a, b] => simp [isCons, Tm.kind, Tm.name, Tm.args, hc.1, hc.2] at h
      | a :: b :: c :: r => rfl
    · rw [if_neg hc]

theorem type_val {ty : ByteArray} {c : Tm} (hty : (ty.size : Int) ≤ 100) (hv : validT c = true) : aboutT sType [ty] c = errT (.mk 3 0 sType [atomR ty, if 2000 < sizeT c + 4 then atomR sDots else c]) := by
  rw [about_with (by decide) (by simp)]
  unfold withR
  rw [if_pos hv]
  have hc : culT [ty].length c = if 2000 < sizeT c + 4 then atomR sDots else c := by
    unfold culT
    by_cases h : 2000 < sizeT c + 4
    · rw [if_pos h, if_pos]
      simp
      omega
    · rw [if_neg h, if_neg]
      simp
      omega
  rw [hc]
  have ha : fitsT (atomR ty) = true := by simp [fitsT, fitsL, nodeB]; omega
  refine ball_val ?_ ?_
  · split
    · simp [nodesT, nodesL]
    · rename_i h
      have hs := size_min c
      simp [nodesT, nodesL]
      omega
  · rw [fits_mk]
    refine ⟨by simp [nodeB, sType, ByteArray.size], ?_⟩
    have hd : fitsT (atomR sDots) = true := by decide
    have hcv := (valid_iff.1 hv).2
    split <;> simp [fitsL, ha, hd, hcv]

theorem listR_two {l : List Tm} {t : Tm} (h : (listR l t).args.length = 2) : listR l t = consR l t ∧ validT (consR l t) = true ∧ l.length ≤ 2000 := by
  unfold listR at h ⊢
  split at h
  · rename_i hl
    rw [if_pos hl]
    unfold cloneT at h ⊢
    split at h
    · rename_i hv
      rw [if_pos hv]
      exact ⟨rfl, hv, hl⟩
    · simp [zeroT, Tm.args] at h
  · simp [zeroT, Tm.args] at h

theorem consR_parts {l : List Tm} {t : Tm} (h : validT (consR l t) = true) : (∀ x ∈ l, validT x = true) ∧ validT t = true := by
  have h1 := valid_iff.1 h
  rw [consR_nodes, consR_fits] at h1
  have ht := nodes_pos t
  refine ⟨fun x hx => valid_iff.2 ⟨?_, h1.2.1 x hx⟩, valid_iff.2 ⟨by omega, h1.2.2⟩⟩
  have := nodes_mem hx
  omega

theorem same_nil {t : Tm} : sameT t (atomR sNil) = true ↔ t = atomR sNil := by
  constructor
  · intro h
    simp only [sameT, Bool.and_eq_true] at h
    exact eqT_iff.1 h.2
  · rintro rfl
    exact same_self (by decide)

theorem nil_of {t : Tm} (hv : validT t = true) (hk : t.kind = 2) (hn : t.name = sNil) : t = atomR sNil := by
  have hf := (valid_iff.1 hv).2
  cases t with
  | mk k n s l =>
    simp only [Tm.kind] at hk
    simp only [Tm.name] at hn
    subst hk hn
    rw [fits_mk] at hf
    have h1 := hf.1
    simp [nodeB] at h1
    simp [h1]

theorem size_rng (t : Tm) : 1 ≤ sizeT t ∧ sizeT t ≤ 2001 := by
  have h := cnt_bd t 2001 (by omega)
  rw [size_cnt] at h
  exact h

theorem type_inst {ty : ByteArray} {c : Tm} (hty : (ty.size : Int) ≤ 100) (hv : validT c = true) : sameT (aboutT sType [ty] c) instT = false := by
  rw [type_val hty hv, inst_val]
  simp only [sameT]
  have : eqT (errT (.mk 3 0 sType [atomR ty, if 2000 < sizeT c + 4 then atomR sDots else c])) (errT (atomR sInst)) = false := by
    cases h : eqT (errT (.mk 3 0 sType [atomR ty, if 2000 < sizeT c + 4 then atomR sDots else c])) (errT (atomR sInst)) with
    | false => rfl
    | true =>
      have := eqT_iff.1 h
      simp [errT] at this
  rw [this, Bool.and_false]

theorem law_BallsLists : FOk ct_law06_BallsLists fun _ => some [.b true] :=
  fok_law06_BallsLists ok_ref03_List ok_law06_awake ok_balls_List ok_law06_a ok_law06_error1 ok_law06_same ok_ref03_SameAll ok_ref03_Size ok_law06_f fun ds outs hw hg => by
  obtain ⟨d, r, rfl, hd, d', r', rfl, hd', rfl⟩ := hw
  obtain ⟨l, rfl, hlen⟩ := wf_terms hd
  obtain ⟨t, rfl⟩ := wf_term hd'
  simp only [Option.some.injEq] at hg
  subst hg
  have hF2 : ∀ (s : ByteArray) (x y : Tm), D.a [.i 3, .i 0, .s s, .r [encT x, encT y]] = encT (.mk 3 0 s [x, y]) := fun s x y => rfl
  simp only [tree_law06_BallsLists, Tree.go, allSay, X.says, X.ev, X.evs, evl, tblS, List.getD_cons_zero, List.getD_cons_succ, List.getElem?_cons_zero, List.getElem?_cons_succ, tt_b, int_i, str_s, Option.isSome_some, Option.getD_some, dec_enc, decide_eq_true_eq, decide_eq_false_iff_not, gLT, gList, gS1, gT1, gB2, gLL, gN1, gSL, hF2, decL_encL, enc_f0, enc_f2, enc_f3, enc_zero, i_inj, s_inj, rs_r, encL_len]
  by_cases hc : l.length = 0 ∨ ¬ (listR l t).args.length = 2
  · refine ⟨by simp, fun _ => ⟨by simp, by simp⟩, fun h => ?_⟩
    exfalso
    rcases hc with hc | hc
    · simp [hc] at h
    · have : ¬ (((listR l t).args.length : Int) = 2) := by omega
      simp [this] at h
  · have hc1 : ¬ l.length = 0 := fun e => hc (.inl e)
    have hc2 : (listR l t).args.length = 2 := Classical.byContradiction fun e => hc (.inr e)
    obtain ⟨hT, hv, hl⟩ := listR_two hc2
    obtain ⟨hvl, hvt⟩ := consR_parts hv
    have hel := elT_app l t
    rw [hT] at hc2 ⊢
    generalize consR l t = T at *
    have h2i : ((T.args.length : Int) = 2) := by omega
    have h0i : ¬ ((l.length : Int) = 0) := by omega
    have hinst := inst_val
    have hsi := same_self inst_valid'
    have hsz := size_rng T
    have hLB : lsB T = (decide ((elT t).2.kind = 2) && decide ((elT t).2.name = sNil)) := by simp [lsB, hv, hel]
    have hLt : lsB t = (decide ((elT t).2.kind = 2) && decide ((elT t).2.name = sNil)) := by simp [lsB, hvt]
    have hLT : lsT T = if (elT t).2.kind = 0 then instT else if lsB T then zeroT else aboutT sType [sList] T := by simp [lsT, hv, hel]
    have hLs : lsT t = if (elT t).2.kind = 0 then instT else if lsB t then zeroT else aboutT sType [sList] t := by simp [lsT, hvt]
    have hLL : lsL T = if lsB T then l ++ (elT t).1 else [] := by simp [lsL, hel]
    refine ⟨by simp, fun _ => ⟨by simp, by simp⟩, fun _ => ⟨by simp, fun hk => ?_, fun hk => ⟨by simp, fun hn => ?_, fun hn => ⟨fun hcons => ?_, fun hcons => ?_⟩⟩⟩⟩
    · -- a variable
      have hnc : isCons t = false := by simp [isCons, hk]
      have he := el_not hnc
      have hb : lsB T = false := by simp [hLB, he, hk]
      have e1 : lsT T = instT := by rw [hLT, he]; simp [hk]
      have e2 : lsL T = [] := by rw [hLL, hb]; rfl
      rw [inst_val] at e1 hsi
      simp only [errT, sInst] at e1 hsi
      simp [hb, e1, e2, hsi, encL, tt_b]
    · -- nil
      have ht := same_nil.1 hn
      subst ht
      have he := el_not (t := atomR sNil) (by decide)
      have hb : lsB T = true := by simp [hLB, he, Tm.kind, Tm.name]
      have e1 : lsT T = zeroT := by rw [hLT, he, hb]; rfl
      have e2 : lsL T = l := by rw [hLL, hb, he]; simp
      have h1 := all_self hvl
      have h2 := same_self zero_valid
      simp [hb, e1, e2, h1, h2, tt_b]
    · -- a list in the tail
      refine ⟨by simp, fun h => ?_, fun _ => ⟨fun hb => ?_, fun hb => ?_⟩⟩
      · rw [hLB, hLt] at h
        simp at h
      · have hb1 : lsB T = true := hb
        have hb2 : lsB t = true := by rw [hLt, ← hLB]; exact hb1
        have e2 : lsL T = l ++ lsL t := by rw [hLL, hb1]; simp [lsL, hb2]
        have hsm := el_small hvt
        have hL2 : (lsL t).length ≤ 2000 := by simp [lsL, hb2]; exact hsm
        have h1 := all_self (lsL_valid T)
        rw [e2] at h1 ⊢
        have h1' : sameAllT (l ++ lsL t) (decL (encL l ++ encL (lsL t))) = true := by
          have : encL l ++ encL (lsL t) = encL (l ++ lsL t) := by simp [encL_map]
          rw [this, decL_encL]
          exact h1
        simp [h1', tt_b, encL_len]
        omega
      · have hb1 : lsB T = false := hb
        have hb2 : lsB t = false := by rw [hLt, ← hLB]; exact hb1
        rw [hb1] at hLT
        rw [hb2] at hLs
        rw [inst_val] at hsi
        by_cases hk0 : (elT t).2.kind = 0
        · rw [if_pos hk0] at hLT hLs
          rw [inst_val] at hLT hLs
          simp only [errT, sInst] at hLT hLs hsi
          simp [hLT, hLs, hsi, tt_b]
        · rw [if_neg hk0] at hLT hLs
          have q1 := type_inst (ty := sList) (by decide) hv
          have q2 := type_inst (ty := sList) (by decide) hvt
          rw [inst_val] at q1 q2
          simp only [errT, sInst] at q1 q2
          simp [hLT, hLs, q1, q2, tt_b]
    · -- another tail
      have hnc : isCons t = false := by
        cases hq : isCons t with
        | false => rfl
        | true =>
          exfalso
          simp only [isCons, Bool.and_eq_true, decide_eq_true_eq] at hq
          have : ((t.args.length : Int) = 2) := by omega
          simp [hq.1, hq.2.1, this] at hcons
      have he := el_not hnc
      have hn' : ¬ (t.kind = 2 ∧ t.name = sNil) := fun ⟨q1, q2⟩ => by
        have := same_nil.2 (nil_of hvt q1 q2)
        have hn2 : sameT t (atomR sNil) = false := hn
        rw [this] at hn2
        cases hn2
      have hb : lsB T = false := by
        rw [hLB, he]
        by_cases q1 : t.kind = 2
        · have q2 : ¬ t.name = sNil := fun q2 => hn' ⟨q1, q2⟩
          simp [q2]
        · simp [q1]
      have hkt : ¬ t.kind = 0 := by
        intro e
        rw [e] at hk
        simp at hk
      have e1 : lsT T = aboutT sType [sList] T := by rw [hLT, he, hb]; simp [hkt]
      have e2 : lsL T = [] := by rw [hLL, hb]; rfl
      have e3 := type_val (ty := sList) (by decide) hv
      have hval := same_self (lsT_valid T)
      rw [e1, e3] at hval
      rw [e3] at e1
      have hr : rngB .i64 (sizeT T + 4) = true := by
        simp [rngB]
        omega
      refine ⟨⟨by simp, by simpa using hr, trivial⟩, fun hbig => ?_, fun hbig => ?_⟩
      · have hbig' : 2000 < sizeT T + 4 := by simpa using hbig
        rw [if_pos hbig'] at e1 hval
        simp only [errT, sType, sList, sDots] at e1 hval
        simp [hb, e1, e2, hval, encL, tt_b]
      · have hbig' : ¬ 2000 < sizeT T + 4 := by simpa using hbig
        rw [if_neg hbig'] at e1 hval
        simp only [errT, sType, sList] at e1 hval
        simp [hb, e1, e2, hval, encL, tt_b]
end Go.Proofs.Ytloekfnlidclcaa
