/-
  The reference's vars: the walk. No condition.
-/
import Derived.Test.YtgedgmdbpembiaaRs
namespace Go.Proofs.Ytgedgmdbpembiaa
open Go.RowKit Go.Maps
set_option linter.unusedVariables false

set_option maxHeartbeats 1000000 in
theorem rvars_any (t : Tm) : ∀ (w : World) (v va : Value) (B : Nat) (l : List Int), TmAt w B t v → B ≤ w.heap.size → w.ownsRow B 2 1 va l.length (l.map (.int .i64)) → InvV l → fitsT t = true →
    Calls Try.prog 64 #[va, v] w fun e w' => ∃ va', e = .returned va' ∧ w'.ownsRow B 2 1 va' (appT varG l t).1.length ((appT varG l t).1.map (.int .i64)) ∧ InvV (appT varG l t).1 ∧ But (Off B w) w w' := by
  induction t using Tm.ind with
  | h k n s ts ih =>
  intro w v va B l hv hBw hrow hV hfit
  have hv0 := hv
  unfold TmAt TmIn at hv
  obtain ⟨A, len, cap, rfl, h1, h2, h3, rfl, h5, h6, hcm, h7⟩ := hv
  have IH := Lib.hid ih
  have hnode : nodeB (.mk k n s ts) = true := by
    unfold fitsT at hfit
    simp only [Bool.and_eq_true] at hfit
    exact hfit.1
  have hfl : fitsL ts = true := by
    unfold fitsT at hfit
    simp only [Bool.and_eq_true] at hfit
    exact hfit.2
  have hl8 : ts.length ≤ 8 := node_args hnode
  obtain ⟨i0, hi0, hz0, hz1, hz2⟩ := info_parts Try.infoI64
  have hlen := hV.len
  have hva : ∃ A' cap', va = .slice A' l.length cap' ∧ l.length ≤ cap' ∧ cap' ≤ maxLen ∧ IntsIn w (fun b => B ≤ b) A' l := IntsIn.of_row hrow
  obtain ⟨A', cap', rfl, hc1, hc2, hin⟩ := hva
  have hbw : But (Off B w) w (w.alloc (.cells #[.int .i64 k, .int .i64 n, .string s, .slice A ts.length cap] 24)) := (But.refl _ _).alloc _
  have hrow1 := hrow.alloc (.cells #[.int .i64 k, .int .i64 n, .string s, .slice A ts.length cap] 24)
  have hin1 : IntsIn (w.alloc (.cells #[.int .i64 k, .int .i64 n, .string s, .slice A ts.length cap] 24)) (fun _ => True) A' l := hin.but ((But.refl Nil _).alloc _) fun _ _ => ⟨id, trivial⟩
  have H0 := Lib.hid hv0
  have H7 := Lib.hid h7
  have Hnode := Lib.hid hnode
  have Hrow := Lib.hid hrow
  have Hrow1 := Lib.hid hrow1
  have Hin1 := Lib.hid hin1
  have Hfl := Lib.hid hfl
  clear ih hfit hnode hfl h7 hv0 hrow hrow1 hin hin1
  go_enter Try.func64, Try.ntmps64
  go_upto_region 1 with fail
  go_cut [15] (fun b wc => ∃ c : Bool, b = .bool c ∧ (c = true ↔ k = 0 ∧ ¬ n ∈ l) ∧ But Nil (w.alloc (.cells #[.int .i64 k, .int .i64 n, .string s, .slice A ts.length cap] 24)) wc)
  case first =>
    by_cases hk : k = 0
    · subst hk
      go_wp2_with fail
      refine (pos_any l A' cap' n _ hlen Hin1.out).mono ?_
      rintro e w1 ⟨rfl, hb1⟩
      have hblk := hb1.heap id (heap_new (w := w) (o := .cells #[.int .i64 0, .int .i64 n, .string s, .slice A ts.length cap] 24) rfl)
      obtain ⟨q0, q1, q2, q3⟩ := blk4 hblk
      have hlt := lt_of_heap hblk
      clear hblk
      by_cases hmem : n ∈ l
      · have hp : ¬ posI l n < 0 := by unfold posI; rw [if_pos hmem]; omega
        have Hmem := Lib.hid hmem
        have d1 : decide (posI l n < 0) = false := by simpa using hp
        clear hmem hp
        go_wp2_with fail
        go_meet
        exact ⟨_, rfl, by simp [Hmem.out], hb1⟩
      · have hp : posI l n < 0 := by unfold posI; rw [if_neg hmem]; omega
        have Hmem := Lib.hid hmem
        have d1 : decide (posI l n < 0) = true := by simpa using hp
        clear hmem hp
        go_wp2_with fail
        go_meet
        exact ⟨_, rfl, by simp [Hmem.out], hb1⟩
    · have hk' : (k == 0) = false := by simpa using hk
      have Hk := Lib.hid hk
      clear hk
      go_wp2_with fail
      go_meet
      exact ⟨_, rfl, by simp [Hk.out], But.refl _ _⟩
  case rest =>
    obtain ⟨c, rfl, hc, hb1⟩ := hcut
    have Hc := Lib.hid hc
    clear hc
    have hblk := hb1.heap id (heap_new (w := w) (o := .cells #[.int .i64 k, .int .i64 n, .string s, .slice A ts.length cap] 24) rfl)
    obtain ⟨q0, q1, q2, q3⟩ := blk4 hblk
    have hlt := lt_of_heap hblk
    have Hblk := Lib.hid hblk
    clear hblk
    have hb2 := hbw.trans_nil hb1
    go_upto_if 15 with fail
    go_cut [0] (fun va0 wc => ∃ l0 : List Int, wc.ownsRow B 2 1 va0 l0.length (l0.map (.int .i64)) ∧ InvV l0 ∧ wc.heap[w.heap.size]? = some (.cells #[.int .i64 k, .int .i64 n, .string s, .slice A ts.length cap] 24 (0, 0)) ∧ But (Off B w) w wc ∧ (appL varG l0 ts).1 = (appT varG l (.mk k n s ts)).1)
    case first =>
      cases c
      case true =>
        obtain ⟨rfl, hmem⟩ := Hc.out.1 rfl
        have hbd := var_bd (t := .mk 0 n s ts) rfl Hnode.out
        have hts := var_args (t := .mk 0 n s ts) rfl Hnode.out
        simp only [Tm.num, Tm.args] at hbd hts
        have Hts := Lib.hid hts
        have Hbd := Lib.hid hbd
        have Hmem := Lib.hid hmem
        have Hrow2 := Lib.hid (own_but Hrow1.out hb1 (fun _ _ => id))
        clear hts hbd hmem
        go_wp2_with (at_builtin; refine wpList_append_lies _ rfl _ _ 31 rfl B 2 i0 _ 1 8 Try.underlying31 hi0 hz0 hz1 hz2 rfl (by omega) (.slice A' l.length cap') l.length _ rfl (Hrow2.out.alloc _) ⟨wc.heap.size, 0, none⟩ 1 1 [.int .i64 n] rfl rfl (cell_one_new _ _ _) (by simp [Value.oneCell']) (by omega) (by unfold maxLen; omega) (by omega) (by simp; omega) (wc.heap.size + 1) (by simp) ?_
                     intro gg cap2 w2 hrow3 hgrow hat hlt2)
        go_meet
        have hba : But Nil wc (wc.alloc (.cells #[.int .i64 n] 2)) := (But.refl _ _).alloc _
        have hb3 : But (fun k => (Value.slice A' l.length cap').ownBlock = some k) (wc.alloc (.cells #[.int .i64 n] 2)) w2 := (But.refl _ _).grown hgrow (fun k hk => .inl hk)
        have hoff : ∀ g, (Value.slice A' l.length cap').ownBlock = some g → Off B w g := fun g hg => ⟨(Hrow.out.lt g hg).1, own_ntblk Hrow.out (by decide) hg⟩
        have hadd : addV l n = l ++ [n] := by unfold addV; rw [if_neg Hmem.out]
        refine ⟨l ++ [n], by simpa using hrow3, ?_, hb3.heap (fun hg => by have := (Hrow.out.lt _ hg).2; omega) (hba.heap id Hblk.out), (hb2.trans_nil hba).trans hb3 fun i hi _ => .inl (hoff i hi), ?_⟩
        · rw [← hadd]; exact hV.add Hbd.out.1 Hbd.out.2
        · simp only [Hts.out, appL, appT, varG, if_true, Tm.num, hadd]
      case false =>
        go_wp2_with fail
        go_meet
        refine ⟨l, own_but Hrow1.out hb1 (fun _ _ => id), hV, Hblk.out, hb2, ?_⟩
        by_cases hk : k = 0
        · subst hk
          have hts := var_args (t := .mk 0 n s ts) rfl Hnode.out
          simp only [Tm.args] at hts
          have hmem : n ∈ l := Classical.byContradiction fun h => by have := Hc.out.2 ⟨rfl, h⟩; cases this
          simp [hts, appL, appT, varG, Tm.num, addV, hmem]
        · simp only [appT, if_neg hk]
    case rest =>
      obtain ⟨l0, hr0, hV0, hblk0, hb0, htgt⟩ := hcut
      have Htgt := Lib.hid htgt
      have Hr0 := Lib.hid hr0
      have Hblk0 := Lib.hid hblk0
      clear htgt hr0 hblk0 q0 q1 q2 q3
      go_wp2_with fail
      go_loopw [0, 5] (fun va i wr => ∃ (j : Nat) (lj : List Int), j ≤ ts.length ∧ i = .int .i64 j ∧ wr.ownsRow B 2 1 va lj.length (lj.map (.int .i64)) ∧ InvV lj ∧ wr.heap[w.heap.size]? = some (.cells #[.int .i64 k, .int .i64 n, .string s, .slice A ts.length cap] 24 (0, 0)) ∧
          But (Off B w) w wr ∧ (appL varG lj (ts.drop j)).1 = (appT varG l (.mk k n s ts)).1) (fun _ i _ => ts.length - (intOf i).toNat)
      case atStart => exact ⟨0, l0, by omega, rfl, Hr0.out, hV0, Hblk0.out, hb0, by simpa using Htgt.out⟩
      case round =>
        obtain ⟨j, lj, hj, rfl, hrj, hVj, hblkj, hbj, htj⟩ := hrel
        have Htj := Lib.hid htj
        have Hrj := Lib.hid hrj
        have Hblkj := Lib.hid hblkj
        obtain ⟨x0, x1, x2, x3⟩ := blk4 hblkj
        clear htj hrj hblkj
        by_cases hjl : j < ts.length
        · have hargs := ArgsAt.keeps (Nat.le_refl _) (hbj.keeps fun _ h => h) H7.out
          obtain ⟨b, o, A0, cap0, rfl, hb, e0, e1, e2, e3, hte⟩ := hargs.get hjl
          have Hte := Lib.hid hte
          have Hfj := Lib.hid (fitsL_get Hfl.out j hjl)
          have Hd := Lib.hid (appL_drop varG lj hjl)
          have hwj := hbj.size
          clear hte hargs
          go_wp2_with fail
          refine (IH.out ts[j] (List.getElem_mem hjl) _ _ _ B lj Hte.out (by omega) Hrj.out hVj Hfj.out).mono ?_
          rintro e w2 ⟨va', rfl, hr2, hV2, hb2'⟩
          have Hr2 := Lib.hid hr2
          have hbb := hbj.trans hb2' fun i hi _ => .inl (hbj.off_back (fun _ h => h.2) hi)
          have hblk2 := hb2'.heap (fun h => h.2 ⟨_, _, Hblkj.out⟩) Hblkj.out
          have Hblk2 := Lib.hid hblk2
          clear hr2 hblk2
          go_wp2_with fail
          go_roundw
          case rel => exact ⟨j + 1, _, by omega, by go_num, Hr2.out, hV2, Hblk2.out, hbb, by rw [← Htj.out, Hd.out]⟩
          case measure => simp [intOf]; omega
        · go_wp2_with fail
          go_ret
          have e1 := Htj.out
          rw [List.drop_eq_nil_of_le (by omega)] at e1
          simp only [appL] at e1
          rw [← e1]
          exact ⟨_, rfl, Hrj.out, hVj, hbj⟩

end Go.Proofs.Ytgedgmdbpembiaa
