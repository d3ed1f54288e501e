/-
  Lemmas of the walk and plain laws, put together. No condition.
-/
import Derived.ChangeArms
import Derived.OpenShut
import Derived.ProofKit
import Derived.SizedLaws
import Derived.Test.YtmebmpgffhajbaaRows
import Derived.Test.YtmebmpgffhajbaaKe
namespace Go.Proofs.Ytmebmpgffhajbaa
open Go.RowKit
set_option linter.unusedVariables false
set_option linter.unusedSimpArgs false

noncomputable def gLive : List D → Option (List D)
  | [s, r] => if smallB (dS s) (dR r) then some (if okR validR vcR (dS s) (dR r) then [.i (bef (Mk (dS s) (dR r)) (dS s).cs.length : Nat), .i 0] else [.i 0, .i 1]) else none
  | _ => none
noncomputable def gCol : List D → Option (List D)
  | [s, r] => if smallB (dS s) (dR r) then some (if okR validR vcR (dS s) (dR r) then [.i 0, eS (colS (Mk (dS s) (dR r)) (dS s)), eR (colR (Mk (dS s) (dR r)) (dS s) (dR r))] else [.i 1, eS (dS s), eR (dR r)]) else none
  | _ => none
theorem Mk_lt {s : So} {r : Ro} (hv : VG s r) {i : Nat} (h : Mk s r i = true) : i < s.cs.length := (Mk_iff.1 h).lt hv
theorem bq_on {s : So} {r : Ro} (hv : VG s r) : bq (onOf s r) = Mk s r := by
  funext i
  unfold bq onOf
  rw [List.getD_eq_getElem?_getD, List.getElem?_map]
  rcases Nat.lt_or_ge i s.cs.length with h | h
  · rw [List.getElem?_range h]
    rfl
  · rw [List.getElem?_eq_none (by simpa using h)]
    cases hm : Mk s r i with
    | false => rfl
    | true => have := Mk_lt hv hm; omega
theorem on_len (s : So) (r : Ro) : (onOf s r).length = s.cs.length := by simp [onOf]
theorem Gce.mv {s : So} {c : Ce} (h : Gce s c) : mvQ s.cs.length c := fun ht => by
  have := h.b ht
  omega
structure GcQ (s : So) (r : Ro) : Prop where
  ok : okR validR vcR s r = true
  sm : smallB s r = true
theorem GcQ.vg {s : So} {r : Ro} (h : GcQ s r) : VG s r := vg_of h.ok
theorem GcQ.mkd {s : So} {r : Ro} (h : GcQ s r) : gMkd [eS s, eR r] = some [.r ((onOf s r).map D.b)] := by
  simp only [gMkd, dS_eS, dR_eR, h.ok, h.sm, Bool.and_self, if_true]
theorem GcQ.mov {s : So} {r : Ro} (h : GcQ s r) {c : Ce} (hc : Gce s c) : gMov [.r ((onOf s r).map D.b), eC c] = some [eC (mvC (Mk s r) c)] := by
  have := gMov_at (on := onOf s r) (by rw [on_len]; exact hc.mv) (by rw [on_len]; exact (small_parts h.sm).1)
  rw [bq_on h.vg] at this
  exact this
theorem GcQ.bef {s : So} {r : Ro} (h : GcQ s r) {a : Nat} (ha : a ≤ s.cs.length) : gBef [.r ((onOf s r).map D.b), .i (a : Int)] = some [.i (bef (Mk s r) a : Nat)] := by
  have := gBef_at (on := onOf s r) (a := a) (by rw [on_len]; exact ha) (by rw [on_len]; exact (small_parts h.sm).1)
  rw [bq_on h.vg] at this
  exact this

theorem ok_ref34_Live : FOk q1j gLive := fok_ref34_Live q3g ok_ref34_Marked q39 fun ds outs hw hg => by
  obtain ⟨s, r, rfl, hs, hr⟩ := sr_of hw
  simp only [gLive, dS_eS, dR_eR, Option.ite_none_right_eq_some, Option.some.injEq] at hg
  obtain ⟨hsm, rfl⟩ := hg
  rw [q32, q00]
  refine ⟨by simp only [q00, go_br, q01, q02, allSay, X.says, X.ev, X.evs, evl, tblS, List.getD_cons_zero, List.getD_cons_succ, List.getElem?_cons_zero, List.getElem?_cons_succ, tt_b, int_i, str_s, rs_r, Option.isSome_some, Option.getD_some, decide_eq_true_eq, decide_eq_false_iff_not, dS_eS, dC_eC, dU_eU, dW_eW, dY_eY, eC_0, eC_1, eU_0, eU_1, eW_0, eW_1, eW_2, eY_0, eY_1, eS_0, eS_1, eS_2, eS_3, eS_4, eS_5, List.length_map, i_inj, b_inj, s_inj, eC_eq, eU_eq, eW_eq, eY_eq, eS_eq, rng64, List.take_succ_cons, List.take_zero, List.nil_append, List.cons_append, decide_true, decide_false, Bool.or_true, true_and, and_true, gSRb], ?_⟩
  rw [go_br]
  simp only [X.ev, X.evs, evl, tblS, List.getD_cons_zero, List.getElem?_cons_zero, gSRb, dS_eS, dR_eR, tt_b, Option.getD_some, List.getD_cons_succ]
  refine ⟨fun hb => ?_, fun hb => ?_⟩
  · have hok : okR validR vcR s r = false := by simpa using hb
    simp only [q00, go_br, q01, q02, allSay, X.says, X.ev, X.evs, evl, tblS, List.getD_cons_zero, List.getD_cons_succ, List.getElem?_cons_zero, List.getElem?_cons_succ, tt_b, int_i, str_s, rs_r, Option.isSome_some, Option.getD_some, decide_eq_true_eq, decide_eq_false_iff_not, dS_eS, dC_eC, dU_eU, dW_eW, dY_eY, eC_0, eC_1, eU_0, eU_1, eW_0, eW_1, eW_2, eY_0, eY_1, eS_0, eS_1, eS_2, eS_3, eS_4, eS_5, List.length_map, i_inj, b_inj, s_inj, eC_eq, eU_eq, eW_eq, eY_eq, eS_eq, rng64, List.take_succ_cons, List.take_zero, List.nil_append, List.cons_append, decide_true, decide_false, Bool.or_true, true_and, and_true, hok, Bool.false_eq_true, if_false]
  · have hok : okR validR vcR s r = true := by simpa using hb
    have hc : GcQ s r := ⟨hok, hsm⟩
    have hbf := hc.bef (Nat.le_refl _)
    simp only [q00, go_br, q01, q02, allSay, X.says, X.ev, X.evs, evl, tblS, List.getD_cons_zero, List.getD_cons_succ, List.getElem?_cons_zero, List.getElem?_cons_succ, tt_b, int_i, str_s, rs_r, Option.isSome_some, Option.getD_some, decide_eq_true_eq, decide_eq_false_iff_not, dS_eS, dC_eC, dU_eU, dW_eW, dY_eY, eC_0, eC_1, eU_0, eU_1, eW_0, eW_1, eW_2, eY_0, eY_1, eS_0, eS_1, eS_2, eS_3, eS_4, eS_5, List.length_map, i_inj, b_inj, s_inj, eC_eq, eU_eq, eW_eq, eY_eq, eS_eq, rng64, List.take_succ_cons, List.take_zero, List.nil_append, List.cons_append, decide_true, decide_false, Bool.or_true, true_and, and_true, hc.mkd, hbf, hok, if_true]

theorem take_map_succ {α β : Type} [Inhabited α] (g : α → β) {l : List α} {k : Nat} (h : k < l.length) : (l.take (k + 1)).map g = (l.take k).map g ++ [g (l.getD k default)] := by
  rw [take_snoc h, List.map_append]
  rfl
theorem app_if {α : Type} (l : List α) (e : α → D) (b : Bool) (x : α) (hb : b = true) : (l ++ if b then [x] else []).map e = l.map e ++ [e x] := by
  rw [hb, if_pos rfl, List.map_append]
  rfl
theorem app_if0 {α : Type} (l : List α) (e : α → D) (b : Bool) (x : α) (hb : b = false) : (l ++ if b then [x] else []).map e = l.map e := by
  rw [hb, if_neg (by decide), List.append_nil]

theorem ok_ref34_Collect : FOk q15 gCol := fok_ref34_Collect q3g ok_ref34_Marked ok_ref34_moved q39 fun ds outs hw hg => by
  obtain ⟨s, r, rfl, hs, hr⟩ := sr_of hw
  simp only [gCol, dS_eS, dR_eR, Option.ite_none_right_eq_some, Option.some.injEq] at hg
  obtain ⟨hsm, rfl⟩ := hg
  rw [q2a, q00]
  refine ⟨by simp only [q00, go_br, q01, q02, allSay, X.says, X.ev, X.evs, evl, tblS, List.getD_cons_zero, List.getD_cons_succ, List.getElem?_cons_zero, List.getElem?_cons_succ, tt_b, int_i, str_s, rs_r, Option.isSome_some, Option.getD_some, decide_eq_true_eq, decide_eq_false_iff_not, dS_eS, dC_eC, dU_eU, dW_eW, dY_eY, eC_0, eC_1, eU_0, eU_1, eW_0, eW_1, eW_2, eY_0, eY_1, eS_0, eS_1, eS_2, eS_3, eS_4, eS_5, List.length_map, i_inj, b_inj, s_inj, eC_eq, eU_eq, eW_eq, eY_eq, eS_eq, rng64, List.take_succ_cons, List.take_zero, List.nil_append, List.cons_append, decide_true, decide_false, Bool.or_true, true_and, and_true, gSRb], ?_⟩
  rw [go_br]
  simp only [X.ev, X.evs, evl, tblS, List.getD_cons_zero, List.getElem?_cons_zero, gSRb, dS_eS, dR_eR, tt_b, Option.getD_some, List.getD_cons_succ]
  refine ⟨fun hb => ?_, fun hb => ?_⟩
  · have hok : okR validR vcR s r = false := by simpa using hb
    simp only [q00, go_br, q01, q02, allSay, X.says, X.ev, X.evs, evl, tblS, List.getD_cons_zero, List.getD_cons_succ, List.getElem?_cons_zero, List.getElem?_cons_succ, tt_b, int_i, str_s, rs_r, Option.isSome_some, Option.getD_some, decide_eq_true_eq, decide_eq_false_iff_not, dS_eS, dC_eC, dU_eU, dW_eW, dY_eY, eC_0, eC_1, eU_0, eU_1, eW_0, eW_1, eW_2, eY_0, eY_1, eS_0, eS_1, eS_2, eS_3, eS_4, eS_5, List.length_map, i_inj, b_inj, s_inj, eC_eq, eU_eq, eW_eq, eY_eq, eS_eq, rng64, List.take_succ_cons, List.take_zero, List.nil_append, List.cons_append, decide_true, decide_false, Bool.or_true, true_and, and_true, hok, Bool.false_eq_true, if_false]
  have hok : okR validR vcR s r = true := by simpa using hb
  have hc : GcQ s r := ⟨hok, hsm⟩
  have hv := hc.vg
  obtain ⟨z1, z2, z3, z4, z5, z6, z7⟩ := small_parts hsm
  obtain ⟨hval, hvr, htp, hms⟩ := okR_parts hok
  have hmkd := hc.mkd
  have hol := on_len s r
  have hbq := bq_on hv
  simp only [hok, if_true]
  generalize hf : Mk s r = f at *
  have hmov : ∀ c, Gce s c → gMov [.r ((onOf s r).map D.b), eC c] = some [eC (mvC f c)] := fun c h => by rw [← hf]; exact hc.mov h
  have hbef : ∀ a, a ≤ s.cs.length → gBef [.r ((onOf s r).map D.b), .i ((a : Nat) : Int)] = some [.i (bef f a : Nat)] := fun a h => by rw [← hf]; exact hc.bef h
  have hold : ∀ i, i < s.tr.length → Gce s (s.tr.getD i default).old ∧ 0 ≤ (s.tr.getD i default).at' ∧ (s.tr.getD i default).at' < s.cs.length := fun i hi => by
    have := hv.old _ (getD_mem hi)
    exact ⟨this.2.2, this.1, this.2.1⟩
  rw [q00]
  refine ⟨by simp only [q00, go_br, q01, q02, allSay, X.says, X.ev, X.evs, evl, tblS, List.getD_cons_zero, List.getD_cons_succ, List.getElem?_cons_zero, List.getElem?_cons_succ, tt_b, int_i, str_s, rs_r, Option.isSome_some, Option.getD_some, decide_eq_true_eq, decide_eq_false_iff_not, dS_eS, dC_eC, dU_eU, dW_eW, dY_eY, eC_0, eC_1, eU_0, eU_1, eW_0, eW_1, eW_2, eY_0, eY_1, eS_0, eS_1, eS_2, eS_3, eS_4, eS_5, List.length_map, i_inj, b_inj, s_inj, eC_eq, eU_eq, eW_eq, eY_eq, eS_eq, rng64, List.take_succ_cons, List.take_zero, List.nil_append, List.cons_append, decide_true, decide_false, Bool.or_true, true_and, and_true, hmkd], ?_⟩
  -- the cells
  refine acc1_ok s.cs.length (fun k => .r ((heapF f s k).map eC)) rfl fun k B' hk hB _ => ?_
  have hhl := heapF_len f s k
  have hbl := bef_le f k
  rw [go_br]
  refine ⟨fun hlt => ?_, fun hlt => ?_⟩
  · have hkl : k < s.cs.length := by simpa [X.ev, evl, eS_0, D.int, D.rs, D.tt] using hlt
    have hin : inS s (k : Nat) = true := inS_iff.2 ⟨by omega, by omega⟩
    have hcell := cell_get hin
    have hget := get_b (on := onOf s r) (a := k) (by omega)
    rw [hbq] at hget
    have hs := hB hkl
    rw [heapF_succ] at hs
    rw [q00]
    refine ⟨by simp only [q00, go_br, q01, q02, allSay, X.says, X.ev, X.evs, evl, tblS, List.getD_cons_zero, List.getD_cons_succ, List.getElem?_cons_zero, List.getElem?_cons_succ, tt_b, int_i, str_s, rs_r, Option.isSome_some, Option.getD_some, decide_eq_true_eq, decide_eq_false_iff_not, dS_eS, dC_eC, dU_eU, dW_eW, dY_eY, eC_0, eC_1, eU_0, eU_1, eW_0, eW_1, eW_2, eY_0, eY_1, eS_0, eS_1, eS_2, eS_3, eS_4, eS_5, List.length_map, i_inj, b_inj, s_inj, eC_eq, eU_eq, eW_eq, eY_eq, eS_eq, rng64, List.take_succ_cons, List.take_zero, List.nil_append, List.cons_append, decide_true, decide_false, Bool.or_true, true_and, and_true, hmkd]; omega, ?_⟩
    rw [go_br]
    simp only [X.ev, X.evs, evl, tblS, List.take_succ_cons, List.take_zero, List.cons_append, List.nil_append, List.getD_cons_succ, List.getD_cons_zero, List.getElem?_cons_zero, List.getElem?_cons_succ, hmkd, Option.getD_some, int_i, hget, tt_b]
    refine ⟨fun hb => ?_, fun hb => ?_⟩
    · rw [app_if _ _ _ _ hb] at hs
      have := hmov _ (hv.cell k hkl)
      simp only [q00, go_br, q01, q02, allSay, X.says, X.ev, X.evs, evl, tblS, List.getD_cons_zero, List.getD_cons_succ, List.getElem?_cons_zero, List.getElem?_cons_succ, tt_b, int_i, str_s, rs_r, Option.isSome_some, Option.getD_some, decide_eq_true_eq, decide_eq_false_iff_not, dS_eS, dC_eC, dU_eU, dW_eW, dY_eY, eC_0, eC_1, eU_0, eU_1, eW_0, eW_1, eW_2, eY_0, eY_1, eS_0, eS_1, eS_2, eS_3, eS_4, eS_5, List.length_map, i_inj, b_inj, s_inj, eC_eq, eU_eq, eW_eq, eY_eq, eS_eq, rng64, List.take_succ_cons, List.take_zero, List.nil_append, List.cons_append, decide_true, decide_false, Bool.or_true, true_and, and_true, hmkd, hcell, this]
      and_intros <;> first | omega | exact hs
    · rw [app_if0 _ _ _ _ hb] at hs
      simp only [q00, go_br, q01, q02, allSay, X.says, X.ev, X.evs, evl, tblS, List.getD_cons_zero, List.getD_cons_succ, List.getElem?_cons_zero, List.getElem?_cons_succ, tt_b, int_i, str_s, rs_r, Option.isSome_some, Option.getD_some, decide_eq_true_eq, decide_eq_false_iff_not, dS_eS, dC_eC, dU_eU, dW_eW, dY_eY, eC_0, eC_1, eU_0, eU_1, eW_0, eW_1, eW_2, eY_0, eY_1, eS_0, eS_1, eS_2, eS_3, eS_4, eS_5, List.length_map, i_inj, b_inj, s_inj, eC_eq, eU_eq, eW_eq, eY_eq, eS_eq, rng64, List.take_succ_cons, List.take_zero, List.nil_append, List.cons_append, decide_true, decide_false, Bool.or_true, true_and, and_true]
      and_intros <;> first | omega | exact hs
  have hkk : k = s.cs.length := by
    have : ¬ (k < s.cs.length) := by simpa [X.ev, evl, eS_0, D.int, D.rs, D.tt] using hlt
    omega
  subst hkk
  simp only [List.take_succ_cons, List.take_zero, List.cons_append, List.nil_append]
  -- the marks
  refine acc1_ok r.ms.length (fun k => .r (((r.ms.take k).map fun t => ((keptF f s t.toNat : Nat) : Int)).map D.i)) rfl fun k B' hk hB _ => ?_
  rw [go_br]
  refine ⟨fun hlt => ?_, fun hlt => ?_⟩
  · have hkl : k < r.ms.length := by simpa [X.ev, evl, eR_2, D.int, D.rs, D.tt] using hlt
    have hmk := hms _ (getD_mem hkl)
    obtain ⟨a, ha⟩ := Int.eq_ofNat_of_zero_le hmk.1
    have hal : a ≤ s.tr.length := by omega
    have hs := hB hkl
    rw [take_map_succ _ hkl, ha, Int.toNat_natCast] at hs
    have htl := List.length_take_le k r.ms
    simp only [List.take_succ_cons, List.take_zero, List.cons_append, List.nil_append]
    refine acc1_ok a (fun j => .i (keptF f s j : Nat)) rfl fun j B2 hj hB2 hB3 => ?_
    have hkept := keptF_le f s j
    rw [q00]
    refine ⟨by simp only [q00, go_br, q01, q02, allSay, X.says, X.ev, X.evs, evl, tblS, List.getD_cons_zero, List.getD_cons_succ, List.getElem?_cons_zero, List.getElem?_cons_succ, tt_b, int_i, str_s, rs_r, Option.isSome_some, Option.getD_some, decide_eq_true_eq, decide_eq_false_iff_not, dS_eS, dC_eC, dU_eU, dW_eW, dY_eY, eC_0, eC_1, eU_0, eU_1, eW_0, eW_1, eW_2, eY_0, eY_1, eS_0, eS_1, eS_2, eS_3, eS_4, eS_5, List.length_map, i_inj, b_inj, s_inj, eC_eq, eU_eq, eW_eq, eY_eq, eS_eq, rng64, List.take_succ_cons, List.take_zero, List.nil_append, List.cons_append, decide_true, decide_false, Bool.or_true, true_and, and_true, eR_2]; omega, ?_⟩
    rw [go_br]
    refine ⟨fun hlt => ?_, fun hlt => ?_⟩
    · have hjl : j < a := by
        simp only [q00, go_br, q01, q02, allSay, X.says, X.ev, X.evs, evl, tblS, List.getD_cons_zero, List.getD_cons_succ, List.getElem?_cons_zero, List.getElem?_cons_succ, tt_b, int_i, str_s, rs_r, Option.isSome_some, Option.getD_some, decide_eq_true_eq, decide_eq_false_iff_not, dS_eS, dC_eC, dU_eU, dW_eW, dY_eY, eC_0, eC_1, eU_0, eU_1, eW_0, eW_1, eW_2, eY_0, eY_1, eS_0, eS_1, eS_2, eS_3, eS_4, eS_5, List.length_map, i_inj, b_inj, s_inj, eC_eq, eU_eq, eW_eq, eY_eq, eS_eq, rng64, List.take_succ_cons, List.take_zero, List.nil_append, List.cons_append, decide_true, decide_false, Bool.or_true, true_and, and_true, eR_2, get_i hkl, ha] at hlt
        omega
      obtain ⟨ho, ha0, ha1⟩ := hold j (by omega)
      obtain ⟨b, hb⟩ := Int.eq_ofNat_of_zero_le ha0
      have hget := get_b (on := onOf s r) (a := b) (by omega)
      rw [hbq] at hget
      have hs2 := hB2 hjl
      rw [keptF_succ (by omega), onTr, hb, Int.toNat_natCast] at hs2
      rw [q00]
      refine ⟨by simp only [q00, go_br, q01, q02, allSay, X.says, X.ev, X.evs, evl, tblS, List.getD_cons_zero, List.getD_cons_succ, List.getElem?_cons_zero, List.getElem?_cons_succ, tt_b, int_i, str_s, rs_r, Option.isSome_some, Option.getD_some, decide_eq_true_eq, decide_eq_false_iff_not, dS_eS, dC_eC, dU_eU, dW_eW, dY_eY, eC_0, eC_1, eU_0, eU_1, eW_0, eW_1, eW_2, eY_0, eY_1, eS_0, eS_1, eS_2, eS_3, eS_4, eS_5, List.length_map, i_inj, b_inj, s_inj, eC_eq, eU_eq, eW_eq, eY_eq, eS_eq, rng64, List.take_succ_cons, List.take_zero, List.nil_append, List.cons_append, decide_true, decide_false, Bool.or_true, true_and, and_true, get_n eU (show j < s.tr.length by omega), hmkd, hb]; omega, ?_⟩
      rw [go_br]
      simp only [X.ev, X.evs, evl, tblS, List.take_succ_cons, List.take_zero, List.cons_append, List.nil_append, List.getD_cons_succ, List.getD_cons_zero, List.getElem?_cons_zero, List.getElem?_cons_succ, hmkd, Option.getD_some, int_i, eS_2, get_n eU (show j < s.tr.length by omega), eU_0, hb, hget, tt_b]
      refine ⟨fun hf1 => ?_, fun hf1 => ?_⟩
      · rw [hf1, if_pos rfl] at hs2
        simp only [q00, go_br, q01, q02, allSay, X.says, X.ev, X.evs, evl, tblS, List.getD_cons_zero, List.getD_cons_succ, List.getElem?_cons_zero, List.getElem?_cons_succ, tt_b, int_i, str_s, rs_r, Option.isSome_some, Option.getD_some, decide_eq_true_eq, decide_eq_false_iff_not, dS_eS, dC_eC, dU_eU, dW_eW, dY_eY, eC_0, eC_1, eU_0, eU_1, eW_0, eW_1, eW_2, eY_0, eY_1, eS_0, eS_1, eS_2, eS_3, eS_4, eS_5, List.length_map, i_inj, b_inj, s_inj, eC_eq, eU_eq, eW_eq, eY_eq, eS_eq, rng64, List.take_succ_cons, List.take_zero, List.nil_append, List.cons_append, decide_true, decide_false, Bool.or_true, true_and, and_true]
        refine ⟨⟨by omega, by omega⟩, ⟨by omega, by omega⟩, ?_⟩
        exact_mod_cast hs2
      · rw [hf1] at hs2
        simp only [q00, go_br, q01, q02, allSay, X.says, X.ev, X.evs, evl, tblS, List.getD_cons_zero, List.getD_cons_succ, List.getElem?_cons_zero, List.getElem?_cons_succ, tt_b, int_i, str_s, rs_r, Option.isSome_some, Option.getD_some, decide_eq_true_eq, decide_eq_false_iff_not, dS_eS, dC_eC, dU_eU, dW_eW, dY_eY, eC_0, eC_1, eU_0, eU_1, eW_0, eW_1, eW_2, eY_0, eY_1, eS_0, eS_1, eS_2, eS_3, eS_4, eS_5, List.length_map, i_inj, b_inj, s_inj, eC_eq, eU_eq, eW_eq, eY_eq, eS_eq, rng64, List.take_succ_cons, List.take_zero, List.nil_append, List.cons_append, decide_true, decide_false, Bool.or_true, true_and, and_true]
        refine ⟨⟨by omega, by omega⟩, ?_⟩
        exact_mod_cast hs2
    · have hja : j = a := by
        simp only [q00, go_br, q01, q02, allSay, X.says, X.ev, X.evs, evl, tblS, List.getD_cons_zero, List.getD_cons_succ, List.getElem?_cons_zero, List.getElem?_cons_succ, tt_b, int_i, str_s, rs_r, Option.isSome_some, Option.getD_some, decide_eq_true_eq, decide_eq_false_iff_not, dS_eS, dC_eC, dU_eU, dW_eW, dY_eY, eC_0, eC_1, eU_0, eU_1, eW_0, eW_1, eW_2, eY_0, eY_1, eS_0, eS_1, eS_2, eS_3, eS_4, eS_5, List.length_map, i_inj, b_inj, s_inj, eC_eq, eU_eq, eW_eq, eY_eq, eS_eq, rng64, List.take_succ_cons, List.take_zero, List.nil_append, List.cons_append, decide_true, decide_false, Bool.or_true, true_and, and_true, eR_2, get_i hkl, ha] at hlt
        omega
      subst hja
      simp only [q00, go_br, q01, q02, allSay, X.says, X.ev, X.evs, evl, tblS, List.getD_cons_zero, List.getD_cons_succ, List.getElem?_cons_zero, List.getElem?_cons_succ, tt_b, int_i, str_s, rs_r, Option.isSome_some, Option.getD_some, decide_eq_true_eq, decide_eq_false_iff_not, dS_eS, dC_eC, dU_eU, dW_eW, dY_eY, eC_0, eC_1, eU_0, eU_1, eW_0, eW_1, eW_2, eY_0, eY_1, eS_0, eS_1, eS_2, eS_3, eS_4, eS_5, List.length_map, i_inj, b_inj, s_inj, eC_eq, eU_eq, eW_eq, eY_eq, eS_eq, rng64, List.take_succ_cons, List.take_zero, List.nil_append, List.cons_append, decide_true, decide_false, Bool.or_true, true_and, and_true, List.length_map]
      rw [hB3 12 (by decide)]
      rw [List.map_append] at hs
      and_intros <;> first | omega | exact hs
  have hkk : k = r.ms.length := by
    have : ¬ (k < r.ms.length) := by simpa [X.ev, evl, eR_2, D.int, D.rs, D.tt] using hlt
    omega
  subst hkk
  simp only [List.take_succ_cons, List.take_zero, List.cons_append, List.nil_append, List.take_length]
  -- the trail
  refine acc1_ok s.tr.length (fun k => .r ((trailF f s k).map eU)) rfl fun k B' hk hB _ => ?_
  have htrl := trailF_len f s k
  have hkl2 := keptF_le f s k
  rw [go_br]
  refine ⟨fun hlt => ?_, fun hlt => ?_⟩
  · have hkl : k < s.tr.length := by simpa [X.ev, evl, eS_2, D.int, D.rs, D.tt] using hlt
    obtain ⟨ho, ha0, ha1⟩ := hold k hkl
    obtain ⟨b, hb⟩ := Int.eq_ofNat_of_zero_le ha0
    have hget := get_b (on := onOf s r) (a := b) (by omega)
    rw [hbq] at hget
    have hs := hB hkl
    rw [trailF_succ hkl, onTr, hb, Int.toNat_natCast] at hs
    rw [q00]
    refine ⟨by simp only [q00, go_br, q01, q02, allSay, X.says, X.ev, X.evs, evl, tblS, List.getD_cons_zero, List.getD_cons_succ, List.getElem?_cons_zero, List.getElem?_cons_succ, tt_b, int_i, str_s, rs_r, Option.isSome_some, Option.getD_some, decide_eq_true_eq, decide_eq_false_iff_not, dS_eS, dC_eC, dU_eU, dW_eW, dY_eY, eC_0, eC_1, eU_0, eU_1, eW_0, eW_1, eW_2, eY_0, eY_1, eS_0, eS_1, eS_2, eS_3, eS_4, eS_5, List.length_map, i_inj, b_inj, s_inj, eC_eq, eU_eq, eW_eq, eY_eq, eS_eq, rng64, List.take_succ_cons, List.take_zero, List.nil_append, List.cons_append, decide_true, decide_false, Bool.or_true, true_and, and_true, get_n eU hkl, hmkd, hb]; omega, ?_⟩
    rw [q00]
    refine ⟨by simp only [q00, go_br, q01, q02, allSay, X.says, X.ev, X.evs, evl, tblS, List.getD_cons_zero, List.getD_cons_succ, List.getElem?_cons_zero, List.getElem?_cons_succ, tt_b, int_i, str_s, rs_r, Option.isSome_some, Option.getD_some, decide_eq_true_eq, decide_eq_false_iff_not, dS_eS, dC_eC, dU_eU, dW_eW, dY_eY, eC_0, eC_1, eU_0, eU_1, eW_0, eW_1, eW_2, eY_0, eY_1, eS_0, eS_1, eS_2, eS_3, eS_4, eS_5, List.length_map, i_inj, b_inj, s_inj, eC_eq, eU_eq, eW_eq, eY_eq, eS_eq, rng64, List.take_succ_cons, List.take_zero, List.nil_append, List.cons_append, decide_true, decide_false, Bool.or_true, true_and, and_true, get_n eU hkl, hmkd, hb]; omega, ?_⟩
    rw [go_br]
    simp only [X.ev, X.evs, evl, tblS, List.take_succ_cons, List.take_zero, List.cons_append, List.nil_append, List.getD_cons_succ, List.getD_cons_zero, List.getElem?_cons_zero, List.getElem?_cons_succ, hmkd, Option.getD_some, int_i, eS_2, get_n eU hkl, eU_0, hb, hget, tt_b]
    refine ⟨fun hf1 => ?_, fun hf1 => ?_⟩
    · rw [app_if _ _ _ _ hf1, mvU, hb, Int.toNat_natCast] at hs
      have h1 := hmov _ ho
      have h2 := hbef b (by omega)
      simp only [q00, go_br, q01, q02, allSay, X.says, X.ev, X.evs, evl, tblS, List.getD_cons_zero, List.getD_cons_succ, List.getElem?_cons_zero, List.getElem?_cons_succ, tt_b, int_i, str_s, rs_r, Option.isSome_some, Option.getD_some, decide_eq_true_eq, decide_eq_false_iff_not, dS_eS, dC_eC, dU_eU, dW_eW, dY_eY, eC_0, eC_1, eU_0, eU_1, eW_0, eW_1, eW_2, eY_0, eY_1, eS_0, eS_1, eS_2, eS_3, eS_4, eS_5, List.length_map, i_inj, b_inj, s_inj, eC_eq, eU_eq, eW_eq, eY_eq, eS_eq, rng64, List.take_succ_cons, List.take_zero, List.nil_append, List.cons_append, decide_true, decide_false, Bool.or_true, true_and, and_true, hmkd, get_n eU hkl, hb, h1, h2]
      and_intros <;> first | omega | exact hs
    · rw [app_if0 _ _ _ _ hf1] at hs
      simp only [q00, go_br, q01, q02, allSay, X.says, X.ev, X.evs, evl, tblS, List.getD_cons_zero, List.getD_cons_succ, List.getElem?_cons_zero, List.getElem?_cons_succ, tt_b, int_i, str_s, rs_r, Option.isSome_some, Option.getD_some, decide_eq_true_eq, decide_eq_false_iff_not, dS_eS, dC_eC, dU_eU, dW_eW, dY_eY, eC_0, eC_1, eU_0, eU_1, eW_0, eW_1, eW_2, eY_0, eY_1, eS_0, eS_1, eS_2, eS_3, eS_4, eS_5, List.length_map, i_inj, b_inj, s_inj, eC_eq, eU_eq, eW_eq, eY_eq, eS_eq, rng64, List.take_succ_cons, List.take_zero, List.nil_append, List.cons_append, decide_true, decide_false, Bool.or_true, true_and, and_true]
      and_intros <;> first | omega | exact hs
  have hkk : k = s.tr.length := by
    have : ¬ (k < s.tr.length) := by simpa [X.ev, evl, eS_2, D.int, D.rs, D.tt] using hlt
    omega
  subst hkk
  simp only [List.take_succ_cons, List.take_zero, List.cons_append, List.nil_append]
  -- the wakes
  refine acc1_ok s.wk.length (fun k => .r (((s.wk.take k).map (mvW f)).map eW)) rfl fun k B' hk hB _ => ?_
  rw [go_br]
  refine ⟨fun hlt => ?_, fun hlt => ?_⟩
  · have hkl : k < s.wk.length := by simpa [X.ev, evl, eS_3, D.int, D.rs, D.tt] using hlt
    have hm1 : (s.wk.getD k default).att ∈ rootsC s r := List.mem_append_right _ (List.mem_flatMap.2 ⟨_, getD_mem hkl, by simp⟩)
    have hm2 : (s.wk.getD k default).val ∈ rootsC s r := List.mem_append_right _ (List.mem_flatMap.2 ⟨_, getD_mem hkl, by simp⟩)
    have h1 := hmov _ (hv.root _ hm1)
    have h2 := hmov _ (hv.root _ hm2)
    have hs := hB hkl
    rw [take_map_succ _ hkl, List.map_append] at hs
    have htl := List.length_take_le k s.wk
    simp only [q00, go_br, q01, q02, allSay, X.says, X.ev, X.evs, evl, tblS, List.getD_cons_zero, List.getD_cons_succ, List.getElem?_cons_zero, List.getElem?_cons_succ, tt_b, int_i, str_s, rs_r, Option.isSome_some, Option.getD_some, decide_eq_true_eq, decide_eq_false_iff_not, dS_eS, dC_eC, dU_eU, dW_eW, dY_eY, eC_0, eC_1, eU_0, eU_1, eW_0, eW_1, eW_2, eY_0, eY_1, eS_0, eS_1, eS_2, eS_3, eS_4, eS_5, List.length_map, i_inj, b_inj, s_inj, eC_eq, eU_eq, eW_eq, eY_eq, eS_eq, rng64, List.take_succ_cons, List.take_zero, List.nil_append, List.cons_append, decide_true, decide_false, Bool.or_true, true_and, and_true, get_n eW hkl, hmkd, h1, h2]
    and_intros <;> first | omega | exact hs
  have hkk : k = s.wk.length := by
    have : ¬ (k < s.wk.length) := by simpa [X.ev, evl, eS_3, D.int, D.rs, D.tt] using hlt
    omega
  subst hkk
  simp only [List.take_succ_cons, List.take_zero, List.cons_append, List.nil_append, List.take_length]
  -- the roots' cells
  refine acc1_ok r.cs.length (fun k => .r (((r.cs.take k).map (mvC f)).map eC)) rfl fun k B' hk hB _ => ?_
  rw [go_br]
  refine ⟨fun hlt => ?_, fun hlt => ?_⟩
  · have hkl : k < r.cs.length := by simpa [X.ev, evl, eR_0, D.int, D.rs, D.tt] using hlt
    have h1 := hmov _ (hv.root _ (List.mem_append_left _ (getD_mem hkl)))
    have hs := hB hkl
    rw [take_map_succ _ hkl, List.map_append] at hs
    have htl := List.length_take_le k r.cs
    simp only [q00, go_br, q01, q02, allSay, X.says, X.ev, X.evs, evl, tblS, List.getD_cons_zero, List.getD_cons_succ, List.getElem?_cons_zero, List.getElem?_cons_succ, tt_b, int_i, str_s, rs_r, Option.isSome_some, Option.getD_some, decide_eq_true_eq, decide_eq_false_iff_not, dS_eS, dC_eC, dU_eU, dW_eW, dY_eY, eC_0, eC_1, eU_0, eU_1, eW_0, eW_1, eW_2, eY_0, eY_1, eS_0, eS_1, eS_2, eS_3, eS_4, eS_5, List.length_map, i_inj, b_inj, s_inj, eC_eq, eU_eq, eW_eq, eY_eq, eS_eq, rng64, List.take_succ_cons, List.take_zero, List.nil_append, List.cons_append, decide_true, decide_false, Bool.or_true, true_and, and_true, eR_0, get_n eC hkl, hmkd, h1]
    and_intros <;> first | omega | exact hs
  have hkk : k = r.cs.length := by
    have : ¬ (k < r.cs.length) := by simpa [X.ev, evl, eR_0, D.int, D.rs, D.tt] using hlt
    omega
  subst hkk
  simp only [List.take_succ_cons, List.take_zero, List.cons_append, List.nil_append, List.take_length]
  -- the tops
  refine acc1_ok r.tp.length (fun k => .r (((r.tp.take k).map fun t => ((bef f t.toNat : Nat) : Int)).map D.i)) rfl fun k B' hk hB _ => ?_
  rw [go_br]
  refine ⟨fun hlt => ?_, fun hlt => ?_⟩
  · have hkl : k < r.tp.length := by simpa [X.ev, evl, eR_1, D.int, D.rs, D.tt] using hlt
    have hmk := htp _ (getD_mem hkl)
    obtain ⟨a, ha⟩ := Int.eq_ofNat_of_zero_le hmk.1
    have h1 := hbef a (by omega)
    have hs := hB hkl
    rw [take_map_succ _ hkl, List.map_append, ha, Int.toNat_natCast] at hs
    have htl := List.length_take_le k r.tp
    simp only [q00, go_br, q01, q02, allSay, X.says, X.ev, X.evs, evl, tblS, List.getD_cons_zero, List.getD_cons_succ, List.getElem?_cons_zero, List.getElem?_cons_succ, tt_b, int_i, str_s, rs_r, Option.isSome_some, Option.getD_some, decide_eq_true_eq, decide_eq_false_iff_not, dS_eS, dC_eC, dU_eU, dW_eW, dY_eY, eC_0, eC_1, eU_0, eU_1, eW_0, eW_1, eW_2, eY_0, eY_1, eS_0, eS_1, eS_2, eS_3, eS_4, eS_5, List.length_map, i_inj, b_inj, s_inj, eC_eq, eU_eq, eW_eq, eY_eq, eS_eq, rng64, List.take_succ_cons, List.take_zero, List.nil_append, List.cons_append, decide_true, decide_false, Bool.or_true, true_and, and_true, eR_1, get_i hkl, ha, hmkd, h1]
    and_intros <;> first | omega | exact hs
  have hkk : k = r.tp.length := by
    have : ¬ (k < r.tp.length) := by simpa [X.ev, evl, eR_1, D.int, D.rs, D.tt] using hlt
    omega
  subst hkk
  simp only [List.take_succ_cons, List.take_zero, List.cons_append, List.nil_append, List.take_length]
  rfl
end Go.Proofs.Ytmebmpgffhajbaa


namespace Go.Proofs.Ytmebmpgffhajbaa
open Go.RowKit
set_option linter.unusedVariables false
set_option linter.unusedSimpArgs false

theorem acc3_ok {S : Nat → List D → Option (List D)} {R : List D → Prop} {id n : Nat} {x1 x2 : X} {body : Tree} {l : List D} {B : Nat → List D → Prop} (N : Nat) (F G : Nat → D) (h0 : x1.ev (evl S l) = F 0) (h1 : x2.ev (evl S l) = G 0)
    (h : ∀ (k : Nat) (B' : Nat → List D → Prop), k ≤ N → (k < N → B' id [F (k + 1), .i ((k : Int) + 1), G (k + 1)]) → (∀ j, j ≠ id → B' j = B j) → body.go S R (l.take n ++ [F k, .i k, G k]) B') : (Tree.loop id n [x1, .lit (.i 0), x2] body).go S R l B := by
  rw [q1p]
  refine ⟨fun st => ∃ k : Nat, k ≤ N ∧ st = [F k, .i k, G k], fun st => N - (st.getD 1 .u).int.toNat, ⟨0, Nat.zero_le _, by simp [X.evs, X.ev, h0, h1]⟩, ?_⟩
  rintro st - ⟨k, hk, rfl⟩
  refine h k _ hk (fun hlt => ?_) fun j hj => by rw [updB, if_neg hj]
  rw [updB, if_pos rfl]
  refine ⟨⟨k + 1, hlt, by simp⟩, ?_⟩
  simp [D.int]
  omega

noncomputable def wdOf (s : So) (r : Ro) : List Nat := wordsOf (s.cs.length / 64 + 1) (Mk s r)
theorem GcQ.mark {s : So} {r : Ro} (h : GcQ s r) : gMark [eS s, eR r] = some [.r ((wdOf s r).map eN)] := by
  simp only [gMark, dS_eS, dR_eR, h.ok, h.sm, Bool.and_self, if_true]
  rfl
theorem GcQ.has {s : So} {r : Ro} (h : GcQ s r) {a : Nat} (ha : a < s.cs.length) : gHas [.r ((wdOf s r).map eN), .i (a : Int)] = some [.b (Mk s r a)] := by
  have hl : (wdOf s r).length = s.cs.length / 64 + 1 := words_len _ _
  have h2 : a / 64 < s.cs.length / 64 + 1 := by omega
  simp only [gHas, mN, List.length_map, hl, Int.toNat_natCast, h2, decide_true, Bool.and_true, show decide ((0 : Int) ≤ (a : Int)) = true from decide_eq_true (by omega), if_true]
  rw [wdOf, words_bit h2]

theorem ok_gc_Live : FOk q17 gLive := fok_gc_Live ok_gc_Valid ok_gc_mark q35 fun ds outs hw hg => by
  obtain ⟨s, r, rfl, hs, hr⟩ := sr_of hw
  simp only [gLive, dS_eS, dR_eR, Option.ite_none_right_eq_some, Option.some.injEq] at hg
  obtain ⟨hsm, rfl⟩ := hg
  obtain ⟨z1, z2, z3, z4, z5, z6, z7⟩ := small_parts hsm
  rw [q2y, q00]
  refine ⟨by simp only [q00, go_br, q01, q02, allSay, X.says, X.ev, X.evs, evl, tblS, List.getD_cons_zero, List.getD_cons_succ, List.getElem?_cons_zero, List.getElem?_cons_succ, tt_b, int_i, str_s, rs_r, Option.isSome_some, Option.getD_some, decide_eq_true_eq, decide_eq_false_iff_not, dS_eS, dC_eC, dU_eU, dW_eW, dY_eY, eC_0, eC_1, eU_0, eU_1, eW_0, eW_1, eW_2, eY_0, eY_1, eS_0, eS_1, eS_2, eS_3, eS_4, eS_5, List.length_map, i_inj, b_inj, s_inj, eC_eq, eU_eq, eW_eq, eY_eq, eS_eq, rng64, List.take_succ_cons, List.take_zero, List.nil_append, List.cons_append, decide_true, decide_false, Bool.or_true, true_and, and_true, gSRb], ?_⟩
  rw [go_br]
  simp only [X.ev, X.evs, evl, tblS, List.getD_cons_zero, List.getElem?_cons_zero, gSRb, dS_eS, dR_eR, tt_b, Option.getD_some, List.getD_cons_succ, okR_eq]
  refine ⟨fun hb => ?_, fun hb => ?_⟩
  · have hok : okR validR vcR s r = false := by simpa using hb
    simp only [q00, go_br, q01, q02, allSay, X.says, X.ev, X.evs, evl, tblS, List.getD_cons_zero, List.getD_cons_succ, List.getElem?_cons_zero, List.getElem?_cons_succ, tt_b, int_i, str_s, rs_r, Option.isSome_some, Option.getD_some, decide_eq_true_eq, decide_eq_false_iff_not, dS_eS, dC_eC, dU_eU, dW_eW, dY_eY, eC_0, eC_1, eU_0, eU_1, eW_0, eW_1, eW_2, eY_0, eY_1, eS_0, eS_1, eS_2, eS_3, eS_4, eS_5, List.length_map, i_inj, b_inj, s_inj, eC_eq, eU_eq, eW_eq, eY_eq, eS_eq, rng64, List.take_succ_cons, List.take_zero, List.nil_append, List.cons_append, decide_true, decide_false, Bool.or_true, true_and, and_true, hok, Bool.false_eq_true, if_false]
  · have hok : okR validR vcR s r = true := by simpa using hb
    have hc : GcQ s r := ⟨hok, hsm⟩
    have hmk := hc.mark
    simp only [hok, if_true]
    rw [q00]
    refine ⟨by simp only [q00, go_br, q01, q02, allSay, X.says, X.ev, X.evs, evl, tblS, List.getD_cons_zero, List.getD_cons_succ, List.getElem?_cons_zero, List.getElem?_cons_succ, tt_b, int_i, str_s, rs_r, Option.isSome_some, Option.getD_some, decide_eq_true_eq, decide_eq_false_iff_not, dS_eS, dC_eC, dU_eU, dW_eW, dY_eY, eC_0, eC_1, eU_0, eU_1, eW_0, eW_1, eW_2, eY_0, eY_1, eS_0, eS_1, eS_2, eS_3, eS_4, eS_5, List.length_map, i_inj, b_inj, s_inj, eC_eq, eU_eq, eW_eq, eY_eq, eS_eq, rng64, List.take_succ_cons, List.take_zero, List.nil_append, List.cons_append, decide_true, decide_false, Bool.or_true, true_and, and_true, hmk], ?_⟩
    refine acc1_ok s.cs.length (fun k => .i (bef (Mk s r) k : Nat)) rfl fun k B' hk hB _ => ?_
    have hbl := bef_le (Mk s r) k
    rw [go_br]
    refine ⟨fun hlt => ?_, fun hlt => ?_⟩
    · have hkl : k < s.cs.length := by simpa [X.ev, evl, eS_0, D.int, D.rs, D.tt] using hlt
      have hhas := hc.has hkl
      have hs2 := hB hkl
      unfold bef at hs2
      rw [q00]
      refine ⟨by simp only [q00, go_br, q01, q02, allSay, X.says, X.ev, X.evs, evl, tblS, List.getD_cons_zero, List.getD_cons_succ, List.getElem?_cons_zero, List.getElem?_cons_succ, tt_b, int_i, str_s, rs_r, Option.isSome_some, Option.getD_some, decide_eq_true_eq, decide_eq_false_iff_not, dS_eS, dC_eC, dU_eU, dW_eW, dY_eY, eC_0, eC_1, eU_0, eU_1, eW_0, eW_1, eW_2, eY_0, eY_1, eS_0, eS_1, eS_2, eS_3, eS_4, eS_5, List.length_map, i_inj, b_inj, s_inj, eC_eq, eU_eq, eW_eq, eY_eq, eS_eq, rng64, List.take_succ_cons, List.take_zero, List.nil_append, List.cons_append, decide_true, decide_false, Bool.or_true, true_and, and_true, hmk, hhas], ?_⟩
      rw [go_br]
      simp only [X.ev, X.evs, evl, tblS, List.take_succ_cons, List.take_zero, List.cons_append, List.nil_append, List.getD_cons_succ, List.getD_cons_zero, List.getElem?_cons_zero, List.getElem?_cons_succ, hmk, Option.getD_some, hhas, tt_b]
      refine ⟨fun hf1 => ?_, fun hf1 => ?_⟩
      · rw [hf1, if_pos rfl] at hs2
        simp only [q00, go_br, q01, q02, allSay, X.says, X.ev, X.evs, evl, tblS, List.getD_cons_zero, List.getD_cons_succ, List.getElem?_cons_zero, List.getElem?_cons_succ, tt_b, int_i, str_s, rs_r, Option.isSome_some, Option.getD_some, decide_eq_true_eq, decide_eq_false_iff_not, dS_eS, dC_eC, dU_eU, dW_eW, dY_eY, eC_0, eC_1, eU_0, eU_1, eW_0, eW_1, eW_2, eY_0, eY_1, eS_0, eS_1, eS_2, eS_3, eS_4, eS_5, List.length_map, i_inj, b_inj, s_inj, eC_eq, eU_eq, eW_eq, eY_eq, eS_eq, rng64, List.take_succ_cons, List.take_zero, List.nil_append, List.cons_append, decide_true, decide_false, Bool.or_true, true_and, and_true]
        refine ⟨⟨by omega, by omega⟩, ⟨by omega, by omega⟩, ?_⟩
        exact_mod_cast hs2
      · rw [hf1] at hs2
        simp only [q00, go_br, q01, q02, allSay, X.says, X.ev, X.evs, evl, tblS, List.getD_cons_zero, List.getD_cons_succ, List.getElem?_cons_zero, List.getElem?_cons_succ, tt_b, int_i, str_s, rs_r, Option.isSome_some, Option.getD_some, decide_eq_true_eq, decide_eq_false_iff_not, dS_eS, dC_eC, dU_eU, dW_eW, dY_eY, eC_0, eC_1, eU_0, eU_1, eW_0, eW_1, eW_2, eY_0, eY_1, eS_0, eS_1, eS_2, eS_3, eS_4, eS_5, List.length_map, i_inj, b_inj, s_inj, eC_eq, eU_eq, eW_eq, eY_eq, eS_eq, rng64, List.take_succ_cons, List.take_zero, List.nil_append, List.cons_append, decide_true, decide_false, Bool.or_true, true_and, and_true]
        refine ⟨⟨by omega, by omega⟩, ?_⟩
        exact_mod_cast hs2
    · have hkk : k = s.cs.length := by
        have : ¬ (k < s.cs.length) := by simpa [X.ev, evl, eS_0, D.int, D.rs, D.tt] using hlt
        omega
      subst hkk
      simp only [q00, go_br, q01, q02, allSay, X.says, X.ev, X.evs, evl, tblS, List.getD_cons_zero, List.getD_cons_succ, List.getElem?_cons_zero, List.getElem?_cons_succ, tt_b, int_i, str_s, rs_r, Option.isSome_some, Option.getD_some, decide_eq_true_eq, decide_eq_false_iff_not, dS_eS, dC_eC, dU_eU, dW_eW, dY_eY, eC_0, eC_1, eU_0, eU_1, eW_0, eW_1, eW_2, eY_0, eY_1, eS_0, eS_1, eS_2, eS_3, eS_4, eS_5, List.length_map, i_inj, b_inj, s_inj, eC_eq, eU_eq, eW_eq, eY_eq, eS_eq, rng64, List.take_succ_cons, List.take_zero, List.nil_append, List.cons_append, decide_true, decide_false, Bool.or_true, true_and, and_true]

def toL (f : Nat → Nat) (n k : Nat) : List Int := (List.range (n + 1)).map fun i => if i ≤ k then (f i : Int) else 0
theorem toL_len (f : Nat → Nat) (n k : Nat) : (toL f n k).length = n + 1 := by simp [toL]
theorem toL_get {f : Nat → Nat} {n k i : Nat} (h : i < n + 1) : (toL f n k).getD i default = if i ≤ k then (f i : Int) else 0 := by
  unfold toL
  rw [List.getD_eq_getElem?_getD, List.getElem?_map, List.getElem?_range h]
  rfl
theorem toL_zero (f : Nat → Nat) (n : Nat) (h : f 0 = 0) : (toL f n 0).map D.i = List.replicate (n + 1) (.i 0) := by
  refine List.ext_getElem (by simp [toL]) fun i h1 h2 => ?_
  simp only [toL, List.map_map, List.getElem_map, List.getElem_range, Function.comp_def, List.getElem_replicate]
  congr 1
  split
  · obtain rfl : i = 0 := by omega
    rw [h]; rfl
  · rfl
theorem toL_set {f : Nat → Nat} {n k : Nat} (h : k < n) {v : Int} (hv : v = f (k + 1)) : (toL f n k).set (k + 1) v = toL f n (k + 1) := by
  subst hv
  refine List.ext_getElem (by simp [toL]) fun i h1 h2 => ?_
  simp only [toL, List.getElem_set, List.getElem_map, List.getElem_range]
  by_cases hi : k + 1 = i
  · subst hi
    simp
  · rw [if_neg hi]
    by_cases h3 : i ≤ k
    · rw [if_pos h3, if_pos (by omega)]
    · rw [if_neg h3, if_neg (by omega)]

def gMove : List D → Option (List D)
  | [c, .r to] => if (if (dC c).t = 0 ∨ (dC c).t = 3 ∨ (dC c).t = 5 then decide (0 ≤ (dC c).n) && decide ((dC c).n < to.length) else true) then some [eC (if (dC c).t = 0 ∨ (dC c).t = 3 ∨ (dC c).t = 5 then ⟨(dC c).t, (to.map D.int).getD (dC c).n.toNat default⟩ else dC c)] else none
  | _ => none
theorem ok_gc_Collect_1 : FOk q10 gMove := fok_gc_Collect_1 fun ds outs hw hg => by
  obtain ⟨d, r, rfl, hd, e, r', rfl, he, rfl⟩ := hw
  obtain ⟨c, rfl, hc⟩ := wfC hd
  obtain ⟨l, rfl, hl, hlc⟩ := wfIs he
  simp only [gMove, List.length_map, map_id' (fun _ => int_i _), dC_eC, Option.ite_none_right_eq_some, Option.some.injEq] at hg
  obtain ⟨hq, rfl⟩ := hg
  rw [q1z, go_br]
  simp only [q00, go_br, q01, q02, allSay, X.says, X.ev, X.evs, evl, tblS, List.getD_cons_zero, List.getD_cons_succ, List.getElem?_cons_zero, List.getElem?_cons_succ, tt_b, int_i, str_s, rs_r, Option.isSome_some, Option.getD_some, decide_eq_true_eq, decide_eq_false_iff_not, dS_eS, dC_eC, dU_eU, dW_eW, dY_eY, eC_0, eC_1, eU_0, eU_1, eW_0, eW_1, eW_2, eY_0, eY_1, eS_0, eS_1, eS_2, eS_3, eS_4, eS_5, List.length_map, i_inj, b_inj, s_inj, eC_eq, eU_eq, eW_eq, eY_eq, eS_eq, rng64, List.take_succ_cons, List.take_zero, List.nil_append, List.cons_append, decide_true, decide_false, Bool.or_true, true_and, and_true, tag3]
  refine ⟨fun ht => ?_, fun ht => ?_⟩
  · rw [if_pos ht, Bool.and_eq_true] at hq
    have hq : 0 ≤ c.n ∧ c.n < l.length := ⟨of_decide_eq_true hq.1, of_decide_eq_true hq.2⟩
    obtain ⟨a, ha⟩ := Int.eq_ofNat_of_zero_le hq.1
    have hg := get_i (l := l) (k := a) (by omega)
    rw [if_pos ht]
    rw [ha] at hq ⊢
    simp only [q00, go_br, q01, q02, allSay, X.says, X.ev, X.evs, evl, tblS, List.getD_cons_zero, List.getD_cons_succ, List.getElem?_cons_zero, List.getElem?_cons_succ, tt_b, int_i, str_s, rs_r, Option.isSome_some, Option.getD_some, decide_eq_true_eq, decide_eq_false_iff_not, dS_eS, dC_eC, dU_eU, dW_eW, dY_eY, eC_0, eC_1, eU_0, eU_1, eW_0, eW_1, eW_2, eY_0, eY_1, eS_0, eS_1, eS_2, eS_3, eS_4, eS_5, List.length_map, i_inj, b_inj, s_inj, eC_eq, eU_eq, eW_eq, eY_eq, eS_eq, rng64, List.take_succ_cons, List.take_zero, List.nil_append, List.cons_append, decide_true, decide_false, Bool.or_true, true_and, and_true, hg, Int.toNat_natCast]
    exact ⟨⟨by omega, by omega⟩, rfl⟩
  · rw [if_neg ht]
theorem gMove_at {f : Nat → Bool} {n : Nat} {c : Ce} (h : c.t = 0 ∨ c.t = 3 ∨ c.t = 5 → 0 ≤ c.n ∧ c.n ≤ n) : gMove [eC c, .r ((toL (bef f) n n).map D.i)] = some [eC (mvC f c)] := by
  simp only [gMove, List.length_map, map_id' (fun _ => int_i _), dC_eC, toL_len]
  by_cases ht : c.t = 0 ∨ c.t = 3 ∨ c.t = 5
  · obtain ⟨h0, h1⟩ := h ht
    rw [if_pos, if_pos ht, mvC, if_pos ht, toL_get (by omega), if_pos (by omega)]
    rw [if_pos ht, Bool.and_eq_true]
    exact ⟨decide_eq_true h0, decide_eq_true (by omega)⟩
  · rw [if_pos, if_neg ht, mvC, if_neg ht]
    rw [if_neg ht]

theorem eR_s0 (r : Ro) (l : List Ce) : D.a ((eR r).fs.set 0 (.r (l.map eC))) = eR { r with cs := l } := rfl
theorem eR_s1 (r : Ro) (l : List Int) : D.a ((eR r).fs.set 1 (.r (l.map D.i))) = eR { r with tp := l } := rfl
theorem eR_s2 (r : Ro) (l : List Int) : D.a ((eR r).fs.set 2 (.r (l.map D.i))) = eR { r with ms := l } := rfl

theorem ok_gc_Collect : FOk q0u gCol := fok_gc_Collect ok_gc_Collect_1 ok_gc_Valid ok_gc_mark q35 fun ds outs hw hg => by
  obtain ⟨s, r, rfl, hs, hr⟩ := sr_of hw
  simp only [gCol, dS_eS, dR_eR, Option.ite_none_right_eq_some, Option.some.injEq] at hg
  obtain ⟨hsm, rfl⟩ := hg
  rw [q26, q00]
  refine ⟨by simp only [q00, go_br, q01, q02, allSay, X.says, X.ev, X.evs, evl, tblS, List.getD_cons_zero, List.getD_cons_succ, List.getElem?_cons_zero, List.getElem?_cons_succ, tt_b, int_i, str_s, rs_r, Option.isSome_some, Option.getD_some, decide_eq_true_eq, decide_eq_false_iff_not, dS_eS, dC_eC, dU_eU, dW_eW, dY_eY, eC_0, eC_1, eU_0, eU_1, eW_0, eW_1, eW_2, eY_0, eY_1, eS_0, eS_1, eS_2, eS_3, eS_4, eS_5, List.length_map, i_inj, b_inj, s_inj, eC_eq, eU_eq, eW_eq, eY_eq, eS_eq, rng64, List.take_succ_cons, List.take_zero, List.nil_append, List.cons_append, decide_true, decide_false, Bool.or_true, true_and, and_true, gSRb], ?_⟩
  rw [go_br]
  simp only [X.ev, X.evs, evl, tblS, List.getD_cons_zero, List.getElem?_cons_zero, List.getElem?_cons_succ, gSRb, dS_eS, dR_eR, tt_b, Option.getD_some, List.getD_cons_succ, okR_eq]
  refine ⟨fun hb => ?_, fun hb => ?_⟩
  · have hok : okR validR vcR s r = false := by simpa using hb
    simp only [q00, go_br, q01, q02, allSay, X.says, X.ev, X.evs, evl, tblS, List.getD_cons_zero, List.getD_cons_succ, List.getElem?_cons_zero, List.getElem?_cons_succ, tt_b, int_i, str_s, rs_r, Option.isSome_some, Option.getD_some, decide_eq_true_eq, decide_eq_false_iff_not, dS_eS, dC_eC, dU_eU, dW_eW, dY_eY, eC_0, eC_1, eU_0, eU_1, eW_0, eW_1, eW_2, eY_0, eY_1, eS_0, eS_1, eS_2, eS_3, eS_4, eS_5, List.length_map, i_inj, b_inj, s_inj, eC_eq, eU_eq, eW_eq, eY_eq, eS_eq, rng64, List.take_succ_cons, List.take_zero, List.nil_append, List.cons_append, decide_true, decide_false, Bool.or_true, true_and, and_true, hok, Bool.false_eq_true, if_false]
  have hok : okR validR vcR s r = true := by simpa using hb
  have hc : GcQ s r := ⟨hok, hsm⟩
  have hv := hc.vg
  obtain ⟨z1, z2, z3, z4, z5, z6, z7⟩ := small_parts hsm
  obtain ⟨hval, hvr, htp, hms⟩ := okR_parts hok
  have hmk := hc.mark
  have hhas : ∀ a, a < s.cs.length → gHas [.r ((wdOf s r).map eN), .i ((a : Nat) : Int)] = some [.b (Mk s r a)] := fun a h => hc.has h
  simp only [hok, if_true]
  generalize hf : Mk s r = f at *
  have hmov : ∀ c, Gce s c → gMove [eC c, .r ((toL (bef f) s.cs.length s.cs.length).map D.i)] = some [eC (mvC f c)] := fun c h => gMove_at fun ht => h.mv ht
  have hold : ∀ i, i < s.tr.length → Gce s (s.tr.getD i default).old ∧ 0 ≤ (s.tr.getD i default).at' ∧ (s.tr.getD i default).at' < s.cs.length := fun i hi => by
    have := hv.old _ (getD_mem hi)
    exact ⟨this.2.2, this.1, this.2.1⟩
  have hrep : ∀ n : Nat, ((n : Int) + 1).toNat = n + 1 := fun n => by omega
  rw [q00]
  refine ⟨by simp only [q00, go_br, q01, q02, allSay, X.says, X.ev, X.evs, evl, tblS, List.getD_cons_zero, List.getD_cons_succ, List.getElem?_cons_zero, List.getElem?_cons_succ, tt_b, int_i, str_s, rs_r, Option.isSome_some, Option.getD_some, decide_eq_true_eq, decide_eq_false_iff_not, dS_eS, dC_eC, dU_eU, dW_eW, dY_eY, eC_0, eC_1, eU_0, eU_1, eW_0, eW_1, eW_2, eY_0, eY_1, eS_0, eS_1, eS_2, eS_3, eS_4, eS_5, List.length_map, i_inj, b_inj, s_inj, eC_eq, eU_eq, eW_eq, eY_eq, eS_eq, rng64, List.take_succ_cons, List.take_zero, List.nil_append, List.cons_append, decide_true, decide_false, Bool.or_true, true_and, and_true, hmk], ?_⟩
  rw [q00]
  refine ⟨by simp only [q00, go_br, q01, q02, allSay, X.says, X.ev, X.evs, evl, tblS, List.getD_cons_zero, List.getD_cons_succ, List.getElem?_cons_zero, List.getElem?_cons_succ, tt_b, int_i, str_s, rs_r, Option.isSome_some, Option.getD_some, decide_eq_true_eq, decide_eq_false_iff_not, dS_eS, dC_eC, dU_eU, dW_eW, dY_eY, eC_0, eC_1, eU_0, eU_1, eW_0, eW_1, eW_2, eY_0, eY_1, eS_0, eS_1, eS_2, eS_3, eS_4, eS_5, List.length_map, i_inj, b_inj, s_inj, eC_eq, eU_eq, eW_eq, eY_eq, eS_eq, rng64, List.take_succ_cons, List.take_zero, List.nil_append, List.cons_append, decide_true, decide_false, Bool.or_true, true_and, and_true]; omega, ?_⟩
  -- the new addresses
  refine acc2_ok s.cs.length (fun k => .r ((toL (bef f) s.cs.length k).map D.i)) ?_ fun k B' hk hB _ => ?_
  · simp only [q00, go_br, q01, q02, allSay, X.says, X.ev, X.evs, evl, tblS, List.getD_cons_zero, List.getD_cons_succ, List.getElem?_cons_zero, List.getElem?_cons_succ, tt_b, int_i, str_s, rs_r, Option.isSome_some, Option.getD_some, decide_eq_true_eq, decide_eq_false_iff_not, dS_eS, dC_eC, dU_eU, dW_eW, dY_eY, eC_0, eC_1, eU_0, eU_1, eW_0, eW_1, eW_2, eY_0, eY_1, eS_0, eS_1, eS_2, eS_3, eS_4, eS_5, List.length_map, i_inj, b_inj, s_inj, eC_eq, eU_eq, eW_eq, eY_eq, eS_eq, rng64, List.take_succ_cons, List.take_zero, List.nil_append, List.cons_append, decide_true, decide_false, Bool.or_true, true_and, and_true, hrep]
    rw [toL_zero _ _ rfl]
  have htl := toL_len (bef f) s.cs.length k
  rw [go_br]
  refine ⟨fun hlt => ?_, fun hlt => ?_⟩
  · have hkl : k < s.cs.length := by simpa [X.ev, evl, eS_0, D.int, D.rs, D.tt] using hlt
    have hget := get_i (l := toL (bef f) s.cs.length k) (k := k) (by omega)
    rw [toL_get (by omega), if_pos (Nat.le_refl _)] at hget
    have hs2 := hB hkl
    have hadd : (k : Int) + 1 = ((k + 1 : Nat) : Int) := by omega
    have hset : ∀ (l : List Int) (v : Int), (l.map D.i).set (k + 1) (D.i v) = (l.set (k + 1) v).map D.i := fun l v => by rw [List.map_set]
    have hg2 := get_i (l := (toL (bef f) s.cs.length k).set (k + 1) (bef f k : Nat)) (k := k + 1) (by rw [List.length_set]; omega)
    have hgs : ((toL (bef f) s.cs.length k).set (k + 1) (bef f k : Nat)).getD (k + 1) default = ((bef f k : Nat) : Int) := by
      rw [List.getD_eq_getElem?_getD, List.getElem?_set_self (by omega)]
      rfl
    rw [hgs] at hg2
    have hbl := bef_le f k
    have hh := hhas k hkl
    simp only [List.take_succ_cons, List.take_zero, List.cons_append, List.nil_append]
    rw [q00]
    refine ⟨by simp only [q00, go_br, q01, q02, allSay, X.says, X.ev, X.evs, evl, tblS, List.getD_cons_zero, List.getD_cons_succ, List.getElem?_cons_zero, List.getElem?_cons_succ, tt_b, int_i, str_s, rs_r, Option.isSome_some, Option.getD_some, decide_eq_true_eq, decide_eq_false_iff_not, dS_eS, dC_eC, dU_eU, dW_eW, dY_eY, eC_0, eC_1, eU_0, eU_1, eW_0, eW_1, eW_2, eY_0, eY_1, eS_0, eS_1, eS_2, eS_3, eS_4, eS_5, List.length_map, i_inj, b_inj, s_inj, eC_eq, eU_eq, eW_eq, eY_eq, eS_eq, rng64, List.take_succ_cons, List.take_zero, List.nil_append, List.cons_append, decide_true, decide_false, Bool.or_true, true_and, and_true]; omega, ?_⟩
    rw [q00]
    refine ⟨by simp only [q00, go_br, q01, q02, allSay, X.says, X.ev, X.evs, evl, tblS, List.getD_cons_zero, List.getD_cons_succ, List.getElem?_cons_zero, List.getElem?_cons_succ, tt_b, int_i, str_s, rs_r, Option.isSome_some, Option.getD_some, decide_eq_true_eq, decide_eq_false_iff_not, dS_eS, dC_eC, dU_eU, dW_eW, dY_eY, eC_0, eC_1, eU_0, eU_1, eW_0, eW_1, eW_2, eY_0, eY_1, eS_0, eS_1, eS_2, eS_3, eS_4, eS_5, List.length_map, i_inj, b_inj, s_inj, eC_eq, eU_eq, eW_eq, eY_eq, eS_eq, rng64, List.take_succ_cons, List.take_zero, List.nil_append, List.cons_append, decide_true, decide_false, Bool.or_true, true_and, and_true, hmk, hh], ?_⟩
    rw [go_br]
    simp only [X.ev, X.evs, evl, tblS, List.getD_cons_succ, List.getD_cons_zero, List.getElem?_cons_zero, List.getElem?_cons_succ, hmk, Option.getD_some, hh, tt_b]
    refine ⟨fun hf1 => ?_, fun hf1 => ?_⟩
    · have hbs : ((bef f k : Nat) : Int) + 1 = (bef f (k + 1) : Nat) := by rw [bef, hf1, if_pos rfl]; omega
      have hb2 := bef_le f (k + 1)
      have e2 : ((toL (bef f) s.cs.length k).set (k + 1) (bef f k : Nat)).set (k + 1) (bef f (k + 1) : Nat) = toL (bef f) s.cs.length (k + 1) := by rw [List.set_set]; exact toL_set hkl rfl
      rw [hadd] at hs2
      simp only [q00, go_br, q01, q02, allSay, X.says, X.ev, X.evs, evl, tblS, List.getD_cons_zero, List.getD_cons_succ, List.getElem?_cons_zero, List.getElem?_cons_succ, tt_b, int_i, str_s, rs_r, Option.isSome_some, Option.getD_some, decide_eq_true_eq, decide_eq_false_iff_not, dS_eS, dC_eC, dU_eU, dW_eW, dY_eY, eC_0, eC_1, eU_0, eU_1, eW_0, eW_1, eW_2, eY_0, eY_1, eS_0, eS_1, eS_2, eS_3, eS_4, eS_5, List.length_map, i_inj, b_inj, s_inj, eC_eq, eU_eq, eW_eq, eY_eq, eS_eq, rng64, List.take_succ_cons, List.take_zero, List.nil_append, List.cons_append, decide_true, decide_false, Bool.or_true, true_and, and_true, hadd, Int.toNat_natCast, hget, hset, hg2, hbs, e2, List.length_set]
      and_intros <;> first | omega | exact hs2
    · have hbs : bef f (k + 1) = bef f k := by rw [bef, hf1]; rfl
      have e2 : (toL (bef f) s.cs.length k).set (k + 1) (bef f k : Nat) = toL (bef f) s.cs.length (k + 1) := toL_set hkl (by rw [hbs])
      rw [hadd] at hs2
      simp only [q00, go_br, q01, q02, allSay, X.says, X.ev, X.evs, evl, tblS, List.getD_cons_zero, List.getD_cons_succ, List.getElem?_cons_zero, List.getElem?_cons_succ, tt_b, int_i, str_s, rs_r, Option.isSome_some, Option.getD_some, decide_eq_true_eq, decide_eq_false_iff_not, dS_eS, dC_eC, dU_eU, dW_eW, dY_eY, eC_0, eC_1, eU_0, eU_1, eW_0, eW_1, eW_2, eY_0, eY_1, eS_0, eS_1, eS_2, eS_3, eS_4, eS_5, List.length_map, i_inj, b_inj, s_inj, eC_eq, eU_eq, eW_eq, eY_eq, eS_eq, rng64, List.take_succ_cons, List.take_zero, List.nil_append, List.cons_append, decide_true, decide_false, Bool.or_true, true_and, and_true, hadd, Int.toNat_natCast, hget, hset, e2]
      and_intros <;> first | omega | exact hs2
  have hkk : k = s.cs.length := by
    have : ¬ (k < s.cs.length) := by simpa [X.ev, evl, eS_0, D.int, D.rs, D.tt] using hlt
    omega
  subst hkk
  simp only [List.take_succ_cons, List.take_zero, List.cons_append, List.nil_append]
  -- the cells
  refine acc1_ok s.cs.length (fun k => .r ((heapF f s k).map eC)) rfl fun k B' hk hB _ => ?_
  have hhl := heapF_len f s k
  have hbl := bef_le f k
  rw [go_br]
  refine ⟨fun hlt => ?_, fun hlt => ?_⟩
  · have hkl : k < s.cs.length := by simpa [X.ev, evl, eS_0, D.int, D.rs, D.tt] using hlt
    have hin : inS s (k : Nat) = true := inS_iff.2 ⟨by omega, by omega⟩
    have hcell := cell_get hin
    have hh := hhas k hkl
    have hs := hB hkl
    rw [heapF_succ] at hs
    simp only [List.take_succ_cons, List.take_zero, List.cons_append, List.nil_append]
    rw [q00]
    refine ⟨by simp only [q00, go_br, q01, q02, allSay, X.says, X.ev, X.evs, evl, tblS, List.getD_cons_zero, List.getD_cons_succ, List.getElem?_cons_zero, List.getElem?_cons_succ, tt_b, int_i, str_s, rs_r, Option.isSome_some, Option.getD_some, decide_eq_true_eq, decide_eq_false_iff_not, dS_eS, dC_eC, dU_eU, dW_eW, dY_eY, eC_0, eC_1, eU_0, eU_1, eW_0, eW_1, eW_2, eY_0, eY_1, eS_0, eS_1, eS_2, eS_3, eS_4, eS_5, List.length_map, i_inj, b_inj, s_inj, eC_eq, eU_eq, eW_eq, eY_eq, eS_eq, rng64, List.take_succ_cons, List.take_zero, List.nil_append, List.cons_append, decide_true, decide_false, Bool.or_true, true_and, and_true]; omega, ?_⟩
    rw [q00]
    refine ⟨by simp only [q00, go_br, q01, q02, allSay, X.says, X.ev, X.evs, evl, tblS, List.getD_cons_zero, List.getD_cons_succ, List.getElem?_cons_zero, List.getElem?_cons_succ, tt_b, int_i, str_s, rs_r, Option.isSome_some, Option.getD_some, decide_eq_true_eq, decide_eq_false_iff_not, dS_eS, dC_eC, dU_eU, dW_eW, dY_eY, eC_0, eC_1, eU_0, eU_1, eW_0, eW_1, eW_2, eY_0, eY_1, eS_0, eS_1, eS_2, eS_3, eS_4, eS_5, List.length_map, i_inj, b_inj, s_inj, eC_eq, eU_eq, eW_eq, eY_eq, eS_eq, rng64, List.take_succ_cons, List.take_zero, List.nil_append, List.cons_append, decide_true, decide_false, Bool.or_true, true_and, and_true, hmk, hh], ?_⟩
    rw [go_br]
    simp only [X.ev, X.evs, evl, tblS, List.getD_cons_succ, List.getD_cons_zero, List.getElem?_cons_zero, List.getElem?_cons_succ, hmk, Option.getD_some, hh, tt_b]
    refine ⟨fun hb => ?_, fun hb => ?_⟩
    · rw [app_if _ _ _ _ hb] at hs
      have := hmov _ (hv.cell k hkl)
      simp only [q00, go_br, q01, q02, allSay, X.says, X.ev, X.evs, evl, tblS, List.getD_cons_zero, List.getD_cons_succ, List.getElem?_cons_zero, List.getElem?_cons_succ, tt_b, int_i, str_s, rs_r, Option.isSome_some, Option.getD_some, decide_eq_true_eq, decide_eq_false_iff_not, dS_eS, dC_eC, dU_eU, dW_eW, dY_eY, eC_0, eC_1, eU_0, eU_1, eW_0, eW_1, eW_2, eY_0, eY_1, eS_0, eS_1, eS_2, eS_3, eS_4, eS_5, List.length_map, i_inj, b_inj, s_inj, eC_eq, eU_eq, eW_eq, eY_eq, eS_eq, rng64, List.take_succ_cons, List.take_zero, List.nil_append, List.cons_append, decide_true, decide_false, Bool.or_true, true_and, and_true, hmk, hcell, this]
      and_intros <;> first | omega | exact hs
    · rw [app_if0 _ _ _ _ hb] at hs
      simp only [q00, go_br, q01, q02, allSay, X.says, X.ev, X.evs, evl, tblS, List.getD_cons_zero, List.getD_cons_succ, List.getElem?_cons_zero, List.getElem?_cons_succ, tt_b, int_i, str_s, rs_r, Option.isSome_some, Option.getD_some, decide_eq_true_eq, decide_eq_false_iff_not, dS_eS, dC_eC, dU_eU, dW_eW, dY_eY, eC_0, eC_1, eU_0, eU_1, eW_0, eW_1, eW_2, eY_0, eY_1, eS_0, eS_1, eS_2, eS_3, eS_4, eS_5, List.length_map, i_inj, b_inj, s_inj, eC_eq, eU_eq, eW_eq, eY_eq, eS_eq, rng64, List.take_succ_cons, List.take_zero, List.nil_append, List.cons_append, decide_true, decide_false, Bool.or_true, true_and, and_true]
      and_intros <;> first | omega | exact hs
  have hkk : k = s.cs.length := by
    have : ¬ (k < s.cs.length) := by simpa [X.ev, evl, eS_0, D.int, D.rs, D.tt] using hlt
    omega
  subst hkk
  simp only [List.take_succ_cons, List.take_zero, List.cons_append, List.nil_append]
  rw [q00]
  refine ⟨by simp only [q00, go_br, q01, q02, allSay, X.says, X.ev, X.evs, evl, tblS, List.getD_cons_zero, List.getD_cons_succ, List.getElem?_cons_zero, List.getElem?_cons_succ, tt_b, int_i, str_s, rs_r, Option.isSome_some, Option.getD_some, decide_eq_true_eq, decide_eq_false_iff_not, dS_eS, dC_eC, dU_eU, dW_eW, dY_eY, eC_0, eC_1, eU_0, eU_1, eW_0, eW_1, eW_2, eY_0, eY_1, eS_0, eS_1, eS_2, eS_3, eS_4, eS_5, List.length_map, i_inj, b_inj, s_inj, eC_eq, eU_eq, eW_eq, eY_eq, eS_eq, rng64, List.take_succ_cons, List.take_zero, List.nil_append, List.cons_append, decide_true, decide_false, Bool.or_true, true_and, and_true]; omega, ?_⟩
  -- the trail
  refine acc3_ok s.tr.length (fun k => .r ((trailF f s k).map eU)) (fun k => .r ((toL (keptF f s) s.tr.length k).map D.i)) rfl ?_ fun k B' hk hB _ => ?_
  · simp only [q00, go_br, q01, q02, allSay, X.says, X.ev, X.evs, evl, tblS, List.getD_cons_zero, List.getD_cons_succ, List.getElem?_cons_zero, List.getElem?_cons_succ, tt_b, int_i, str_s, rs_r, Option.isSome_some, Option.getD_some, decide_eq_true_eq, decide_eq_false_iff_not, dS_eS, dC_eC, dU_eU, dW_eW, dY_eY, eC_0, eC_1, eU_0, eU_1, eW_0, eW_1, eW_2, eY_0, eY_1, eS_0, eS_1, eS_2, eS_3, eS_4, eS_5, List.length_map, i_inj, b_inj, s_inj, eC_eq, eU_eq, eW_eq, eY_eq, eS_eq, rng64, List.take_succ_cons, List.take_zero, List.nil_append, List.cons_append, decide_true, decide_false, Bool.or_true, true_and, and_true, hrep]
    rw [toL_zero _ _ rfl]
  have htl := toL_len (keptF f s) s.tr.length k
  have htrl := trailF_len f s k
  have hkl2 := keptF_le f s k
  have htl0 := toL_len (bef f) s.cs.length s.cs.length
  rw [go_br]
  refine ⟨fun hlt => ?_, fun hlt => ?_⟩
  · have hkl : k < s.tr.length := by simpa [X.ev, evl, eS_2, D.int, D.rs, D.tt] using hlt
    obtain ⟨ho, ha0, ha1⟩ := hold k hkl
    obtain ⟨b, hb⟩ := Int.eq_ofNat_of_zero_le ha0
    have hh := hhas b (by omega)
    have hs := hB hkl
    have hadd : (k : Int) + 1 = ((k + 1 : Nat) : Int) := by omega
    have hset : ∀ (l : List Int) (v : Int), (l.map D.i).set (k + 1) (D.i v) = (l.set (k + 1) v).map D.i := fun l v => by rw [List.map_set]
    have hks := keptF_succ (f := f) hkl
    rw [onTr, hb, Int.toNat_natCast] at hks
    rw [trailF_succ hkl, onTr, hb, Int.toNat_natCast] at hs
    have hgb := get_i (l := toL (bef f) s.cs.length s.cs.length) (k := b) (by omega)
    rw [toL_get (by omega), if_pos (by omega)] at hgb
    simp only [List.take_succ_cons, List.take_zero, List.cons_append, List.nil_append]
    rw [q00]
    refine ⟨by simp only [q00, go_br, q01, q02, allSay, X.says, X.ev, X.evs, evl, tblS, List.getD_cons_zero, List.getD_cons_succ, List.getElem?_cons_zero, List.getElem?_cons_succ, tt_b, int_i, str_s, rs_r, Option.isSome_some, Option.getD_some, decide_eq_true_eq, decide_eq_false_iff_not, dS_eS, dC_eC, dU_eU, dW_eW, dY_eY, eC_0, eC_1, eU_0, eU_1, eW_0, eW_1, eW_2, eY_0, eY_1, eS_0, eS_1, eS_2, eS_3, eS_4, eS_5, List.length_map, i_inj, b_inj, s_inj, eC_eq, eU_eq, eW_eq, eY_eq, eS_eq, rng64, List.take_succ_cons, List.take_zero, List.nil_append, List.cons_append, decide_true, decide_false, Bool.or_true, true_and, and_true, get_n eU hkl]; omega, ?_⟩
    rw [q00]
    refine ⟨by simp only [q00, go_br, q01, q02, allSay, X.says, X.ev, X.evs, evl, tblS, List.getD_cons_zero, List.getD_cons_succ, List.getElem?_cons_zero, List.getElem?_cons_succ, tt_b, int_i, str_s, rs_r, Option.isSome_some, Option.getD_some, decide_eq_true_eq, decide_eq_false_iff_not, dS_eS, dC_eC, dU_eU, dW_eW, dY_eY, eC_0, eC_1, eU_0, eU_1, eW_0, eW_1, eW_2, eY_0, eY_1, eS_0, eS_1, eS_2, eS_3, eS_4, eS_5, List.length_map, i_inj, b_inj, s_inj, eC_eq, eU_eq, eW_eq, eY_eq, eS_eq, rng64, List.take_succ_cons, List.take_zero, List.nil_append, List.cons_append, decide_true, decide_false, Bool.or_true, true_and, and_true, get_n eU hkl, hmk, hb, hh], ?_⟩
    rw [go_br]
    simp only [X.ev, X.evs, evl, tblS, List.getD_cons_succ, List.getD_cons_zero, List.getElem?_cons_zero, List.getElem?_cons_succ, hmk, Option.getD_some, eS_2, int_i, get_n eU hkl, eU_0, hb, hh, tt_b]
    refine ⟨fun hf1 => ?_, fun hf1 => ?_⟩
    · rw [app_if _ _ _ _ hf1, mvU, hb, Int.toNat_natCast, hadd] at hs
      rw [hf1, if_pos rfl] at hks
      have h1 := hmov _ ho
      have e1 : (((List.map eU (trailF f s k) ++ [eU ⟨(bef f b : Nat), mvC f (s.tr.getD k default).old⟩]).length : Nat) : Int) = (keptF f s (k + 1) : Nat) := by
        rw [List.length_append, List.length_map, htrl, hks]
        rfl
      have e2 := toL_set (f := keptF f s) hkl (v := ((keptF f s (k + 1) : Nat) : Int)) rfl
      simp only [q00, go_br, q01, q02, allSay, X.says, X.ev, X.evs, evl, tblS, List.getD_cons_zero, List.getD_cons_succ, List.getElem?_cons_zero, List.getElem?_cons_succ, tt_b, int_i, str_s, rs_r, Option.isSome_some, Option.getD_some, decide_eq_true_eq, decide_eq_false_iff_not, dS_eS, dC_eC, dU_eU, dW_eW, dY_eY, eC_0, eC_1, eU_0, eU_1, eW_0, eW_1, eW_2, eY_0, eY_1, eS_0, eS_1, eS_2, eS_3, eS_4, eS_5, List.length_map, i_inj, b_inj, s_inj, eC_eq, eU_eq, eW_eq, eY_eq, eS_eq, rng64, List.take_succ_cons, List.take_zero, List.nil_append, List.cons_append, decide_true, decide_false, Bool.or_true, true_and, and_true, hmk, get_n eU hkl, hb, h1, hgb, hadd, Int.toNat_natCast, eU_mk]
      simp only [e1, hset, e2]
      and_intros <;> first | omega | exact hs
    · rw [app_if0 _ _ _ _ hf1, hadd] at hs
      rw [hf1] at hks
      have hks : keptF f s (k + 1) = keptF f s k := hks
      have e2 := toL_set (f := keptF f s) hkl (v := ((keptF f s k : Nat) : Int)) (by rw [hks])
      simp only [q00, go_br, q01, q02, allSay, X.says, X.ev, X.evs, evl, tblS, List.getD_cons_zero, List.getD_cons_succ, List.getElem?_cons_zero, List.getElem?_cons_succ, tt_b, int_i, str_s, rs_r, Option.isSome_some, Option.getD_some, decide_eq_true_eq, decide_eq_false_iff_not, dS_eS, dC_eC, dU_eU, dW_eW, dY_eY, eC_0, eC_1, eU_0, eU_1, eW_0, eW_1, eW_2, eY_0, eY_1, eS_0, eS_1, eS_2, eS_3, eS_4, eS_5, List.length_map, i_inj, b_inj, s_inj, eC_eq, eU_eq, eW_eq, eY_eq, eS_eq, rng64, List.take_succ_cons, List.take_zero, List.nil_append, List.cons_append, decide_true, decide_false, Bool.or_true, true_and, and_true, htrl, hadd, Int.toNat_natCast, hset, e2]
      and_intros <;> first | omega | exact hs
  have hkk : k = s.tr.length := by
    have : ¬ (k < s.tr.length) := by simpa [X.ev, evl, eS_2, D.int, D.rs, D.tt] using hlt
    omega
  subst hkk
  simp only [List.take_succ_cons, List.take_zero, List.cons_append, List.nil_append]
  -- the wakes
  refine acc1_ok s.wk.length (fun k => .r (((s.wk.take k).map (mvW f)).map eW)) rfl fun k B' hk hB _ => ?_
  rw [go_br]
  refine ⟨fun hlt => ?_, fun hlt => ?_⟩
  · have hkl : k < s.wk.length := by simpa [X.ev, evl, eS_3, D.int, D.rs, D.tt] using hlt
    have hm1 : (s.wk.getD k default).att ∈ rootsC s r := List.mem_append_right _ (List.mem_flatMap.2 ⟨_, getD_mem hkl, by simp⟩)
    have hm2 : (s.wk.getD k default).val ∈ rootsC s r := List.mem_append_right _ (List.mem_flatMap.2 ⟨_, getD_mem hkl, by simp⟩)
    have h1 := hmov _ (hv.root _ hm1)
    have h2 := hmov _ (hv.root _ hm2)
    have hs := hB hkl
    rw [take_map_succ _ hkl, List.map_append] at hs
    have htl := List.length_take_le k s.wk
    simp only [q00, go_br, q01, q02, allSay, X.says, X.ev, X.evs, evl, tblS, List.getD_cons_zero, List.getD_cons_succ, List.getElem?_cons_zero, List.getElem?_cons_succ, tt_b, int_i, str_s, rs_r, Option.isSome_some, Option.getD_some, decide_eq_true_eq, decide_eq_false_iff_not, dS_eS, dC_eC, dU_eU, dW_eW, dY_eY, eC_0, eC_1, eU_0, eU_1, eW_0, eW_1, eW_2, eY_0, eY_1, eS_0, eS_1, eS_2, eS_3, eS_4, eS_5, List.length_map, i_inj, b_inj, s_inj, eC_eq, eU_eq, eW_eq, eY_eq, eS_eq, rng64, List.take_succ_cons, List.take_zero, List.nil_append, List.cons_append, decide_true, decide_false, Bool.or_true, true_and, and_true, get_n eW hkl, h1, h2]
    and_intros <;> first | omega | exact hs
  have hkk : k = s.wk.length := by
    have : ¬ (k < s.wk.length) := by simpa [X.ev, evl, eS_3, D.int, D.rs, D.tt] using hlt
    omega
  subst hkk
  simp only [List.take_succ_cons, List.take_zero, List.cons_append, List.nil_append, List.take_length]
  -- the roots' cells
  refine acc2_ok r.cs.length (fun k => eR ⟨(r.cs.take k).map (mvC f), [], []⟩) rfl fun k B' hk hB _ => ?_
  rw [go_br]
  refine ⟨fun hlt => ?_, fun hlt => ?_⟩
  · have hkl : k < r.cs.length := by simpa [X.ev, evl, eR_0, D.int, D.rs, D.tt] using hlt
    have h1 := hmov _ (hv.root _ (List.mem_append_left _ (getD_mem hkl)))
    have hs := hB hkl
    rw [take_map_succ _ hkl] at hs
    have htl := List.length_take_le k r.cs
    have hap : ∀ (l : List Ce) (c : Ce), l.map eC ++ [eC c] = (l ++ [c]).map eC := fun l c => by simp
    simp only [q00, go_br, q01, q02, allSay, X.says, X.ev, X.evs, evl, tblS, List.getD_cons_zero, List.getD_cons_succ, List.getElem?_cons_zero, List.getElem?_cons_succ, tt_b, int_i, str_s, rs_r, Option.isSome_some, Option.getD_some, decide_eq_true_eq, decide_eq_false_iff_not, dS_eS, dC_eC, dU_eU, dW_eW, dY_eY, eC_0, eC_1, eU_0, eU_1, eW_0, eW_1, eW_2, eY_0, eY_1, eS_0, eS_1, eS_2, eS_3, eS_4, eS_5, List.length_map, i_inj, b_inj, s_inj, eC_eq, eU_eq, eW_eq, eY_eq, eS_eq, rng64, List.take_succ_cons, List.take_zero, List.nil_append, List.cons_append, decide_true, decide_false, Bool.or_true, true_and, and_true, eR_0, get_n eC hkl, h1, hap, eR_s0]
    and_intros <;> first | omega | exact hs
  have hkk : k = r.cs.length := by
    have : ¬ (k < r.cs.length) := by simpa [X.ev, evl, eR_0, D.int, D.rs, D.tt] using hlt
    omega
  subst hkk
  simp only [List.take_succ_cons, List.take_zero, List.cons_append, List.nil_append, List.take_length]
  -- the tops
  refine acc2_ok r.tp.length (fun k => eR ⟨r.cs.map (mvC f), (r.tp.take k).map fun t => ((bef f t.toNat : Nat) : Int), []⟩) rfl fun k B' hk hB _ => ?_
  rw [go_br]
  refine ⟨fun hlt => ?_, fun hlt => ?_⟩
  · have hkl : k < r.tp.length := by simpa [X.ev, evl, eR_1, D.int, D.rs, D.tt] using hlt
    have hmk2 := htp _ (getD_mem hkl)
    obtain ⟨a, ha⟩ := Int.eq_ofNat_of_zero_le hmk2.1
    have hgb := get_i (l := toL (bef f) s.cs.length s.cs.length) (k := a) (by omega)
    rw [toL_get (by omega), if_pos (by omega)] at hgb
    have hs := hB hkl
    rw [take_map_succ _ hkl, ha, Int.toNat_natCast] at hs
    have htl := List.length_take_le k r.tp
    have hap : ∀ (l : List Int) (c : Int), l.map D.i ++ [D.i c] = (l ++ [c]).map D.i := fun l c => by simp
    simp only [q00, go_br, q01, q02, allSay, X.says, X.ev, X.evs, evl, tblS, List.getD_cons_zero, List.getD_cons_succ, List.getElem?_cons_zero, List.getElem?_cons_succ, tt_b, int_i, str_s, rs_r, Option.isSome_some, Option.getD_some, decide_eq_true_eq, decide_eq_false_iff_not, dS_eS, dC_eC, dU_eU, dW_eW, dY_eY, eC_0, eC_1, eU_0, eU_1, eW_0, eW_1, eW_2, eY_0, eY_1, eS_0, eS_1, eS_2, eS_3, eS_4, eS_5, List.length_map, i_inj, b_inj, s_inj, eC_eq, eU_eq, eW_eq, eY_eq, eS_eq, rng64, List.take_succ_cons, List.take_zero, List.nil_append, List.cons_append, decide_true, decide_false, Bool.or_true, true_and, and_true, eR_1, get_i hkl, ha, hgb, hap, eR_s1]
    and_intros <;> first | omega | exact hs
  have hkk : k = r.tp.length := by
    have : ¬ (k < r.tp.length) := by simpa [X.ev, evl, eR_1, D.int, D.rs, D.tt] using hlt
    omega
  subst hkk
  simp only [List.take_succ_cons, List.take_zero, List.cons_append, List.nil_append, List.take_length]
  -- the marks
  refine acc2_ok r.ms.length (fun k => eR ⟨r.cs.map (mvC f), r.tp.map fun t => ((bef f t.toNat : Nat) : Int), (r.ms.take k).map fun t => ((keptF f s t.toNat : Nat) : Int)⟩) rfl fun k B' hk hB _ => ?_
  rw [go_br]
  refine ⟨fun hlt => ?_, fun hlt => ?_⟩
  · have hkl : k < r.ms.length := by simpa [X.ev, evl, eR_2, D.int, D.rs, D.tt] using hlt
    have hmk2 := hms _ (getD_mem hkl)
    obtain ⟨a, ha⟩ := Int.eq_ofNat_of_zero_le hmk2.1
    have htl1 := toL_len (keptF f s) s.tr.length s.tr.length
    have hgb := get_i (l := toL (keptF f s) s.tr.length s.tr.length) (k := a) (by omega)
    rw [toL_get (by omega), if_pos (by omega)] at hgb
    have hs := hB hkl
    rw [take_map_succ _ hkl, ha, Int.toNat_natCast] at hs
    have htl := List.length_take_le k r.ms
    have hap : ∀ (l : List Int) (c : Int), l.map D.i ++ [D.i c] = (l ++ [c]).map D.i := fun l c => by simp
    simp only [q00, go_br, q01, q02, allSay, X.says, X.ev, X.evs, evl, tblS, List.getD_cons_zero, List.getD_cons_succ, List.getElem?_cons_zero, List.getElem?_cons_succ, tt_b, int_i, str_s, rs_r, Option.isSome_some, Option.getD_some, decide_eq_true_eq, decide_eq_false_iff_not, dS_eS, dC_eC, dU_eU, dW_eW, dY_eY, eC_0, eC_1, eU_0, eU_1, eW_0, eW_1, eW_2, eY_0, eY_1, eS_0, eS_1, eS_2, eS_3, eS_4, eS_5, List.length_map, i_inj, b_inj, s_inj, eC_eq, eU_eq, eW_eq, eY_eq, eS_eq, rng64, List.take_succ_cons, List.take_zero, List.nil_append, List.cons_append, decide_true, decide_false, Bool.or_true, true_and, and_true, eR_2, get_i hkl, ha, hgb, hap, eR_s2]
    and_intros <;> first | omega | exact hs
  have hkk : k = r.ms.length := by
    have : ¬ (k < r.ms.length) := by simpa [X.ev, evl, eR_2, D.int, D.rs, D.tt] using hlt
    omega
  subst hkk
  simp only [List.take_succ_cons, List.take_zero, List.cons_append, List.nil_append, List.take_length]
  rfl
end Go.Proofs.Ytmebmpgffhajbaa


namespace Go.Proofs.Ytmebmpgffhajbaa
open Go.RowKit
set_option linter.unusedVariables false
set_option maxRecDepth 100000

def gYesA : List D → Option (List D) := fun _ => some [.b true]
theorem ok_law34_awake : FOk q1e gYesA := fok_law34_awake ok_law34_cell_c ok_law34_six_c ok_law34_gives_c fun ds outs hw hg => by
  obtain rfl : ds = [] := hw
  simp only [gYesA, Option.some.injEq] at hg
  subst hg
  exact q14 (fuel := 60) (by kernel_rfl)
end Go.Proofs.Ytmebmpgffhajbaa


namespace Go.Proofs.Ytmebmpgffhajbaa
open Go.RowKit
set_option linter.unusedVariables false
set_option linter.unusedSimpArgs false

theorem clone_at {s : So} (hs : s.ok) : gClone [eS s] = some [eS s] := by
  simp only [gClone, dS_eS, clQ_of hs, if_true]
theorem rclone_at (r : Ro) : gRClone [eR r] = some [eR r] := by
  simp only [gRClone, dR_eR]
theorem same_at (s t : So) : gSame [eS s, eS t] = some [.b (decide (s = t))] := by
  simp only [gSame, eS_eq]
theorem rsame_at (s t : Ro) : gRSame [eR s, eR t] = some [.b (decide (s = t))] := by
  simp only [gRSame, dR_eR]
theorem live_at {s : So} {r : Ro} (h : GcQ s r) : gLive [eS s, eR r] = some [.i (bef (Mk s r) s.cs.length : Nat), .i 0] := by
  simp only [gLive, dS_eS, dR_eR, h.ok, h.sm, if_true]
theorem live_no {s : So} {r : Ro} (hs : smallB s r = true) (h : okR validR vcR s r = false) : gLive [eS s, eR r] = some [.i 0, .i 1] := by
  simp only [gLive, dS_eS, dR_eR, h, hs, if_true, Bool.false_eq_true, if_false]
theorem col_at {s : So} {r : Ro} (h : GcQ s r) : gCol [eS s, eR r] = some [.i 0, eS (colS (Mk s r) s), eR (colR (Mk s r) s r)] := by
  simp only [gCol, dS_eS, dR_eR, h.ok, h.sm, if_true]
theorem col_no {s : So} {r : Ro} (hs : smallB s r = true) (h : okR validR vcR s r = false) : gCol [eS s, eR r] = some [.i 1, eS s, eR r] := by
  simp only [gCol, dS_eS, dR_eR, h, hs, if_true, Bool.false_eq_true, if_false]
theorem valid_at (v : So → Bool) (vc : So → Ce → Bool) (s : So) (r : Ro) : gSRb (okR v vc) [eS s, eR r] = some [.b (okR v vc s r)] := by
  simp only [gSRb, dS_eS, dR_eR]
theorem small_at (s : So) (r : Ro) : gSRb smallB [eS s, eR r] = some [.b (smallB s r)] := by
  simp only [gSRb, dS_eS, dR_eR]

theorem law_GcCollects : FOk q1h fun _ => some [.b true] := fok_law34_GcCollects ok_law34_small ok_law34_awake ok_ref30_Clone ok_ref34_Clone ok_gc_Live ok_ref34_Live ok_gc_Valid q3g ok_ref30_Same ok_ref34_Same ok_gc_Collect ok_ref34_Collect fun ds outs hw hg => by
  obtain ⟨s, r, rfl, hs, hr⟩ := sr_of hw
  injection hg with hg
  subst hg
  have h1 := clone_at hs
  have h2 := rclone_at r
  have h3 := valid_at validP vcP s r
  have h4 := valid_at validR vcR s r
  rw [okR_eq] at h3
  have h5 := same_at s s
  have h6 := rsame_at r r
  have h7 := small_at s r
  cases hsm : smallB s r with
  | false =>
    rw [hsm] at h7
    simp [q1l, q00, go_br, q01, allSay, X.says, X.ev, X.evs, evl, tblS, h7, gYesA, D.tt]
  | true =>
    rw [hsm] at h7
    cases hok : okR validR vcR s r with
    | false =>
      have h8 := live_no hsm hok
      have h9 := col_no hsm hok
      rw [hok] at h3 h4
      simp [q1l, q00, go_br, q01, allSay, X.says, X.ev, X.evs, evl, tblS, h1, h2, h3, h4, h5, h6, h7, h8, h9, gYesA, D.tt]
    | true =>
      have hc : GcQ s r := ⟨hok, hsm⟩
      have h8 := live_at hc
      have h9 := col_at hc
      rw [hok] at h3 h4
      have h10 := same_at (colS (Mk s r) s) (colS (Mk s r) s)
      have h11 := rsame_at (colR (Mk s r) s r) (colR (Mk s r) s r)
      simp [q1l, q00, go_br, q01, allSay, X.says, X.ev, X.evs, evl, tblS, h1, h2, h3, h4, h5, h6, h7, h8, h9, h10, h11, gYesA, D.tt]
end Go.Proofs.Ytmebmpgffhajbaa


namespace Go.Proofs.Ytmebmpgffhajbaa
open Go.ChangeShapes Go.WideShapes Go.ChangeAt Go.RowKit
set_option linter.unusedVariables false
set_option maxRecDepth 100000

theorem own_knobD : ownKnob Try.prog.godebug = none := by kernel_rfl
theorem laid_outD : laidOutB Try.prog = true := by kernel_rfl

section
variable {H : Type} {enc : TypeId × Value → H} {W : World} {base : Nat} {spare : Nat → Bool} {held : Bool}

def LightD (t : TypeId) (d : DataW H) : Prop := ∀ n ∈ d.weights Try.prog t, n ≤ reachBytes

theorem weightsAll_memD {e : TypeId} : ∀ {l : List (DataW H)} {d : DataW H}, d ∈ l → ∀ n ∈ d.weights Try.prog e, n ∈ DataW.weightsAll Try.prog e l
  | [], _, h, _, _ => by cases h
  | x :: l, d, h, n, hn => by
    simp only [DataW.weightsAll, List.mem_append]
    rcases List.mem_cons.1 h with rfl | h
    · exact .inl hn
    · exact .inr (weightsAll_memD h n hn)

theorem LightD.each {ts : List TypeId} {l : List (DataW H)} {k : Nat} {t : TypeId} {d : DataW H} (h : ∀ n ∈ DataW.weightsEach Try.prog ts l, n ≤ reachBytes) (ht : ts[k]? = some t) (hd : l[k]? = some d) : LightD t d := fun n hn =>
  h n (DataW.weights_mem_each ht hd n hn)

theorem reach_eqD : reachBytes = LIM := rfl

theorem cells_w {T : TypeId} {t : Ty} (h : tyOf T = some t) : Try.prog.cellsOf T = t.w := by
  obtain ⟨i, hi, h1, -⟩ := row_info h
  simp [Program.cellsOf, hi, h1]

theorem rng_wf {k : IntKind} {t : TypeId} (ht : tyOf t = some (.int k)) {n : Int} (h : (Lit.int k n).wf = true) : rngB k n = true := by
  have h0 := (row_int ht).2.1
  cases k <;> first | (simp [rngB] at h0; done) | (simp [Lit.wf, IntKind.min, IntKind.max, IntKind.signed, IntKind.bits] at h; simp [rngB]; omega)

theorem spot_noneD {a : Addr} {v : Value} (h : W.cell? a = some v) : a.spot = none := by
  unfold World.cell? at h
  split at h
  · split at h
    · cases h
    · rename_i hs; simpa using hs
  · cases h

theorem rdF_of {F : Nat → Prop} {cs : List Value} : ∀ {fl : List Field} {fs : List Ty} {o : Nat}, fieldsB fl fs o = true → (∀ (j : Nat) (f : Field) (t : Ty), fl[j]? = some f → fs[j]? = some t → ∃ y, Rd W F y t ((cs.drop f.offset).take t.w)) → cs.length = o + widths fs → ∃ ds, RdF W F ds fs (cs.drop o)
  | [], [], o, _, _, hl => by
    simp [widths] at hl
    exact ⟨[], rfl, by rw [List.drop_eq_nil_iff]; omega⟩
  | f :: l, t :: ts, o, hb, hf, hl => by
    simp only [fieldsB, Bool.and_eq_true] at hb
    obtain ⟨⟨⟨h1, -⟩, -⟩, h3⟩ := hb
    have ho := Nat.eq_of_beq_eq_true h1
    rw [widths_cons] at hl
    obtain ⟨ds, hds⟩ := rdF_of h3 (fun j f' t' hj ht => hf (j + 1) f' t' (by simpa using hj) (by simpa using ht)) (by omega)
    obtain ⟨y, hy⟩ := hf 0 f t rfl rfl
    refine ⟨y :: ds, t, ts, (cs.drop o).take t.w, cs.drop (o + t.w), rfl, ?_, by rw [← ho]; exact hy, hds⟩
    rw [← List.drop_drop, List.take_append_drop]
  | [], _ :: _, o, hb, _, _ => by cases hb
  | _ :: _, [], o, hb, _, _ => by cases hb

theorem open_recD : ∀ (fuel : Nat) {T : TypeId} {t : Ty} (cs : List Value) (x : DataW H × List MemPlace), tyOf T = some t → isMp t = false → DataW.trod enc Try.prog W base spare held fuel T cs = some x → LightD T x.1 → ∃ y, Rd W (fun _ => True) y t cs := by
  intro fuel
  induction fuel with
  | zero => intro T t cs x _ _ h; simp [DataW.trod] at h
  | succ fuel ih =>
    intro T t cs x hT hM h hL
    cases t with
    | map K V => cases hM
    | int k =>
      obtain ⟨n, rfl, -, hw⟩ := DataW.trod_int (row_int hT).1 h
      exact ⟨.i n, k, rfl, rfl, rng_wf hT hw⟩
    | bool =>
      obtain ⟨b, rfl, -⟩ := DataW.trod_bool (row_bool hT).1 h
      exact ⟨.b b, rfl, rfl⟩
    | str =>
      obtain ⟨s, rfl, rfl, -⟩ := DataW.trod_string (row_str hT).1 h
      have := hL s.data.toList.length (by simp [DataW.weights])
      exact ⟨.s s, rfl, rfl, by rw [reach_eqD] at this; simpa using this⟩
    | st S =>
      obtain ⟨fields, fs, zc, i, hu, hfs, hfb, hi, hsz, -, -, -, -⟩ := row_st hT
      obtain ⟨xs, n, hn, hx, hlen, hxl, hf⟩ := DataW.trod_struct hu h
      obtain rfl : fuel = n := by omega
      have hw : ∀ n ∈ DataW.weightsEach Try.prog (fields.toList.map (·.type)) (xs.map (·.1)), n ≤ reachBytes := fun n hn => hL n (by rw [hx]; simp only [DataW.weights, hu]; exact hn)
      have hcl : cs.length = 0 + widths fs := by rw [hlen, cells_w hT, (fld_okD hfs).1]; omega
      obtain ⟨ds, hds⟩ := rdF_of (W := W) (F := fun _ => True) hfb (fun j f t hj ht => by
        obtain ⟨f', hf', ho, hty, -⟩ := fieldsB_get hfb ht
        obtain rfl := Option.some.inj (hj.symm.trans hf')
        have h5 := hf j f (by rw [← Array.getElem?_toList]; exact hj)
        have hjl : j < fields.toList.length := (List.getElem?_eq_some_iff.1 hj).1
        have hjx : j < xs.length := by rw [hxl]; simpa using hjl
        rw [cells_w hty, List.getElem?_eq_getElem hjx] at h5
        refine ih _ _ hty (fld_noM hfs (List.mem_of_getElem? ht)) h5 (LightD.each (k := j) hw ?_ ?_)
        · rw [List.getElem?_map, hj]; rfl
        · rw [List.getElem?_map, List.getElem?_eq_getElem hjx]; rfl) hcl
      exact ⟨.a ds, S, fs, rfl, hfs, by simpa using hds⟩
    | row E =>
      obtain ⟨hu, ⟨te, hte⟩, -⟩ := row_row hT
      rcases DataW.trod_slice hu h with ⟨rfl, hx⟩ | ⟨a, len, cap, elems, rest, n, hn, rfl, hx, hb, hl, hm, hlen, hel, -⟩
      · exact ⟨.r [], E, te, none, 0, rfl, hte, rfl, by simp, by simp, by simp [maxLen], by simp [RdE]⟩
      · obtain rfl : fuel = n := by omega
        have hwd := tyOf_pos hte
        rw [cells_w hte] at hel
        have hw := hL
        rw [hx] at hw
        simp only [LightD, DataW.weights, hu, List.mem_cons, List.mem_append] at hw
        have hlen2 : len ≤ LM te := by
          have := hw _ (.inl rfl)
          rw [reach_eqD] at this
          have hbe : Try.prog.bytesOf E = te.by := by
            obtain ⟨i, hi, -⟩ := row_info hte
            simp [Program.bytesOf, hi, row_bytes hte hi]
          refine (Nat.le_div_iff_mul_le (by_pos hte).1).2 ?_
          simp [hbe] at this
          have h2 : len * te.by ≤ (elems.length + rest.length) * te.by := Nat.mul_le_mul_right _ (by omega)
          exact Nat.le_trans h2 this
        have spot : 0 < len → a.spot = none := fun h0 => by
          have h2 := hel 0 h0
          rw [List.getElem?_eq_getElem (by omega)] at h2
          cases hc0 : W.cells? base (a.add (0 * te.w)) te.w with
          | none => rw [hc0] at h2; cases h2
          | some cs0 =>
            obtain ⟨_, hcl0, hat0⟩ := World.cells?_some hc0
            have hp : 0 < cs0.length := by omega
            have := hat0 0 (by omega)
            rw [List.getElem?_eq_getElem hp] at this
            exact spot_noneD (a := a) (v := cs0[0]) (by simpa [Addr.add] using this)
        have each : ∀ i, i < len → ∃ y, RdEl W (fun _ => True) y te (some a) i := fun i hi => by
          have h1 := hel i hi
          rw [List.getElem?_eq_getElem (by omega)] at h1
          cases hc : W.cells? base (a.add (i * te.w)) te.w with
          | none => rw [hc] at h1; cases h1
          | some cs' =>
            rw [hc] at h1
            obtain ⟨_, hcl, hat⟩ := World.cells?_some hc
            obtain ⟨y, hy⟩ := ih cs' _ hte (row_noM hT hte) h1 (fun n hn => hw n (.inr (.inl (weightsAll_memD (List.mem_map.2 ⟨_, List.getElem_mem (by omega), rfl⟩) n hn))))
            have hsp := spot (by omega)
            obtain ⟨b, o, sp⟩ := a
            obtain rfl : sp = none := hsp
            have add : ∀ k, (Addr.add ⟨b, o, none⟩ (i * te.w)).add k = ⟨b, o + i * te.w + k, none⟩ := fun k => by
              unfold Addr.add
              split <;> split <;> simp <;> omega
            refine ⟨y, b, o, cs', rfl, trivial, fun j v hj => ?_, hy⟩
            have hj' := (List.getElem?_eq_some_iff.1 hj).1
            have := hat j (by omega)
            rw [add, hj] at this
            exact this
        have pick : ∀ n, n ≤ len → ∃ l : List D, l.length = n ∧ ∀ i (h : i < l.length), RdEl W (fun _ => True) l[i] te (some a) i := by
          intro n
          induction n with
          | zero => exact fun _ => ⟨[], rfl, fun i hi => by simp at hi⟩
          | succ n ihn =>
            intro hn
            obtain ⟨l, hl1, hl2⟩ := ihn (by omega)
            obtain ⟨t, ht⟩ := each n (by omega)
            refine ⟨l ++ [t], by simp [hl1], fun i hi => ?_⟩
            by_cases hin : i < l.length
            · rw [List.getElem_append_left hin]; exact hl2 i hin
            · obtain rfl : i = l.length := by simp at hi; omega
              rw [List.getElem_append_right (by omega)]
              simp [hl1]
              exact ht
        obtain ⟨l, hl1, hl2⟩ := pick len (Nat.le_refl _)
        exact ⟨.r l, E, te, some a, cap, rfl, hte, by rw [hl1], by omega, by omega, hm, rdE_iff.2 fun j hj => by rw [Nat.zero_add]; exact hl2 j hj⟩

theorem open_D {T : TypeId} {t : Ty} (hT : tyOf T = some t) (hM : isMp t = false) {v : Value} {d : DataW H} {p : List MemPlace} {b0 : Nat} {r : Reach} (hv : Value.okWide Try.prog W r b0 T v) (h : DataW.Trod enc Try.prog W base spare held T v d p) (hL : LightD T d) :
    ∃ x cs, Pack t cs v ∧ Rd W (fun b => b < W.heap.size) x t cs := by
  obtain ⟨fuel, hf⟩ := h
  obtain ⟨y, hy⟩ := open_recD fuel _ _ hT hM hf hL
  refine ⟨y, v.cells.toList, ?_, Rd.keeps (fun b o _ ho => ⟨ho, lt_of_heap ho⟩) _ hy⟩
  cases t with
  | int k => obtain ⟨n, rfl⟩ := okWide_int (row_int hT).1 hv; rfl
  | bool => obtain ⟨n, rfl⟩ := okWide_bool (row_bool hT).1 hv; rfl
  | str => obtain ⟨n, rfl⟩ := okWide_string (row_str hT).1 hv; rfl
  | map K V => cases hM
  | row E => obtain ⟨A, l, c, rfl⟩ := okWide_slice (row_row hT).1 hv; rfl
  | st S =>
    obtain ⟨fields, fs, zc, i, hu, -⟩ := row_st hT
    obtain ⟨cs, rfl, -⟩ := okWide_struct hu hv
    simp [Pack, Value.cells]
end

def ArgsV (W : World) : List Ar → List Value → List D → Prop
  | [], vs, ds => vs = [] ∧ ds = []
  | .val t :: l, vs, ds => ∃ v r d ds', vs = v :: r ∧ ds = d :: ds' ∧ (∃ cs, Pack t cs v ∧ Rd W (FFD (fun _ => True) (fun _ => none) []) d t cs) ∧ ArgsV W l r ds'
  | _ :: _, _, _ => False
theorem ArgsV.ok {W : World} {V : List Value} : ∀ {i : Nat} {ar : List Ar} {vs : List Value} {ds : List D}, ArgsV W ar vs ds → ArgsOk V (fun _ => True) (fun _ => none) W (idx i ar) vs ds ∧ vs.length = ar.length
  | _, [], vs, ds, h => ⟨h, by rw [h.1]; rfl⟩
  | i, .val t :: l, vs, ds, ⟨v, r, d, ds', e1, e2, h1, h⟩ => by
    obtain ⟨h2, h3⟩ := ArgsV.ok (V := V) (i := i + 1) h
    exact ⟨⟨v, r, d, ds', e1, e2, h1, h2⟩, by rw [e1]; simp [h3]⟩
  | _, .ref _ :: _, _, _, h => h.elim
  | _, .rref _ :: _, _, _, h => h.elim
  | _, .own _ :: _, _, _, h => h.elim
  | _, .mref _ :: _, _, _, h => h.elim
  | _, .nils :: _, _, _, h => h.elim
  | _, .nilp :: _, _, _, h => h.elim
  | _, .fn _ _ :: _, _, _, h => h.elim
  | _, .cell _ _ :: _, _, _, h => h.elim
theorem law_calls {ct : Ct} {g : List D → Option (List D)} (h : FOk ct g) (hrs : ct.rs = [(.bool, false)]) (hvr : ct.vr = []) {W : World} {vs : List Value} {ds : List D} (ha : ArgsV W ct.ar vs ds) (hg : g ds = some [.b true]) :
    Calls Try.prog ct.f vs.toArray W fun e W' => e = .returned (.bool true) ∧ But Nil W W' := by
  obtain ⟨h1, h2⟩ := ArgsV.ok (V := vs ++ []) (i := 0) ha
  refine (h.call (fun _ => True) (fun _ => none) W vs [] ds _ hg (by constructor <;> simp) h2 (by simpa [Ct.all, hvr, idx] using h1)).mono ?_
  rintro e W' (⟨T, -, ho, -⟩ | ⟨rs, p', rfl, hb, hr, -⟩)
  · cases ho
  rw [hrs] at hr
  obtain ⟨v, r, d, ds', rfl, hd, ⟨cs, hp, hc⟩, rfl⟩ := hr
  simp at hd
  obtain ⟨rfl, rfl⟩ := hd
  obtain ⟨e1, e2⟩ : D.b true = .b true ∧ cs = [.bool true] := ⟨rfl, by
    have hc' : Rd W' (FFD (fun _ => True) p' []) (.b true) .bool cs := hc
    exact hc'.2⟩
  subst e2
  have hpv : [Value.bool true] = [v] := hp
  injection hpv with hpv
  subst hpv
  exact ⟨rfl, hb.but.mono fun i hi _ => by obtain ⟨x, hx⟩ := hi; cases hx⟩
end Go.Proofs.Ytmebmpgffhajbaa

