/-
  Lemmas of the walk and plain laws, put together. No condition.
-/
import Derived.ChangeArms
import Derived.Deep.CondSized
import Derived.OpenShut
import Derived.ProofKit
import Derived.SizedLaws
import Derived.Test.YtaoamndcdjelnaaRows
import Derived.Test.YtaoamndcdjelnaaZd
namespace Go.Proofs.Ytaoamndcdjelnaa
open Go.RowKit
set_option linter.unusedVariables false
set_option linter.unusedSimpArgs false

def cellAt (s : So) (i : Int) : Ce := s.cs.getD i.toNat default
def inS (s : So) (i : Int) : Bool := decide (0 ≤ i) && decide (i < s.cs.length)
def tagS (s : So) (i : Int) : Int := if inS s i then (cellAt s i).t else -1
def arS (s : So) (n : Int) : Int := if 0 ≤ n ∧ n < s.ys.length then (s.ys.getD n.toNat default).ar else -1
def vcR (s : So) (c : Ce) : Bool := if c.t = 0 then inS s c.n && !decide (tagS s c.n = 4) else if c.t = 1 then true else if c.t = 2 then decide (arS s c.n = 0) else if c.t = 3 then decide (tagS s c.n = 4) else if c.t = 5 then decide (tagS s c.n = 5) else false
def vcP (s : So) (c : Ce) : Bool := if c.t = 0 then decide (0 ≤ tagS s c.n) && !decide (tagS s c.n = 4) else if c.t = 1 then true else if c.t = 2 then decide (arS s c.n = 0) else if c.t = 3 then decide (tagS s c.n = 4) else if c.t = 5 then decide (tagS s c.n = 5) else false
def groupS (s : So) (i : Int) : Bool := decide (tagS s (i + 1) = 1) && (decide (1 ≤ (cellAt s (i + 1)).n) && (decide ((cellAt s (i + 1)).n ≤ s.ser) && (decide (0 ≤ tagS s (i + 2)) && (!decide (tagS s (i + 2) = 4) && !decide (tagS s (i + 2) = 5)))))

def gSIi (f : So → Int → Int) : List D → Option (List D)
  | [s, i] => some [.i (f (dS s) i.int)]
  | _ => none
def gSIb (f : So → Int → Bool) : List D → Option (List D)
  | [s, i] => some [.b (f (dS s) i.int)]
  | _ => none
def gSIbP (q : So → Int → Bool) (f : So → Int → Bool) : List D → Option (List D)
  | [s, i] => if q (dS s) i.int then some [.b (f (dS s) i.int)] else none
  | _ => none
def gSCb (f : So → Ce → Bool) : List D → Option (List D)
  | [s, c] => some [.b (f (dS s) (dC c))]
  | _ => none
def gSUb (f : So → Un → Bool) : List D → Option (List D)
  | [s, c] => some [.b (f (dS s) (dU c))]
  | _ => none
def gSb (f : So → Bool) : List D → Option (List D)
  | [s] => some [.b (f (dS s))]
  | _ => none
theorem inS_iff {s : So} {i : Int} : inS s i = true ↔ 0 ≤ i ∧ i < s.cs.length := by simp [inS]
theorem cell_get {s : So} {i : Int} (h : inS s i = true) : (D.r (s.cs.map eC)).get i = eC (cellAt s i) := get_r eC (inS_iff.1 h).1 (inS_iff.1 h).2
theorem So.ok.cell {s : So} (hs : s.ok) {i : Int} (h : inS s i = true) : (cellAt s i).ok := hs.cs.2 _ (getD_mem (by have := inS_iff.1 h; omega))
theorem tagS_in {s : So} {i : Int} (h : inS s i = true) : tagS s i = (cellAt s i).t := if_pos h
theorem tagS_out {s : So} {i : Int} (h : inS s i = false) : tagS s i = -1 := if_neg (by rw [h]; decide)

theorem q28 : FOk q0b (gSIb inS) := fok_ref30_ranged fun ds outs hw hg => by
  obtain ⟨d, r, rfl, hd, e, r', rfl, he, rfl⟩ := hw
  obtain ⟨s, rfl, hs⟩ := wfS hd
  obtain ⟨i, rfl, hi⟩ := wfI he
  simp only [gSIb, dS_eS, int_i, Option.some.injEq] at hg
  subst hg
  simp only [q30, Tree.go, allSay, X.says, X.ev, X.evs, evl, tblS, List.getD_cons_zero, List.getD_cons_succ, List.getElem?_cons_zero, List.getElem?_cons_succ, tt_b, int_i, str_s, rs_r, Option.isSome_some, Option.getD_some, decide_eq_true_eq, decide_eq_false_iff_not, dS_eS, dC_eC, dU_eU, dW_eW, dY_eY, eC_0, eC_1, eU_0, eU_1, eW_0, eW_1, eW_2, eY_0, eY_1, eS_0, eS_1, eS_2, eS_3, eS_4, eS_5, List.length_map, i_inj, b_inj, s_inj, eC_eq, eU_eq, eW_eq, eY_eq, eS_eq, rng64, List.take_succ_cons, List.take_zero, List.nil_append, List.cons_append, decide_true, decide_false, Bool.or_true, true_and, and_true, inS]
theorem q2u : FOk q0g (gSIi tagS) := fok_ref30_tag q28 fun ds outs hw hg => by
  obtain ⟨d, r, rfl, hd, e, r', rfl, he, rfl⟩ := hw
  obtain ⟨s, rfl, hs⟩ := wfS hd
  obtain ⟨i, rfl, hi⟩ := wfI he
  simp only [gSIi, dS_eS, int_i, Option.some.injEq] at hg
  subst hg
  simp only [q48, Tree.go, allSay, X.says, X.ev, X.evs, evl, tblS, List.getD_cons_zero, List.getD_cons_succ, List.getElem?_cons_zero, List.getElem?_cons_succ, tt_b, int_i, str_s, rs_r, Option.isSome_some, Option.getD_some, decide_eq_true_eq, decide_eq_false_iff_not, dS_eS, dC_eC, dU_eU, dW_eW, dY_eY, eC_0, eC_1, eU_0, eU_1, eW_0, eW_1, eW_2, eY_0, eY_1, eS_0, eS_1, eS_2, eS_3, eS_4, eS_5, List.length_map, i_inj, b_inj, s_inj, eC_eq, eU_eq, eW_eq, eY_eq, eS_eq, rng64, List.take_succ_cons, List.take_zero, List.nil_append, List.cons_append, decide_true, decide_false, Bool.or_true, true_and, and_true, gSIb, true_and]
  cases h : inS s i with
  | false => simp [tagS_out h]
  | true =>
    have h' := inS_iff.1 h
    simp [cell_get h, eC_0, tagS_in h, h']
theorem ok_cells_tag : FOk q1g (gSIi tagS) := fok_cells_tag fun ds outs hw hg => by
  obtain ⟨d, r, rfl, hd, e, r', rfl, he, rfl⟩ := hw
  obtain ⟨s, rfl, hs⟩ := wfS hd
  obtain ⟨i, rfl, hi⟩ := wfI he
  simp only [gSIi, dS_eS, int_i, Option.some.injEq] at hg
  subst hg
  simp only [q47, Tree.go, allSay, X.says, X.ev, X.evs, evl, tblS, List.getD_cons_zero, List.getD_cons_succ, List.getElem?_cons_zero, List.getElem?_cons_succ, tt_b, int_i, str_s, rs_r, Option.isSome_some, Option.getD_some, decide_eq_true_eq, decide_eq_false_iff_not, dS_eS, dC_eC, dU_eU, dW_eW, dY_eY, eC_0, eC_1, eU_0, eU_1, eW_0, eW_1, eW_2, eY_0, eY_1, eS_0, eS_1, eS_2, eS_3, eS_4, eS_5, List.length_map, i_inj, b_inj, s_inj, eC_eq, eU_eq, eW_eq, eY_eq, eS_eq, rng64, List.take_succ_cons, List.take_zero, List.nil_append, List.cons_append, decide_true, decide_false, Bool.or_true, true_and, and_true, true_and]
  cases h : inS s i with
  | false =>
    have h' : ¬ (0 ≤ i ∧ i < s.cs.length) := fun q => by rw [inS_iff.2 q] at h; cases h
    have h2 : i < 0 ∨ (s.cs.length : Int) ≤ i := by omega
    simp [tagS_out h]
    omega
  | true =>
    have h' := inS_iff.1 h
    have h1 : ¬ i < 0 := by omega
    have h2 : ¬ (s.cs.length : Int) ≤ i := by omega
    simp [cell_get h, eC_0, tagS_in h, h', h1, h2]
theorem ar_get {s : So} {i : Int} (h : 0 ≤ i ∧ i < s.ys.length) : (D.r (s.ys.map eY)).get i = eY (s.ys.getD i.toNat default) := get_r eY h.1 h.2
theorem ok_ref30_arity : FOk q0y (gSIi arS) := fok_ref30_arity fun ds outs hw hg => by
  obtain ⟨d, r, rfl, hd, e, r', rfl, he, rfl⟩ := hw
  obtain ⟨s, rfl, hs⟩ := wfS hd
  obtain ⟨i, rfl, hi⟩ := wfI he
  simp only [gSIi, dS_eS, int_i, Option.some.injEq] at hg
  subst hg
  simp only [q35, Tree.go, allSay, X.says, X.ev, X.evs, evl, tblS, List.getD_cons_zero, List.getD_cons_succ, List.getElem?_cons_zero, List.getElem?_cons_succ, tt_b, int_i, str_s, rs_r, Option.isSome_some, Option.getD_some, decide_eq_true_eq, decide_eq_false_iff_not, dS_eS, dC_eC, dU_eU, dW_eW, dY_eY, eC_0, eC_1, eU_0, eU_1, eW_0, eW_1, eW_2, eY_0, eY_1, eS_0, eS_1, eS_2, eS_3, eS_4, eS_5, List.length_map, i_inj, b_inj, s_inj, eC_eq, eU_eq, eW_eq, eY_eq, eS_eq, rng64, List.take_succ_cons, List.take_zero, List.nil_append, List.cons_append, decide_true, decide_false, Bool.or_true, true_and, and_true, true_and]
  by_cases h : 0 ≤ i ∧ i < s.ys.length
  · have h1 : ¬ i < 0 := by omega
    have h2 : ¬ (s.ys.length : Int) ≤ i := by omega
    simp [ar_get h, eY_1, arS, h, h1, h2]
  · simp [arS, h]
theorem ok_cells_arity : FOk q1m (gSIi arS) := fok_cells_arity fun ds outs hw hg => by
  obtain ⟨d, r, rfl, hd, e, r', rfl, he, rfl⟩ := hw
  obtain ⟨s, rfl, hs⟩ := wfS hd
  obtain ⟨i, rfl, hi⟩ := wfI he
  simp only [gSIi, dS_eS, int_i, Option.some.injEq] at hg
  subst hg
  simp only [q32, Tree.go, allSay, X.says, X.ev, X.evs, evl, tblS, List.getD_cons_zero, List.getD_cons_succ, List.getElem?_cons_zero, List.getElem?_cons_succ, tt_b, int_i, str_s, rs_r, Option.isSome_some, Option.getD_some, decide_eq_true_eq, decide_eq_false_iff_not, dS_eS, dC_eC, dU_eU, dW_eW, dY_eY, eC_0, eC_1, eU_0, eU_1, eW_0, eW_1, eW_2, eY_0, eY_1, eS_0, eS_1, eS_2, eS_3, eS_4, eS_5, List.length_map, i_inj, b_inj, s_inj, eC_eq, eU_eq, eW_eq, eY_eq, eS_eq, rng64, List.take_succ_cons, List.take_zero, List.nil_append, List.cons_append, decide_true, decide_false, Bool.or_true, true_and, and_true, true_and]
  by_cases h : 0 ≤ i ∧ i < s.ys.length
  · have h1 : ¬ i < 0 := by omega
    have h2 : ¬ (s.ys.length : Int) ≤ i := by omega
    simp [ar_get h, eY_1, arS, h, h1, h2]
  · simp [arS, h]
theorem q11 : FOk q05 (gSCb vcR) := fok_ref30_ValidCell q28 q2u ok_ref30_arity fun ds outs hw hg => by
  obtain ⟨d, r, rfl, hd, e, r', rfl, he, rfl⟩ := hw
  obtain ⟨s, rfl, hs⟩ := wfS hd
  obtain ⟨c, rfl, hc⟩ := wfC he
  simp only [gSCb, dS_eS, dC_eC, Option.some.injEq] at hg
  subst hg
  simp only [q2f, Tree.go, allSay, X.says, X.ev, X.evs, evl, tblS, List.getD_cons_zero, List.getD_cons_succ, List.getElem?_cons_zero, List.getElem?_cons_succ, tt_b, int_i, str_s, rs_r, Option.isSome_some, Option.getD_some, decide_eq_true_eq, decide_eq_false_iff_not, dS_eS, dC_eC, dU_eU, dW_eW, dY_eY, eC_0, eC_1, eU_0, eU_1, eW_0, eW_1, eW_2, eY_0, eY_1, eS_0, eS_1, eS_2, eS_3, eS_4, eS_5, List.length_map, i_inj, b_inj, s_inj, eC_eq, eU_eq, eW_eq, eY_eq, eS_eq, rng64, List.take_succ_cons, List.take_zero, List.nil_append, List.cons_append, decide_true, decide_false, Bool.or_true, true_and, and_true, gSIb, gSIi, vcR, true_and]
  by_cases h0 : c.t = 0
  · simp [h0]
  · by_cases h1 : c.t = 1
    · simp [h1]
    · by_cases h2 : c.t = 2
      · simp [h2]
      · by_cases h3 : c.t = 3
        · simp [h3]
        · by_cases h5 : c.t = 5
          · simp [h5]
          · simp [h0, h1, h2, h3, h5]
theorem q1i : FOk q06 (gSCb vcP) := fok_cells_ValidCell ok_cells_arity ok_cells_tag fun ds outs hw hg => by
  obtain ⟨d, r, rfl, hd, e, r', rfl, he, rfl⟩ := hw
  obtain ⟨s, rfl, hs⟩ := wfS hd
  obtain ⟨c, rfl, hc⟩ := wfC he
  simp only [gSCb, dS_eS, dC_eC, Option.some.injEq] at hg
  subst hg
  simp only [q2j, Tree.go, allSay, X.says, X.ev, X.evs, evl, tblS, List.getD_cons_zero, List.getD_cons_succ, List.getElem?_cons_zero, List.getElem?_cons_succ, tt_b, int_i, str_s, rs_r, Option.isSome_some, Option.getD_some, decide_eq_true_eq, decide_eq_false_iff_not, dS_eS, dC_eC, dU_eU, dW_eW, dY_eY, eC_0, eC_1, eU_0, eU_1, eW_0, eW_1, eW_2, eY_0, eY_1, eS_0, eS_1, eS_2, eS_3, eS_4, eS_5, List.length_map, i_inj, b_inj, s_inj, eC_eq, eU_eq, eW_eq, eY_eq, eS_eq, rng64, List.take_succ_cons, List.take_zero, List.nil_append, List.cons_append, decide_true, decide_false, Bool.or_true, true_and, and_true, gSIi, vcP, true_and]
  by_cases h0 : c.t = 0
  · simp [h0]
  · by_cases h1 : c.t = 1
    · simp [h1]
    · by_cases h2 : c.t = 2
      · simp [h2]
      · by_cases h3 : c.t = 3
        · simp [h3]
        · by_cases h5 : c.t = 5
          · simp [h5]
          · simp [h0, h1, h2, h3, h5]
theorem tag_in {s : So} {i : Int} (h : tagS s i = 1) : inS s i = true := by
  cases hi : inS s i with
  | true => rfl
  | false => rw [tagS_out hi] at h; cases h
theorem ok_ref30_group : FOk q0w (gSIbP inS groupS) := fok_ref30_group q2u fun ds outs hw hg => by
  obtain ⟨d, r, rfl, hd, e, r', rfl, he, rfl⟩ := hw
  obtain ⟨s, rfl, hs⟩ := wfS hd
  obtain ⟨i, rfl, hi⟩ := wfI he
  simp only [gSIbP, dS_eS, int_i, Option.ite_none_right_eq_some, Option.some.injEq] at hg
  obtain ⟨hin, rfl⟩ := hg
  have h1 := inS_iff.1 hin
  have hl := hs.cs.1
  have r1 : i64 (i + 1) := ⟨by omega, by omega⟩
  have r2 : i64 (i + 2) := ⟨by omega, by omega⟩
  simp only [q37, Tree.go, allSay, X.says, X.ev, X.evs, evl, tblS, List.getD_cons_zero, List.getD_cons_succ, List.getElem?_cons_zero, List.getElem?_cons_succ, tt_b, int_i, str_s, rs_r, Option.isSome_some, Option.getD_some, decide_eq_true_eq, decide_eq_false_iff_not, dS_eS, dC_eC, dU_eU, dW_eW, dY_eY, eC_0, eC_1, eU_0, eU_1, eW_0, eW_1, eW_2, eY_0, eY_1, eS_0, eS_1, eS_2, eS_3, eS_4, eS_5, List.length_map, i_inj, b_inj, s_inj, eC_eq, eU_eq, eW_eq, eY_eq, eS_eq, rng64, List.take_succ_cons, List.take_zero, List.nil_append, List.cons_append, decide_true, decide_false, Bool.or_true, true_and, and_true, gSIi, true_and, groupS, r1, r2]
  by_cases ht : tagS s (i + 1) = 1
  · have h2 := tag_in ht
    have h3 := inS_iff.1 h2
    simp [ht, cell_get h2, eC_1, h3.1, h3.2, int_i, Bool.and_assoc, rng64, r1.1, r1.2]
  · simp [ht]
end Go.Proofs.Ytaoamndcdjelnaa


namespace Go.Proofs.Ytaoamndcdjelnaa
open Go.RowKit
set_option linter.unusedVariables false
set_option linter.unusedSimpArgs false

theorem mfind_mset {k k' v : D} : ∀ {l : List D}, mfind k (mset k' v l) = if k' = k then some v else mfind k l
  | [] => by simp [mset, mfind, D.fld, D.fs]
  | p :: l => by
    unfold mset
    split
    · rename_i h
      by_cases hk : k' = k
      · simp [mfind, D.fld, D.fs, hk]
      · have : ¬ (p.fld 0 = k) := fun e => hk (h.symm.trans e)
        simp [mfind, D.fld, D.fs, hk, this]
        intro e
        exact absurd e this
    · rename_i h
      unfold mfind
      by_cases hk : p.fld 0 = k
      · have : ¬ (k' = k) := fun e => h (hk.trans e.symm)
        simp [hk, this]
      · simp only [if_neg hk]
        exact mfind_mset

def okY (y : Sy) : Bool := decide (y.name.size ≤ 100) && (decide (0 ≤ y.ar) && decide (y.ar ≤ 8))
def symAt (l : List Sy) (k : Nat) : Bool := okY (l.getD k default) && !decide (l.getD k default ∈ l.take k)
def symsB (l : List Sy) : Bool := decide (l.length ≤ 1048576) && (List.range l.length).all (symAt l)
def gYsb (f : List Sy → Bool) : List D → Option (List D)
  | [l] => some [.b (f (l.rs.map dY))]
  | _ => none

def Seen (x : D) (l : List Sy) (k : Nat) (L : List D) : Prop := ∀ y, mfind (eY y) L = if y ∈ l.take k then some x else none
theorem Seen.nil {x : D} {l : List Sy} : Seen x l 0 [] := fun y => by simp [mfind]
theorem Seen.put {x : D} {l : List Sy} {k : Nat} {L : List D} (h : Seen x l k L) (hk : k < l.length) : Seen x l (k + 1) (mset (eY (l.getD k default)) x L) := fun y => by
  rw [mfind_mset, take_snoc hk, h y]
  generalize l.getD k default = z
  by_cases hy : y = z
  · subst hy; simp
  · have : ¬ (z = y) := fun e => hy e.symm
    simp [eY_eq, this, hy]

theorem ok_ref30_symbols : FOk q14 (gYsb symsB) := fok_ref30_symbols fun ds outs hw hg => by
  obtain ⟨d, r, rfl, hd, rfl⟩ := hw
  obtain ⟨l, rfl, hl, hok⟩ := wfYs hd
  simp only [gYsb, rs_r, map_id' dY_eY, Option.some.injEq] at hg
  subst hg
  simp only [q2s, Tree.go, allSay, X.says, X.ev, X.evs, evl, tblS, List.getD_cons_zero, List.getD_cons_succ, List.getElem?_cons_zero, List.getElem?_cons_succ, tt_b, int_i, str_s, rs_r, Option.isSome_some, Option.getD_some, decide_eq_true_eq, decide_eq_false_iff_not, dS_eS, dC_eC, dU_eU, dW_eW, dY_eY, eC_0, eC_1, eU_0, eU_1, eW_0, eW_1, eW_2, eY_0, eY_1, eS_0, eS_1, eS_2, eS_3, eS_4, eS_5, List.length_map, i_inj, b_inj, s_inj, eC_eq, eU_eq, eW_eq, eY_eq, eS_eq, rng64, List.take_succ_cons, List.take_zero, List.nil_append, List.cons_append, decide_true, decide_false, Bool.or_true, true_and, and_true, symsB]
  refine ⟨fun h => ?_, fun h => ?_⟩
  · have : ¬ (l.length ≤ 1048576) := by omega
    simp [this]
  · have h0 : l.length ≤ 1048576 := by omega
    refine ⟨fun st => ∃ (k : Nat) (L : List D), k ≤ l.length ∧ st = [.b false, .i k, .mp L] ∧ (∀ j, j < k → symAt l j = true) ∧ Seen (.i 1) l k L, fun st => l.length - (st.getD 1 .u).int.toNat, ⟨0, [], Nat.zero_le _, rfl, (fun j hj => absurd hj (Nat.not_lt_zero _)), Seen.nil⟩, ?_⟩
    rintro st - ⟨k, L, hk, rfl, hP, hL⟩
    simp only [Tree.go, allSay, X.says, X.ev, X.evs, evl, tblS, List.getD_cons_zero, List.getD_cons_succ, List.getElem?_cons_zero, List.getElem?_cons_succ, tt_b, int_i, str_s, rs_r, Option.isSome_some, Option.getD_some, decide_eq_true_eq, decide_eq_false_iff_not, dS_eS, dC_eC, dU_eU, dW_eW, dY_eY, eC_0, eC_1, eU_0, eU_1, eW_0, eW_1, eW_2, eY_0, eY_1, eS_0, eS_1, eS_2, eS_3, eS_4, eS_5, List.length_map, i_inj, b_inj, s_inj, eC_eq, eU_eq, eW_eq, eY_eq, eS_eq, rng64, List.take_succ_cons, List.take_zero, List.nil_append, List.cons_append, decide_true, decide_false, Bool.or_true, true_and, and_true]
    refine ⟨fun hlt => ?_, fun hlt => ?_⟩
    · have hkl : k < l.length := by omega
      have hp : (0 : Int) ≤ k := by omega
      simp only [hlt, hp, get_n eY hkl, eY_0, eY_1, str_s, int_i, true_and, Bool.or_true, decide_true, and_true, Int.toNat_natCast, fnD, ms_mp, hL (l.getD k default)]
      have hr : i64 ((k : Int) + 1) := ⟨by omega, by omega⟩
      have e : (if l.getD k default ∈ l.take k then some (D.i 1) else none).getD (.i 0) = .i (if l.getD k default ∈ l.take k then 1 else 0) := by split <;> rfl
      rw [e]
      refine ⟨fun hb => ?_, fun hb => ⟨hr, ?_⟩⟩
      · have : symAt l k = false := by
          simp only [symAt, okY]
          generalize l.getD k default = z at hb ⊢
          by_cases hm : z ∈ l.take k
          · simp [hm]
          · simp [hm] at hb ⊢
            intro h1 h2
            omega
        rw [all_not hkl this]
        simp
      · have hs : symAt l k = true := by
          simp only [symAt, okY]
          generalize l.getD k default = z at hb ⊢
          by_cases hm : z ∈ l.take k
          · simp [hm] at hb
          · simp [hm] at hb ⊢
            omega
        rw [updB, if_pos rfl]
        refine ⟨⟨k + 1, _, hkl, ?_, upto_succ hP hs, hL.put hkl⟩, ?_⟩
        · simp
        · simp [D.int]
          omega
    · have : k = l.length := by omega
      subst this
      rw [all_yes hP]
      simp [h0]
end Go.Proofs.Ytaoamndcdjelnaa


namespace Go.Proofs.Ytaoamndcdjelnaa
open Go.RowKit
set_option linter.unusedVariables false
set_option linter.unusedSimpArgs false

theorem symsB_ar {s : So} (h : symsB s.ys = true) (n : Int) : -1 ≤ arS s n ∧ arS s n ≤ 8 := by
  unfold arS
  split
  · rename_i hn
    simp only [symsB, Bool.and_eq_true] at h
    have := all_of h.2 (k := n.toNat) (by omega)
    simp only [symAt, okY, Bool.and_eq_true, decide_eq_true_eq] at this
    omega
  · omega
def endsN (s : So) : Nat → Int → Bool
  | 0, _ => false
  | k + 1, n => if tagS s n = 0 ∧ ¬ (cellAt s n).n = n then endsN s k (cellAt s n).n else true
def endsB (s : So) (n : Int) : Bool := endsN s (s.cs.length + 1) n

theorem tag_in' {s : So} {i : Int} {t : Int} (ht : t ≠ -1) (h : tagS s i = t) : inS s i = true := by
  cases hi : inS s i with
  | true => rfl
  | false => rw [tagS_out hi] at h; exact absurd h.symm ht

theorem ok_ref30_ends : FOk q1y (gSIb endsB) := fok_ref30_ends q2u fun ds outs hw hg => by
  obtain ⟨d, r, rfl, hd, e, r', rfl, he, rfl⟩ := hw
  obtain ⟨s, rfl, hs⟩ := wfS hd
  obtain ⟨i, rfl, hi⟩ := wfI he
  simp only [gSIb, dS_eS, int_i, Option.some.injEq] at hg
  subst hg
  have hl := hs.cs.1
  simp only [q3r, Tree.go, allSay, X.says, X.ev, X.evs, evl, tblS, List.getD_cons_zero, List.getD_cons_succ, List.getElem?_cons_zero, List.getElem?_cons_succ, tt_b, int_i, str_s, rs_r, Option.isSome_some, Option.getD_some, decide_eq_true_eq, decide_eq_false_iff_not, dS_eS, dC_eC, dU_eU, dW_eW, dY_eY, eC_0, eC_1, eU_0, eU_1, eW_0, eW_1, eW_2, eY_0, eY_1, eS_0, eS_1, eS_2, eS_3, eS_4, eS_5, List.length_map, i_inj, b_inj, s_inj, eC_eq, eU_eq, eW_eq, eY_eq, eS_eq, rng64, List.take_succ_cons, List.take_zero, List.nil_append, List.cons_append, decide_true, decide_false, Bool.or_true, true_and, and_true, gSIi]
  refine ⟨fun st => ∃ (k : Nat) (m : Int), k ≤ s.cs.length + 1 ∧ st = [.b false, .i m, .i k] ∧ endsN s (s.cs.length + 1 - k) m = endsB s i, fun st => s.cs.length + 1 - (st.getD 2 .u).int.toNat, ⟨0, i, Nat.zero_le _, rfl, rfl⟩, ?_⟩
  rintro st - ⟨k, m, hk, rfl, hP⟩
  simp only [Tree.go, allSay, X.says, X.ev, X.evs, evl, tblS, List.getD_cons_zero, List.getD_cons_succ, List.getElem?_cons_zero, List.getElem?_cons_succ, tt_b, int_i, str_s, rs_r, Option.isSome_some, Option.getD_some, decide_eq_true_eq, decide_eq_false_iff_not, dS_eS, dC_eC, dU_eU, dW_eW, dY_eY, eC_0, eC_1, eU_0, eU_1, eW_0, eW_1, eW_2, eY_0, eY_1, eS_0, eS_1, eS_2, eS_3, eS_4, eS_5, List.length_map, i_inj, b_inj, s_inj, eC_eq, eU_eq, eW_eq, eY_eq, eS_eq, rng64, List.take_succ_cons, List.take_zero, List.nil_append, List.cons_append, decide_true, decide_false, Bool.or_true, true_and, and_true, gSIi]
  refine ⟨fun hlt => ?_, fun hlt => ?_⟩
  · have hkl : k ≤ s.cs.length := by omega
    have hr : i64 ((k : Int) + 1) := ⟨by omega, by omega⟩
    obtain ⟨n, hn⟩ : ∃ n, s.cs.length + 1 - k = n + 1 := ⟨s.cs.length - k, by omega⟩
    rw [hn] at hP
    unfold endsN at hP
    have hn2 : s.cs.length + 1 - (k + 1) = n := by omega
    by_cases ht : tagS s m = 0
    · have hin := tag_in' (by decide) ht
      have h3 := inS_iff.1 hin
      simp only [ht, cell_get hin, eC_1, h3.1, h3.2, int_i, i_inj, hr] at hP ⊢
      refine ⟨by simp, fun hx => ?_, fun hx => ?_⟩
      · have : (cellAt s m).n = m := by simpa using hx
        rw [if_neg (by simp [this])] at hP
        simp [← hP]
      · have hx' : ¬ (cellAt s m).n = m := by simpa using hx
        rw [if_pos ⟨trivial, hx'⟩] at hP
        refine ⟨⟨trivial, trivial⟩, ⟨trivial, trivial⟩, ?_⟩
        rw [updB, if_pos rfl]
        refine ⟨⟨k + 1, (cellAt s m).n, by omega, by simp, by rw [hn2]; exact hP⟩, ?_⟩
        simp [D.int]
        omega
    · rw [if_neg (by simp [ht])] at hP
      simp [ht, ← hP]
  · have : k = s.cs.length + 1 := by omega
    subst this
    rw [Nat.sub_self] at hP
    simp [← hP, endsN]

def cellR (s : So) (i : Int) : Bool :=
  if (cellAt s i).t = 4 then decide (1 ≤ arS s (cellAt s i).n) && (inS s (i + arS s (cellAt s i).n) && (List.range (arS s (cellAt s i).n).toNat).all fun j => !decide (tagS s (i + ((j : Int) + 1)) = 4))
  else vcR s (cellAt s i) && (endsB s i && (!decide ((cellAt s i).t = 5) || (decide ((cellAt s i).n = i) && groupS s i)))
def cellQ (s : So) (i : Int) : Bool := inS s i && symsB s.ys

theorem ok_ref30_cell : FOk q1j (gSIbP cellQ cellR) := fok_ref30_cell ok_ref30_arity q28 q2u q11 ok_ref30_ends ok_ref30_group fun ds outs hw hg => by
  obtain ⟨d, r, rfl, hd, e, r', rfl, he, rfl⟩ := hw
  obtain ⟨s, rfl, hs⟩ := wfS hd
  obtain ⟨i, rfl, hi⟩ := wfI he
  simp only [gSIbP, dS_eS, int_i, Option.ite_none_right_eq_some, Option.some.injEq, cellQ, Bool.and_eq_true] at hg
  obtain ⟨⟨hin, hy⟩, rfl⟩ := hg
  have h1 := inS_iff.1 hin
  have hl := hs.cs.1
  obtain ⟨ha, hb⟩ := symsB_ar hy (cellAt s i).n
  simp only [q3s, Tree.go, allSay, X.says, X.ev, X.evs, evl, tblS, List.getD_cons_zero, List.getD_cons_succ, List.getElem?_cons_zero, List.getElem?_cons_succ, tt_b, int_i, str_s, rs_r, Option.isSome_some, Option.getD_some, decide_eq_true_eq, decide_eq_false_iff_not, dS_eS, dC_eC, dU_eU, dW_eW, dY_eY, eC_0, eC_1, eU_0, eU_1, eW_0, eW_1, eW_2, eY_0, eY_1, eS_0, eS_1, eS_2, eS_3, eS_4, eS_5, List.length_map, i_inj, b_inj, s_inj, eC_eq, eU_eq, eW_eq, eY_eq, eS_eq, rng64, List.take_succ_cons, List.take_zero, List.nil_append, List.cons_append, decide_true, decide_false, Bool.or_true, true_and, and_true, gSIi, gSIb, gSCb, gSIbP, cell_get hin, h1.1, h1.2, hin, if_true]
  unfold cellR
  generalize arS s (cellAt s i).n = K at ha hb ⊢
  refine ⟨fun h4 => ?_, fun h4 => ?_⟩
  · have hr : i64 (i + K) := ⟨by omega, by omega⟩
    simp only [h4, hr, if_true]
    refine ⟨by simp [rng64, hr.1, hr.2], fun hx => ?_, fun hx => ?_⟩
    · have hx' : K < 1 ∨ inS s (i + K) = false := by simpa using hx
      rcases hx' with hx | hx
      · have : ¬ (1 ≤ K) := by omega
        simp [this]
      · simp [hx]
    · have hx' : 1 ≤ K ∧ inS s (i + K) = true := by simpa using hx
      obtain ⟨hk, hin2⟩ := hx'
      simp only [hk, hin2]
      refine ⟨fun st => ∃ (j : Nat), (j : Int) ≤ K ∧ st = [.b false, .i ((j : Int) + 1)] ∧ ∀ m : Nat, m < j → (!decide (tagS s (i + ((m : Int) + 1)) = 4)) = true, fun st => K.toNat + 1 - (st.getD 1 .u).int.toNat, ⟨0, by omega, by simp, fun m hm => absurd hm (Nat.not_lt_zero _)⟩, ?_⟩
      rintro st - ⟨j, hj, rfl, hP⟩
      simp only [Tree.go, allSay, X.says, X.ev, X.evs, evl, tblS, List.getD_cons_zero, List.getD_cons_succ, List.getElem?_cons_zero, List.getElem?_cons_succ, tt_b, int_i, str_s, rs_r, Option.isSome_some, Option.getD_some, decide_eq_true_eq, decide_eq_false_iff_not, dS_eS, dC_eC, dU_eU, dW_eW, dY_eY, eC_0, eC_1, eU_0, eU_1, eW_0, eW_1, eW_2, eY_0, eY_1, eS_0, eS_1, eS_2, eS_3, eS_4, eS_5, List.length_map, i_inj, b_inj, s_inj, eC_eq, eU_eq, eW_eq, eY_eq, eS_eq, rng64, List.take_succ_cons, List.take_zero, List.nil_append, List.cons_append, decide_true, decide_false, Bool.or_true, true_and, and_true, gSIi]
      refine ⟨fun hlt => ?_, fun hlt => ?_⟩
      · have hr2 : i64 (i + ((j : Int) + 1)) := ⟨by omega, by omega⟩
        have hr3 : i64 (((j : Int) + 1) + 1) := ⟨by omega, by omega⟩
        refine ⟨hr2, fun hx => ?_, fun hx => ⟨hr3, ?_⟩⟩
        · rw [all_not (k := j) (by omega) (by simp [hx])]
          simp
        · rw [updB, if_pos rfl]
          refine ⟨⟨j + 1, by omega, by simp, upto_succ hP (by simp [hx])⟩, ?_⟩
          simp [D.int]
          omega
      · have : j = K.toNat := by omega
        subst this
        rw [all_yes hP]
        simp
  · simp only [h4, if_false]
    refine ⟨fun hx => ?_, fun hx => ?_⟩
    · have hx' : vcR s (cellAt s i) = false ∨ endsB s i = false := by simpa using hx
      rcases hx' with hx | hx <;> simp [hx]
    · have hx' : vcR s (cellAt s i) = true ∧ endsB s i = true := by simpa using hx
      simp [hx'.1, hx'.2]

def fitsP (s : So) (i : Int) : Bool :=
  if (cellAt s i).t = 4 then decide (1 ≤ arS s (cellAt s i).n) && (List.range (arS s (cellAt s i).n).toNat).all fun j => decide (0 ≤ tagS s (i + ((j : Int) + 1))) && !decide (tagS s (i + ((j : Int) + 1)) = 4)
  else if (cellAt s i).t = 5 then decide ((cellAt s i).n = i) && groupS s i else vcP s (cellAt s i)
def oldB (vc : So → Ce → Bool) (rg : So → Int → Bool) (s : So) (u : Un) : Bool :=
  rg s u.at' && if u.old.t = 0 then decide (u.old.n = u.at') else if u.old.t = 5 then decide (u.old.n = u.at') && (groupS s u.at' && !decide (tagS s (u.at' - 1) = 5)) else if u.old.t = 1 ∨ u.old.t = 2 ∨ u.old.t = 3 then vc s u.old else false
def oldR : So → Un → Bool := oldB vcR inS
def oldP : So → Un → Bool := oldB vcP fun s i => decide (0 ≤ tagS s i)
theorem ok_ref30_old : FOk q1r (gSUb oldR) := fok_ref30_old q28 ok_ref30_group q2u q11 fun ds outs hw hg => by
  obtain ⟨d, r, rfl, hd, e, r', rfl, he, rfl⟩ := hw
  obtain ⟨s, rfl, hs⟩ := wfS hd
  obtain ⟨u, rfl, hu⟩ := wfU he
  simp only [gSUb, dS_eS, dU_eU, Option.some.injEq] at hg
  subst hg
  have hl := hs.cs.1
  simp only [q45, Tree.go, allSay, X.says, X.ev, X.evs, evl, tblS, List.getD_cons_zero, List.getD_cons_succ, List.getElem?_cons_zero, List.getElem?_cons_succ, tt_b, int_i, str_s, rs_r, Option.isSome_some, Option.getD_some, decide_eq_true_eq, decide_eq_false_iff_not, dS_eS, dC_eC, dU_eU, dW_eW, dY_eY, eC_0, eC_1, eU_0, eU_1, eW_0, eW_1, eW_2, eY_0, eY_1, eS_0, eS_1, eS_2, eS_3, eS_4, eS_5, List.length_map, i_inj, b_inj, s_inj, eC_eq, eU_eq, eW_eq, eY_eq, eS_eq, rng64, List.take_succ_cons, List.take_zero, List.nil_append, List.cons_append, decide_true, decide_false, Bool.or_true, true_and, and_true, gSIi, gSIb, gSCb, gSIbP, oldR, oldB]
  cases hin : inS s u.at' with
  | false => simp
  | true =>
    have h1 := inS_iff.1 hin
    have hr : i64 (u.at' - 1) := ⟨by omega, by omega⟩
    simp only [hr, if_true]
    by_cases h0 : u.old.t = 0
    · simp [h0]
    · by_cases h5 : u.old.t = 5
      · simp [h5, Bool.and_assoc, tt_b, rng64, hr.1, hr.2]
      · by_cases h2 : u.old.t = 1
        · simp [h2]
        · by_cases h3 : u.old.t = 2
          · simp [h3]
          · by_cases h4 : u.old.t = 3
            · simp [h4]
            · simp [h0, h5, h2, h3, h4]
end Go.Proofs.Ytaoamndcdjelnaa


namespace Go.Proofs.Ytaoamndcdjelnaa
open Go.RowKit
set_option linter.unusedVariables false
set_option linter.unusedSimpArgs false

section
variable {s : So}

def Ns (s : So) (n : Int) : Prop := tagS s n = 0 ∧ ¬ (cellAt s n).n = n
abbrev nx (s : So) (n : Int) : Int := (cellAt s n).n
theorem endsN_ns {k : Nat} {n : Int} (h : Ns s n) : endsN s (k + 1) n = endsN s k (nx s n) := if_pos h
theorem endsN_st {k : Nat} {n : Int} (h : ¬ Ns s n) : endsN s (k + 1) n = true := if_neg h
theorem Ns.inS {n : Int} (h : Ns s n) : inS s n = true := tag_in' (by decide) h.1
theorem endsN_up {k : Nat} : ∀ {n : Int}, endsN s k n = true → endsN s (k + 1) n = true := by
  induction k with
  | zero => intro n h; cases h
  | succ k ih =>
    intro n h
    by_cases hn : Ns s n
    · rw [endsN_ns hn] at h ⊢
      exact ih h
    · exact endsN_st hn
theorem endsN_le {k j : Nat} (hk : k ≤ j) {n : Int} (h : endsN s k n = true) : endsN s j n = true := by
  obtain ⟨d, rfl⟩ := Nat.exists_eq_add_of_le hk
  clear hk
  induction d with
  | zero => exact h
  | succ d ih => exact endsN_up ih
def En (s : So) (n : Int) : Prop := ∃ k, endsN s k n = true
theorem En.st {n : Int} (h : ¬ Ns s n) : En s n := ⟨1, endsN_st h⟩
theorem En.ns {n : Int} (h : Ns s n) (he : En s (nx s n)) : En s n := let ⟨k, hk⟩ := he; ⟨k + 1, (endsN_ns h).trans hk⟩

theorem nodup_lt : ∀ (n : Nat) (l : List Nat), l.Nodup → (∀ x ∈ l, x < n) → l.length ≤ n
  | 0, [], _, _ => Nat.le_refl _
  | 0, x :: l, _, h => absurd (h x List.mem_cons_self) (Nat.not_lt_zero _)
  | n + 1, l, hn, h => by
    have h1 := nodup_lt n (l.erase n) (hn.erase n) fun x hx => by
      have h2 := (hn.mem_erase_iff).1 hx
      have := h x h2.2
      have := h2.1
      omega
    have h2 := List.length_erase (a := n) (l := l)
    split at h2 <;> omega

theorem rank_list : ∀ (k : Nat) (n : Int), endsN s (k + 1) n = true → endsN s k n = false → ∃ l : List Int, l.length = k ∧ l.Nodup ∧ (∀ x ∈ l, inS s x = true) ∧ ∀ x ∈ l, ∃ j, j ≤ k ∧ endsN s (j + 1) x = true
  | 0, n, _, _ => ⟨[], rfl, List.nodup_nil, (fun x hx => by cases hx), fun x hx => by cases hx⟩
  | k + 1, n, h1, h2 => by
    have hn : Ns s n := Classical.byContradiction fun hn => by rw [endsN_st hn] at h2; cases h2
    rw [endsN_ns hn] at h1 h2
    obtain ⟨l, e1, e2, e3, e4⟩ := rank_list k _ h1 h2
    refine ⟨n :: l, by simp [e1], ?_, fun x hx => ?_, fun x hx => ?_⟩
    · refine List.nodup_cons.2 ⟨fun hm => ?_, e2⟩
      obtain ⟨j, hj, he⟩ := e4 n hm
      rw [endsN_ns hn] at he
      rw [endsN_le hj he] at h2
      cases h2
    · rcases List.mem_cons.1 hx with rfl | hx
      · exact hn.inS
      · exact e3 x hx
    · rcases List.mem_cons.1 hx with rfl | hx
      · exact ⟨k + 1, Nat.le_refl _, by rw [endsN_ns hn]; exact h1⟩
      · obtain ⟨j, hj, he⟩ := e4 x hx
        exact ⟨j, by omega, he⟩
theorem En.ends {n : Int} (h : En s n) : endsB s n = true := by
  obtain ⟨k, hk⟩ := h
  induction k with
  | zero => cases hk
  | succ k ih =>
    cases hk' : endsN s k n with
    | true => exact ih hk'
    | false =>
      obtain ⟨l, e1, e2, e3, -⟩ := rank_list k n hk hk'
      have h1 := nodup_lt s.cs.length (l.map Int.toNat) ?_ ?_
      · rw [List.length_map, e1] at h1
        exact endsN_le (by omega) hk
      · refine List.Pairwise.map _ (fun a b h => h) ?_
        refine List.Pairwise.imp_of_mem (R := fun a b => a ≠ b) (fun {a b} ha hb hab e => hab ?_) e2
        have h1 := inS_iff.1 (e3 a ha)
        have h2 := inS_iff.1 (e3 b hb)
        omega
      · intro x hx
        obtain ⟨a, ha, rfl⟩ := List.mem_map.1 hx
        have h1 := inS_iff.1 (e3 a ha)
        omega

def Ch (s : So) : List Int → Int → Prop
  | [], _ => True
  | q :: l, a => Ns s q ∧ nx s q = l.headD a ∧ Ch s l a
theorem Ch.en : ∀ {l : List Int} {a : Int}, Ch s l a → En s a → ∀ q ∈ l, En s q
  | [], a, _, _, q, hq => by cases hq
  | q :: l, a, ⟨g1, g2, g3⟩, he, x, hx => by
    have ih := Ch.en g3 he
    rcases List.mem_cons.1 hx with rfl | hx
    · refine En.ns g1 ?_
      rw [g2]
      cases l with
      | nil => exact he
      | cons y l => exact ih y List.mem_cons_self
    · exact ih x hx
theorem Ch.next : ∀ {l : List Int} {a : Int}, Ch s l a → ∀ q ∈ l, Ns s q ∧ (nx s q ∈ l ∨ nx s q = a)
  | [], a, _, q, hq => by cases hq
  | q :: l, a, ⟨g1, g2, g3⟩, x, hx => by
    rcases List.mem_cons.1 hx with rfl | hx
    · refine ⟨g1, ?_⟩
      rw [g2]
      cases l with
      | nil => exact .inr rfl
      | cons y l => exact .inl (by simp)
    · obtain ⟨h1, h2⟩ := Ch.next g3 x hx
      exact ⟨h1, h2.imp (List.mem_cons_of_mem _) id⟩
structure Mk0 (s : So) (m : List Int) : Prop where
  len : m.length = s.cs.length
  en : ∀ j : Nat, m.getD j 0 = 2 → En s j
end
end Go.Proofs.Ytaoamndcdjelnaa


namespace Go.Proofs.Ytaoamndcdjelnaa
open Go.RowKit
set_option linter.unusedVariables false
set_option linter.unusedSimpArgs false

instance {s : So} {n : Int} : Decidable (Ns s n) := inferInstanceAs (Decidable (_ ∧ _))

end Go.Proofs.Ytaoamndcdjelnaa


namespace Go.Proofs.Ytaoamndcdjelnaa
open Go.RowKit
set_option linter.unusedVariables false
set_option linter.unusedSimpArgs false

theorem scan_ok {S : Nat → List D → Option (List D)} {R : List D → Prop} {id n : Nat} {x0 : X} {body : Tree} {l : List D} {B : Nat → List D → Prop} {v0 : D} (N : Nat) (P : Nat → Bool) (h0 : x0.ev (evl S l) = v0)
    (h : ∀ (k : Nat) (B' : Nat → List D → Prop), k ≤ N → (∀ j, j < k → P j = true) → (k < N → P k = true → B' id [v0, .i ((k : Int) + 1)]) → (∀ j, j ≠ id → B' j = B j) → body.go S R (l.take n ++ [v0, .i k]) B') : (Tree.loop id n [x0, .lit (.i 0)] body).go S R l B := by
  rw [go_loop]
  refine ⟨fun st => ∃ k : Nat, k ≤ N ∧ st = [v0, .i k] ∧ ∀ j, j < k → P j = true, fun st => N - (st.getD 1 .u).int.toNat, ⟨0, Nat.zero_le _, by simp [X.evs, X.ev, h0], fun j hj => absurd hj (Nat.not_lt_zero _)⟩, ?_⟩
  rintro st - ⟨k, hk, rfl, hP⟩
  refine h k _ hk hP (fun hlt hp => ?_) fun j hj => by rw [updB, if_neg hj]
  rw [updB, if_pos rfl]
  refine ⟨⟨k + 1, hlt, by simp, upto_succ hP hp⟩, ?_⟩
  simp [D.int]
  omega

def wkB (vc : So → Ce → Bool) (s : So) (w : Wk) : Bool := decide (1 ≤ w.ser) && (decide (w.ser ≤ s.ser) && (vc s w.att && vc s w.val))
def headB (s : So) : Bool := decide (1 ≤ s.mx) && (decide (s.mx ≤ 1048576) && (decide ((s.cs.length : Int) ≤ s.mx) && (decide (0 ≤ s.ser) && symsB s.ys)))
def validR (s : So) : Bool := headB s && ((List.range s.cs.length).all (fun i => cellR s (i : Nat)) && ((List.range s.tr.length).all (fun i => oldR s (s.tr.getD i default)) && (List.range s.wk.length).all fun i => wkB vcR s (s.wk.getD i default)))
theorem tag_nn {s : So} {n : Int} (h : 0 ≤ tagS s n) : inS s n = true := by
  cases hi : inS s n with
  | true => rfl
  | false => rw [tagS_out hi] at h; omega
theorem ok_ref30_Valid : FOk q0x (gSb validR) := fok_ref30_Valid ok_ref30_symbols ok_ref30_cell ok_ref30_old q11 fun ds outs hw hg => by
  obtain ⟨d, r, rfl, hd, rfl⟩ := hw
  obtain ⟨s, rfl, hs⟩ := wfS hd
  simp only [gSb, dS_eS, Option.some.injEq] at hg
  subst hg
  have hl := hs.cs.1
  have hl2 := hs.tr.1
  have hl3 := hs.wk.1
  have hsy : gYsb symsB [D.r (s.ys.map eY)] = some [.b (symsB s.ys)] := by simp [gYsb, rs_r, map_id' dY_eY]
  rw [q3b, q00]
  refine ⟨by simp only [q00, go_br, q01, q02, allSay, X.says, X.ev, X.evs, evl, tblS, List.getD_cons_zero, List.getD_cons_succ, List.getElem?_cons_zero, List.getElem?_cons_succ, tt_b, int_i, str_s, rs_r, Option.isSome_some, Option.getD_some, decide_eq_true_eq, decide_eq_false_iff_not, dS_eS, dC_eC, dU_eU, dW_eW, dY_eY, eC_0, eC_1, eU_0, eU_1, eW_0, eW_1, eW_2, eY_0, eY_1, eS_0, eS_1, eS_2, eS_3, eS_4, eS_5, List.length_map, i_inj, b_inj, s_inj, eC_eq, eU_eq, eW_eq, eY_eq, eS_eq, rng64, List.take_succ_cons, List.take_zero, List.nil_append, List.cons_append, decide_true, decide_false, Bool.or_true, true_and, and_true, hsy], ?_⟩
  rw [go_br]
  have hcond : (X.ev (evl (tblS [(q14, gYsb symsB), (q1j, gSIbP cellQ cellR), (q1r, gSUb oldR), (q05, gSCb vcR)]) [eS s]) (.or (.or (.or (.or (.lt (.fld (.tok 0) 5) (.lit (.i 1))) (.lt (.lit (.i 1048576)) (.fld (.tok 0) 5))) (.lt (.fld (.tok 0) 5) (.len (.fld (.tok 0) 0)))) (.lt (.fld (.tok 0) 4) (.lit (.i 0)))) (.not (.call 0 0 [(.fld (.tok 0) 1)])))).tt = !headB s := by
    simp only [q00, go_br, q01, q02, allSay, X.says, X.ev, X.evs, evl, tblS, List.getD_cons_zero, List.getD_cons_succ, List.getElem?_cons_zero, List.getElem?_cons_succ, tt_b, int_i, str_s, rs_r, Option.isSome_some, Option.getD_some, decide_eq_true_eq, decide_eq_false_iff_not, dS_eS, dC_eC, dU_eU, dW_eW, dY_eY, eC_0, eC_1, eU_0, eU_1, eW_0, eW_1, eW_2, eY_0, eY_1, eS_0, eS_1, eS_2, eS_3, eS_4, eS_5, List.length_map, i_inj, b_inj, s_inj, eC_eq, eU_eq, eW_eq, eY_eq, eS_eq, rng64, List.take_succ_cons, List.take_zero, List.nil_append, List.cons_append, decide_true, decide_false, Bool.or_true, true_and, and_true, hsy, headB]
    by_cases h1 : s.mx < 1
    · have : ¬ 1 ≤ s.mx := by omega
      simp [h1, this]
    · by_cases h2 : 1048576 < s.mx
      · have : ¬ s.mx ≤ 1048576 := by omega
        simp [h2, this]
      · by_cases h3 : s.mx < s.cs.length
        · have : ¬ (s.cs.length : Int) ≤ s.mx := by omega
          simp [h3, this]
        · by_cases h4 : s.ser < 0
          · have : ¬ 0 ≤ s.ser := by omega
            simp [h4, this]
          · have a1 : 1 ≤ s.mx := by omega
            have a2 : s.mx ≤ 1048576 := by omega
            have a3 : (s.cs.length : Int) ≤ s.mx := by omega
            have a4 : 0 ≤ s.ser := by omega
            simp [h1, h2, h3, h4, a1, a2, a3, a4]
  refine ⟨fun hx => ?_, fun hx => ?_⟩
  · have hh : headB s = false := by
      have := hcond.symm.trans hx
      simpa using this
    simp [q01, X.evs, X.ev, validR, hh]
  have hh : headB s = true := by
    have := hcond.symm.trans hx
    simpa using this
  have hsy2 : symsB s.ys = true := by
    simp only [headB, Bool.and_eq_true] at hh
    exact hh.2.2.2.2
  refine scan_ok s.cs.length (fun i => cellR s (i : Nat)) (v0 := .b false) rfl fun k B' hk hP hB _ => ?_
  rw [go_br]
  refine ⟨fun hlt => ?_, fun hlt => ?_⟩
  · have hkl : k < s.cs.length := by simpa [X.ev, evl, eS_0, D.int, D.rs, D.tt] using hlt
    have hin : inS s (k : Nat) = true := inS_iff.2 ⟨by omega, by omega⟩
    have hQ : cellQ s (k : Nat) = true := by simp [cellQ, hin, hsy2]
    simp only [q00, go_br, q01, q02, allSay, X.says, X.ev, X.evs, evl, tblS, List.getD_cons_zero, List.getD_cons_succ, List.getElem?_cons_zero, List.getElem?_cons_succ, tt_b, int_i, str_s, rs_r, Option.isSome_some, Option.getD_some, decide_eq_true_eq, decide_eq_false_iff_not, dS_eS, dC_eC, dU_eU, dW_eW, dY_eY, eC_0, eC_1, eU_0, eU_1, eW_0, eW_1, eW_2, eY_0, eY_1, eS_0, eS_1, eS_2, eS_3, eS_4, eS_5, List.length_map, i_inj, b_inj, s_inj, eC_eq, eU_eq, eW_eq, eY_eq, eS_eq, rng64, List.take_succ_cons, List.take_zero, List.nil_append, List.cons_append, decide_true, decide_false, Bool.or_true, true_and, and_true, gSIbP, hQ, if_true]
    refine ⟨fun hb => ?_, fun hb => ⟨⟨by omega, by omega⟩, ?_⟩⟩
    · have : cellR s (k : Nat) = false := by simpa using hb
      have := all_not (P := fun i => cellR s (i : Nat)) hkl this
      simp [validR, this]
    · exact hB hkl (by simpa using hb)
  have hc : (List.range s.cs.length).all (fun i => cellR s (i : Nat)) = true := by
    have : k = s.cs.length := by
      have : ¬ (k < s.cs.length) := by simpa [X.ev, evl, eS_0, D.int, D.rs, D.tt] using hlt
      omega
    subst this
    exact all_yes hP
  refine scan_ok s.tr.length (fun i => oldR s (s.tr.getD i default)) (v0 := .b false) rfl fun k B' hk hP hB _ => ?_
  rw [go_br]
  refine ⟨fun hlt => ?_, fun hlt => ?_⟩
  · have hkl : k < s.tr.length := by simpa [X.ev, evl, eS_2, D.int, D.rs, D.tt] using hlt
    simp only [q00, go_br, q01, q02, allSay, X.says, X.ev, X.evs, evl, tblS, List.getD_cons_zero, List.getD_cons_succ, List.getElem?_cons_zero, List.getElem?_cons_succ, tt_b, int_i, str_s, rs_r, Option.isSome_some, Option.getD_some, decide_eq_true_eq, decide_eq_false_iff_not, dS_eS, dC_eC, dU_eU, dW_eW, dY_eY, eC_0, eC_1, eU_0, eU_1, eW_0, eW_1, eW_2, eY_0, eY_1, eS_0, eS_1, eS_2, eS_3, eS_4, eS_5, List.length_map, i_inj, b_inj, s_inj, eC_eq, eU_eq, eW_eq, eY_eq, eS_eq, rng64, List.take_succ_cons, List.take_zero, List.nil_append, List.cons_append, decide_true, decide_false, Bool.or_true, true_and, and_true, gSUb, get_n eU hkl]
    refine ⟨⟨by omega, by omega⟩, fun hb => ?_, fun hb => ⟨⟨by omega, by omega⟩, ?_⟩⟩
    · have : oldR s (s.tr.getD k default) = false := by simpa only [Bool.not_eq_true'] using hb
      have := all_not (P := fun i => oldR s (s.tr.getD i default)) hkl this
      simp only [validR, this, Bool.false_and, Bool.and_false]
    · exact hB hkl (by simpa only [Bool.not_eq_false'] using hb)
  have hc2 : (List.range s.tr.length).all (fun i => oldR s (s.tr.getD i default)) = true := by
    have : k = s.tr.length := by
      have : ¬ (k < s.tr.length) := by simpa [X.ev, evl, eS_2, D.int, D.rs, D.tt] using hlt
      omega
    subst this
    exact all_yes hP
  refine scan_ok s.wk.length (fun i => wkB vcR s (s.wk.getD i default)) (v0 := .b false) rfl fun k B' hk hP hB _ => ?_
  rw [go_br]
  refine ⟨fun hlt => ?_, fun hlt => ?_⟩
  · have hkl : k < s.wk.length := by simpa [X.ev, evl, eS_3, D.int, D.rs, D.tt] using hlt
    simp only [q00, go_br, q01, q02, allSay, X.says, X.ev, X.evs, evl, tblS, List.getD_cons_zero, List.getD_cons_succ, List.getElem?_cons_zero, List.getElem?_cons_succ, tt_b, int_i, str_s, rs_r, Option.isSome_some, Option.getD_some, decide_eq_true_eq, decide_eq_false_iff_not, dS_eS, dC_eC, dU_eU, dW_eW, dY_eY, eC_0, eC_1, eU_0, eU_1, eW_0, eW_1, eW_2, eY_0, eY_1, eS_0, eS_1, eS_2, eS_3, eS_4, eS_5, List.length_map, i_inj, b_inj, s_inj, eC_eq, eU_eq, eW_eq, eY_eq, eS_eq, rng64, List.take_succ_cons, List.take_zero, List.nil_append, List.cons_append, decide_true, decide_false, Bool.or_true, true_and, and_true, gSCb, get_n eW hkl]
    have hw : ((decide ((s.wk.getD k default).ser < 1) || decide (s.ser < (s.wk.getD k default).ser) || !vcR s (s.wk.getD k default).att || !vcR s (s.wk.getD k default).val)) = !wkB vcR s (s.wk.getD k default) := by
      generalize s.wk.getD k default = w
      simp only [wkB]
      by_cases h1 : w.ser < 1
      · have : ¬ 1 ≤ w.ser := by omega
        simp [h1, this]
      · by_cases h2 : s.ser < w.ser
        · have : ¬ w.ser ≤ s.ser := by omega
          simp [h2, this]
        · have a1 : 1 ≤ w.ser := by omega
          have a2 : w.ser ≤ s.ser := by omega
          simp [h1, h2, a1, a2]
    refine ⟨⟨by omega, by omega⟩, fun hb => ?_, fun hb => ⟨⟨by omega, by omega⟩, ?_⟩⟩
    · rw [hw] at hb
      have := all_not (P := fun i => wkB vcR s (s.wk.getD i default)) hkl (by simpa only [Bool.not_eq_true'] using hb)
      simp only [validR, this, Bool.and_false]
    · rw [hw] at hb
      exact hB hkl (by simpa only [Bool.not_eq_false'] using hb)
  have hc3 : (List.range s.wk.length).all (fun i => wkB vcR s (s.wk.getD i default)) = true := by
    have : k = s.wk.length := by
      have : ¬ (k < s.wk.length) := by simpa [X.ev, evl, eS_3, D.int, D.rs, D.tt] using hlt
      omega
    subst this
    exact all_yes hP
  simp only [q01, X.evs, X.ev, validR, hh, hc, hc2, hc3, Bool.and_true]
end Go.Proofs.Ytaoamndcdjelnaa


namespace Go.Proofs.Ytaoamndcdjelnaa
open Go.RowKit
set_option linter.unusedVariables false
set_option linter.unusedSimpArgs false

theorem rows_eq {l m : List D} (hl : l.length = m.length) (h : ∀ j, j < l.length → l.getD j .u = m.getD j .u) : l = m := by
  refine List.ext_getElem hl fun j h1 h2 => ?_
  have := h j h1
  simpa [List.getD_eq_getElem?_getD, h1, h2] using this
theorem get_k (l : List D) (k : Nat) : (D.r l).get (k : Int) = l.getD k .u := rfl

def clQ (s : So) : Bool := decide (s.cs.length ≤ 8796093021952) && (decide (s.ys.length ≤ 5864062014634) && (decide (s.tr.length ≤ 5864062014634) && decide (s.wk.length ≤ 3518437208780)))
def gClone : List D → Option (List D)
  | [s] => if clQ (dS s) then some [eS (dS s)] else none
  | _ => none
theorem clQ_of {s : So} (hs : s.ok) : clQ s = true := by
  simp only [clQ, Bool.and_eq_true, decide_eq_true_eq]
  exact ⟨hs.cs.1, hs.ys.1, hs.tr.1, hs.wk.1⟩
theorem q2a : FOk q0c gClone := fok_ref30_Clone fun ds outs hw hg => by
  obtain ⟨d, r, rfl, hd, rfl⟩ := hw
  obtain ⟨s, rfl, hs⟩ := wfS hd
  simp only [gClone, dS_eS, Option.ite_none_right_eq_some, Option.some.injEq] at hg
  obtain ⟨hq, rfl⟩ := hg
  simp only [clQ, Bool.and_eq_true, decide_eq_true_eq] at hq
  simp only [q36, q00, go_br, q01, q02, allSay, X.says, X.ev, X.evs, evl, tblS, List.getD_cons_zero, List.getD_cons_succ, List.getElem?_cons_zero, List.getElem?_cons_succ, tt_b, int_i, str_s, rs_r, Option.isSome_some, Option.getD_some, decide_eq_true_eq, decide_eq_false_iff_not, dS_eS, dC_eC, dU_eU, dW_eW, dY_eY, eC_0, eC_1, eU_0, eU_1, eW_0, eW_1, eW_2, eY_0, eY_1, eS_0, eS_1, eS_2, eS_3, eS_4, eS_5, List.length_map, i_inj, b_inj, s_inj, eC_eq, eU_eq, eW_eq, eY_eq, eS_eq, rng64, List.take_succ_cons, List.take_zero, List.nil_append, List.cons_append, decide_true, decide_false, Bool.or_true, true_and, and_true, eS, D.fs, D.fld]
  simp
  omega
def gSame : List D → Option (List D)
  | [a, b] => some [.b (decide (a = b))]
  | _ => none
theorem ok_ref30_Same : FOk q0q gSame := fok_ref30_Same fun ds outs hw hg => by
  obtain ⟨d, r, rfl, hd, e, r', rfl, he, rfl⟩ := hw
  obtain ⟨s, rfl, hs⟩ := wfS hd
  obtain ⟨t, rfl, ht⟩ := wfS he
  simp only [gSame, Option.some.injEq] at hg
  subst hg
  have hl := hs.cs.1
  have hl1 := hs.ys.1
  have hl2 := hs.tr.1
  have hl3 := hs.wk.1
  have e0 : decide (eS s = eS t) = decide (s = t) := by simp [eS_eq]
  rw [e0]
  have no : ¬ s = t → [D.b false] = [D.b (decide (s = t))] := fun h => by rw [decide_eq_false h]
  rw [q3t, go_br]
  refine ⟨fun hx => ?_, fun hx => ?_⟩
  · refine no fun e => ?_
    subst e
    simp [X.ev, evl, D.tt] at hx
  simp only [q00, go_br, q01, q02, allSay, X.says, X.ev, X.evs, evl, tblS, List.getD_cons_zero, List.getD_cons_succ, List.getElem?_cons_zero, List.getElem?_cons_succ, tt_b, int_i, str_s, rs_r, Option.isSome_some, Option.getD_some, decide_eq_true_eq, decide_eq_false_iff_not, dS_eS, dC_eC, dU_eU, dW_eW, dY_eY, eC_0, eC_1, eU_0, eU_1, eW_0, eW_1, eW_2, eY_0, eY_1, eS_0, eS_1, eS_2, eS_3, eS_4, eS_5, List.length_map, i_inj, b_inj, s_inj, eC_eq, eU_eq, eW_eq, eY_eq, eS_eq, rng64, List.take_succ_cons, List.take_zero, List.nil_append, List.cons_append, decide_true, decide_false, Bool.or_true, true_and, and_true] at hx
  have hx' : s.cs.length = t.cs.length ∧ s.ys.length = t.ys.length ∧ s.tr.length = t.tr.length ∧ s.wk.length = t.wk.length ∧ s.ser = t.ser ∧ s.mx = t.mx := by
    simp at hx
    omega
  obtain ⟨q1, q2, q3, q4, q5, q6⟩ := hx'
  refine scan_ok s.cs.length (fun j => decide ((s.cs.map eC).getD j .u = (t.cs.map eC).getD j .u)) (v0 := .b false) rfl fun k B' hk hP hB _ => ?_
  rw [go_br]
  refine ⟨fun hlt => ?_, fun hlt => ?_⟩
  · have hkl : k < s.cs.length := by simpa [X.ev, evl, eS_0, D.int, D.rs, D.tt] using hlt
    simp only [q00, go_br, q01, q02, allSay, X.says, X.ev, X.evs, evl, tblS, List.getD_cons_zero, List.getD_cons_succ, List.getElem?_cons_zero, List.getElem?_cons_succ, tt_b, int_i, str_s, rs_r, Option.isSome_some, Option.getD_some, decide_eq_true_eq, decide_eq_false_iff_not, dS_eS, dC_eC, dU_eU, dW_eW, dY_eY, eC_0, eC_1, eU_0, eU_1, eW_0, eW_1, eW_2, eY_0, eY_1, eS_0, eS_1, eS_2, eS_3, eS_4, eS_5, List.length_map, i_inj, b_inj, s_inj, eC_eq, eU_eq, eW_eq, eY_eq, eS_eq, rng64, List.take_succ_cons, List.take_zero, List.nil_append, List.cons_append, decide_true, decide_false, Bool.or_true, true_and, and_true, get_k]
    refine ⟨⟨by omega, by omega, by omega, by omega⟩, fun hb => ?_, fun hb => ⟨⟨by omega, by omega⟩, ?_⟩⟩
    · refine no fun e => ?_
      subst e
      simp at hb
    · exact hB hkl (by simpa only [Bool.not_eq_false'] using hb)
  have hc0 : ∀ j, j < (s.cs.map eC).length → (s.cs.map eC).getD j .u = (t.cs.map eC).getD j .u := by
    have : k = s.cs.length := by
      have : ¬ (k < s.cs.length) := by simpa [X.ev, evl, eS_0, D.int, D.rs, D.tt] using hlt
      omega
    subst this
    exact fun j hj => by simpa only [decide_eq_true_eq] using hP j (by simpa using hj)
  refine scan_ok s.ys.length (fun j => decide ((s.ys.map eY).getD j .u = (t.ys.map eY).getD j .u)) (v0 := .b false) rfl fun k B' hk hP hB _ => ?_
  rw [go_br]
  refine ⟨fun hlt => ?_, fun hlt => ?_⟩
  · have hkl : k < s.ys.length := by simpa [X.ev, evl, eS_1, D.int, D.rs, D.tt] using hlt
    simp only [q00, go_br, q01, q02, allSay, X.says, X.ev, X.evs, evl, tblS, List.getD_cons_zero, List.getD_cons_succ, List.getElem?_cons_zero, List.getElem?_cons_succ, tt_b, int_i, str_s, rs_r, Option.isSome_some, Option.getD_some, decide_eq_true_eq, decide_eq_false_iff_not, dS_eS, dC_eC, dU_eU, dW_eW, dY_eY, eC_0, eC_1, eU_0, eU_1, eW_0, eW_1, eW_2, eY_0, eY_1, eS_0, eS_1, eS_2, eS_3, eS_4, eS_5, List.length_map, i_inj, b_inj, s_inj, eC_eq, eU_eq, eW_eq, eY_eq, eS_eq, rng64, List.take_succ_cons, List.take_zero, List.nil_append, List.cons_append, decide_true, decide_false, Bool.or_true, true_and, and_true, get_k]
    refine ⟨⟨by omega, by omega, by omega, by omega⟩, fun hb => ?_, fun hb => ⟨⟨by omega, by omega⟩, ?_⟩⟩
    · refine no fun e => ?_
      subst e
      simp at hb
    · exact hB hkl (by simpa only [Bool.not_eq_false'] using hb)
  have hc1 : ∀ j, j < (s.ys.map eY).length → (s.ys.map eY).getD j .u = (t.ys.map eY).getD j .u := by
    have : k = s.ys.length := by
      have : ¬ (k < s.ys.length) := by simpa [X.ev, evl, eS_1, D.int, D.rs, D.tt] using hlt
      omega
    subst this
    exact fun j hj => by simpa only [decide_eq_true_eq] using hP j (by simpa using hj)
  refine scan_ok s.tr.length (fun j => decide ((s.tr.map eU).getD j .u = (t.tr.map eU).getD j .u)) (v0 := .b false) rfl fun k B' hk hP hB _ => ?_
  rw [go_br]
  refine ⟨fun hlt => ?_, fun hlt => ?_⟩
  · have hkl : k < s.tr.length := by simpa [X.ev, evl, eS_2, D.int, D.rs, D.tt] using hlt
    simp only [q00, go_br, q01, q02, allSay, X.says, X.ev, X.evs, evl, tblS, List.getD_cons_zero, List.getD_cons_succ, List.getElem?_cons_zero, List.getElem?_cons_succ, tt_b, int_i, str_s, rs_r, Option.isSome_some, Option.getD_some, decide_eq_true_eq, decide_eq_false_iff_not, dS_eS, dC_eC, dU_eU, dW_eW, dY_eY, eC_0, eC_1, eU_0, eU_1, eW_0, eW_1, eW_2, eY_0, eY_1, eS_0, eS_1, eS_2, eS_3, eS_4, eS_5, List.length_map, i_inj, b_inj, s_inj, eC_eq, eU_eq, eW_eq, eY_eq, eS_eq, rng64, List.take_succ_cons, List.take_zero, List.nil_append, List.cons_append, decide_true, decide_false, Bool.or_true, true_and, and_true, get_k]
    refine ⟨⟨by omega, by omega, by omega, by omega⟩, fun hb => ?_, fun hb => ⟨⟨by omega, by omega⟩, ?_⟩⟩
    · refine no fun e => ?_
      subst e
      simp at hb
    · exact hB hkl (by simpa only [Bool.not_eq_false'] using hb)
  have hc2 : ∀ j, j < (s.tr.map eU).length → (s.tr.map eU).getD j .u = (t.tr.map eU).getD j .u := by
    have : k = s.tr.length := by
      have : ¬ (k < s.tr.length) := by simpa [X.ev, evl, eS_2, D.int, D.rs, D.tt] using hlt
      omega
    subst this
    exact fun j hj => by simpa only [decide_eq_true_eq] using hP j (by simpa using hj)
  refine scan_ok s.wk.length (fun j => decide ((s.wk.map eW).getD j .u = (t.wk.map eW).getD j .u)) (v0 := .b false) rfl fun k B' hk hP hB _ => ?_
  rw [go_br]
  refine ⟨fun hlt => ?_, fun hlt => ?_⟩
  · have hkl : k < s.wk.length := by simpa [X.ev, evl, eS_3, D.int, D.rs, D.tt] using hlt
    simp only [q00, go_br, q01, q02, allSay, X.says, X.ev, X.evs, evl, tblS, List.getD_cons_zero, List.getD_cons_succ, List.getElem?_cons_zero, List.getElem?_cons_succ, tt_b, int_i, str_s, rs_r, Option.isSome_some, Option.getD_some, decide_eq_true_eq, decide_eq_false_iff_not, dS_eS, dC_eC, dU_eU, dW_eW, dY_eY, eC_0, eC_1, eU_0, eU_1, eW_0, eW_1, eW_2, eY_0, eY_1, eS_0, eS_1, eS_2, eS_3, eS_4, eS_5, List.length_map, i_inj, b_inj, s_inj, eC_eq, eU_eq, eW_eq, eY_eq, eS_eq, rng64, List.take_succ_cons, List.take_zero, List.nil_append, List.cons_append, decide_true, decide_false, Bool.or_true, true_and, and_true, get_k]
    refine ⟨⟨by omega, by omega, by omega, by omega⟩, fun hb => ?_, fun hb => ⟨⟨by omega, by omega⟩, ?_⟩⟩
    · refine no fun e => ?_
      subst e
      simp at hb
    · exact hB hkl (by simpa only [Bool.not_eq_false'] using hb)
  have hc3 : ∀ j, j < (s.wk.map eW).length → (s.wk.map eW).getD j .u = (t.wk.map eW).getD j .u := by
    have : k = s.wk.length := by
      have : ¬ (k < s.wk.length) := by simpa [X.ev, evl, eS_3, D.int, D.rs, D.tt] using hlt
      omega
    subst this
    exact fun j hj => by simpa only [decide_eq_true_eq] using hP j (by simpa using hj)
  have e1 := map_inj (fun _ _ => eC_inj) (rows_eq (by simpa using q1) hc0)
  have e2 := map_inj (fun _ _ => eY_inj) (rows_eq (by simpa using q2) hc1)
  have e3 := map_inj (fun _ _ => eU_inj) (rows_eq (by simpa using q3) hc2)
  have e4 := map_inj (fun _ _ => eW_inj) (rows_eq (by simpa using q4) hc3)
  have : s = t := by cases s; cases t; simp_all
  subst this
  simp [q01, X.evs, X.ev]
end Go.Proofs.Ytaoamndcdjelnaa


namespace Go.Proofs.Ytaoamndcdjelnaa
end Go.Proofs.Ytaoamndcdjelnaa


namespace Go.Proofs.Ytaoamndcdjelnaa
open Go.RowKit
set_option linter.unusedVariables false
set_option maxRecDepth 100000

end Go.Proofs.Ytaoamndcdjelnaa


namespace Go.Proofs.Ytaoamndcdjelnaa
open Go.RowKit
set_option linter.unusedVariables false
set_option linter.unusedSimpArgs false

end Go.Proofs.Ytaoamndcdjelnaa


namespace Go.Proofs.Ytaoamndcdjelnaa
open Go.RowKit
set_option linter.unusedVariables false
set_option linter.unusedSimpArgs false

end Go.Proofs.Ytaoamndcdjelnaa


namespace Go.Proofs.Ytaoamndcdjelnaa
end Go.Proofs.Ytaoamndcdjelnaa


namespace Go.Proofs.Ytaoamndcdjelnaa
open Go.RowKit
set_option linter.unusedVariables false
set_option linter.unusedSimpArgs false

structure VS (s : So) : Prop where
  tag : ∀ i : Int, inS s i = true → 0 ≤ (cellAt s i).t ∧ (cellAt s i).t ≤ 5
theorem vcR_tag {s : So} {c : Ce} (h : vcR s c = true) : c.t = 0 ∨ c.t = 1 ∨ c.t = 2 ∨ c.t = 3 ∨ c.t = 5 := by
  unfold vcR at h
  by_cases h0 : c.t = 0
  · exact .inl h0
  · by_cases h1 : c.t = 1
    · exact .inr (.inl h1)
    · by_cases h2 : c.t = 2
      · exact .inr (.inr (.inl h2))
      · by_cases h3 : c.t = 3
        · exact .inr (.inr (.inr (.inl h3)))
        · by_cases h5 : c.t = 5
          · exact .inr (.inr (.inr (.inr h5)))
          · simp [h0, h1, h2, h3, h5] at h
theorem validR_vs {s : So} (h : validR s = true) : VS s := by
  simp only [validR, Bool.and_eq_true] at h
  refine ⟨fun i hi => ?_⟩
  have h1 := inS_iff.1 hi
  have hk := all_of h.2.1 (k := i.toNat) (by omega)
  rw [show ((i.toNat : Nat) : Int) = i by omega] at hk
  unfold cellR at hk
  by_cases h4 : (cellAt s i).t = 4
  · omega
  · rw [if_neg h4] at hk
    simp only [Bool.and_eq_true] at hk
    have := vcR_tag hk.1
    omega
theorem VS.tag_in {s : So} (h : VS s) (n : Int) : decide (0 ≤ tagS s n) = inS s n := by
  cases hi : inS s n with
  | true =>
    rw [tagS_in hi]
    exact decide_eq_true (h.tag n hi).1
  | false =>
    rw [tagS_out hi]
    decide
theorem VS.vc {s : So} (h : VS s) (c : Ce) : vcP s c = vcR s c := by
  unfold vcP vcR
  rw [h.tag_in]
theorem VS.old {s : So} (h : VS s) (u : Un) : oldP s u = oldR s u := by
  simp only [oldP, oldR, oldB, h.tag_in, h.vc]
theorem VS.cell {s : So} (h : VS s) {i : Int} (hi : inS s i = true) : cellR s i = (fitsP s i && endsB s i) := by
  have h1 := inS_iff.1 hi
  have ht := tagS_in hi
  unfold cellR fitsP
  by_cases h4 : (cellAt s i).t = 4
  · rw [if_pos h4, if_pos h4]
    have he : endsB s i = true := (En.st (fun hn => by have := hn.1; omega)).ends
    rw [he, Bool.and_true]
    by_cases ha : 1 ≤ arS s (cellAt s i).n
    · rw [decide_eq_true ha, Bool.true_and, Bool.true_and]
      generalize harr : arS s (cellAt s i).n = ar at ha
      rw [Bool.eq_iff_iff]
      simp only [Bool.and_eq_true, List.all_eq_true, List.mem_range, Bool.not_eq_true', decide_eq_false_iff_not, decide_eq_true_eq]
      constructor
      · rintro ⟨q1, q2⟩ j hj
        refine ⟨?_, q2 j hj⟩
        have hin : inS s (i + ((j : Int) + 1)) = true := by
          have := inS_iff.1 q1
          exact inS_iff.2 ⟨by omega, by omega⟩
        rw [tagS_in hin]
        exact (h.tag _ hin).1
      · intro q
        refine ⟨?_, fun j hj => (q j hj).2⟩
        have h2 := (q (ar.toNat - 1) (by omega)).1
        have h3 := h.tag_in (i + (((ar.toNat - 1 : Nat) : Int) + 1))
        rw [decide_eq_true h2] at h3
        have e : i + (((ar.toNat - 1 : Nat) : Int) + 1) = i + ar := by omega
        rw [e] at h3
        exact h3.symm
    · rw [decide_eq_false ha]
      rfl
  · rw [if_neg h4, if_neg h4]
    by_cases h5 : (cellAt s i).t = 5
    · rw [if_pos h5]
      have hd : decide ((cellAt s i).t = 5) = true := decide_eq_true h5
      rw [hd]
      by_cases hn : (cellAt s i).n = i
      · have hv : vcR s (cellAt s i) = true := by
          unfold vcR
          simp [h5, hn, ht]
        rw [hv, decide_eq_true hn]
        simp [Bool.and_comm]
      · rw [decide_eq_false hn]
        simp
    · rw [if_neg h5, decide_eq_false h5, h.vc]
      simp
end Go.Proofs.Ytaoamndcdjelnaa


namespace Go.Proofs.Ytaoamndcdjelnaa
open Go.RowKit
set_option linter.unusedVariables false
set_option linter.unusedSimpArgs false

inductive Te where
  | mk (k n : Int) (s : ByteArray) (l : List Te)
instance : Inhabited Te := ⟨.mk 0 0 ⟨#[]⟩ []⟩
def Te.k : Te → Int | .mk k _ _ _ => k
def Te.n : Te → Int | .mk _ n _ _ => n
def Te.s : Te → ByteArray | .mk _ _ s _ => s
def Te.l : Te → List Te | .mk _ _ _ l => l

mutual
theorem Te.ind0 {P : Te → Prop} (h : ∀ k n s l, (∀ t ∈ l, P t) → P (.mk k n s l)) : ∀ t, P t
  | .mk k n s l => h k n s l (Te.inds h l)
theorem Te.inds {P : Te → Prop} (h : ∀ k n s l, (∀ t ∈ l, P t) → P (.mk k n s l)) : ∀ (l : List Te), ∀ t ∈ l, P t
  | [], _, ht => by cases ht
  | u :: l, t, ht => by
    exact (List.mem_cons.1 ht).elim (fun e => e ▸ Te.ind0 h u) fun h' => Te.inds h l t h'
end
theorem Te.ind {P : Te → Prop} (h : ∀ k n s l, (∀ t ∈ l, P t) → P (.mk k n s l)) (t : Te) : P t := Te.ind0 h t

mutual
def okT : Te → Prop
  | .mk k n s l => i64 k ∧ i64 n ∧ s.size ≤ LIM ∧ l.length ≤ 2513169434843 ∧ okTs l
def okTs : List Te → Prop
  | [] => True
  | t :: l => okT t ∧ okTs l
end
theorem okTs_iff : ∀ {l : List Te}, okTs l ↔ ∀ t ∈ l, okT t
  | [] => ⟨fun _ t h => (by cases h), fun _ => trivial⟩
  | t :: l => by rw [okTs, okTs_iff]; simp
theorem okT_mk {k n : Int} {s : ByteArray} {l : List Te} : okT (.mk k n s l) ↔ i64 k ∧ i64 n ∧ s.size ≤ LIM ∧ l.length ≤ 2513169434843 ∧ ∀ t ∈ l, okT t := by rw [okT, okTs_iff]
theorem okT.k {t : Te} (h : okT t) : i64 t.k := by cases t; exact (okT_mk.1 h).1
theorem okT.n {t : Te} (h : okT t) : i64 t.n := by cases t; exact (okT_mk.1 h).2.1
theorem okT.s {t : Te} (h : okT t) : t.s.size ≤ LIM := by cases t; exact (okT_mk.1 h).2.2.1
theorem okT.l {t : Te} (h : okT t) : t.l.length ≤ 2513169434843 := by cases t; exact (okT_mk.1 h).2.2.2.1
mutual
def idT : Te → Te → Bool
  | .mk k n s l, .mk k' n' s' l' => decide (k = k') && (decide (n = n') && (decide (s = s') && idTs l l'))
def idTs : List Te → List Te → Bool
  | [], [] => true
  | t :: l, u :: m => idT t u && idTs l m
  | _, _ => false
end
mutual
theorem idT_iff : ∀ (t u : Te), idT t u = true ↔ t = u
  | .mk k n s l, .mk k' n' s' l' => by simp [idT, idTs_iff l l']
theorem idTs_iff : ∀ (l m : List Te), idTs l m = true ↔ l = m
  | [], [] => by simp [idTs]
  | t :: l, u :: m => by simp [idTs, idT_iff t u, idTs_iff l m]
  | [], _ :: _ => by simp [idTs]
  | _ :: _, [] => by simp [idTs]
end
instance : DecidableEq Te := fun t u => if h : idT t u = true then .isTrue ((idT_iff t u).1 h) else .isFalse fun e => h ((idT_iff t u).2 e)
end Go.Proofs.Ytaoamndcdjelnaa


namespace Go.Proofs.Ytaoamndcdjelnaa
open Go.RowKit
set_option linter.unusedVariables false
set_option linter.unusedSimpArgs false

end Go.Proofs.Ytaoamndcdjelnaa


namespace Go.Proofs.Ytaoamndcdjelnaa
open Go.RowKit
set_option linter.unusedVariables false
set_option linter.unusedSimpArgs false

theorem vr_head {s : So} (h : validR s = true) : headB s = true := by
  simp only [validR, Bool.and_eq_true] at h
  exact h.1
theorem vr_syms {s : So} (h : validR s = true) : symsB s.ys = true := by
  have := vr_head h
  simp only [headB, Bool.and_eq_true] at this
  exact this.2.2.2.2
theorem vr_len {s : So} (h : validR s = true) : s.cs.length ≤ 1048576 := by
  have := vr_head h
  simp only [headB, Bool.and_eq_true, decide_eq_true_eq] at this
  omega
theorem vr_cell {s : So} (h : validR s = true) {i : Int} (hi : inS s i = true) : cellR s i = true := by
  simp only [validR, Bool.and_eq_true] at h
  have h1 := inS_iff.1 hi
  have hk := all_of h.2.1 (k := i.toNat) (by omega)
  rwa [show ((i.toNat : Nat) : Int) = i by omega] at hk
theorem vr_vc {s : So} (h : validR s = true) {i : Int} (hi : inS s i = true) (ht : (cellAt s i).t ≠ 4) : vcR s (cellAt s i) = true := by
  have := vr_cell h hi
  unfold cellR at this
  rw [if_neg ht] at this
  simp only [Bool.and_eq_true] at this
  exact this.1
theorem vr_ends {s : So} (h : validR s = true) {i : Int} (hi : inS s i = true) : endsB s i = true := by
  by_cases ht : (cellAt s i).t = 4
  · exact (En.st (fun hn => by have := hn.1; rw [tagS_in hi] at this; omega)).ends
  · have := vr_cell h hi
    unfold cellR at this
    rw [if_neg ht] at this
    simp only [Bool.and_eq_true] at this
    exact this.2.1
theorem vc_ref {s : So} {c : Ce} (h : vcR s c = true) (ht : c.t = 0) : inS s c.n = true ∧ (cellAt s c.n).t ≠ 4 := by
  unfold vcR at h
  rw [if_pos ht] at h
  simp only [Bool.and_eq_true, Bool.not_eq_true', decide_eq_false_iff_not] at h
  rw [tagS_in h.1] at h
  exact h
theorem vr_nx {s : So} (h : validR s = true) {n : Int} (hn : Ns s n) : inS s (nx s n) = true := by
  have hi := hn.inS
  have ht : (cellAt s n).t = 0 := by have := hn.1; rwa [tagS_in hi] at this
  exact (vc_ref (vr_vc h hi (by omega)) ht).1
theorem vr_fun {s : So} (h : validR s = true) {i : Int} (hi : inS s i = true) (ht : (cellAt s i).t = 4) : 1 ≤ arS s (cellAt s i).n ∧ arS s (cellAt s i).n ≤ 8 ∧ ∀ j : Nat, (j : Int) < arS s (cellAt s i).n → inS s (i + 1 + j) = true ∧ vcR s (cellAt s (i + 1 + j)) = true := by
  have := vr_cell h hi
  unfold cellR at this
  rw [if_pos ht] at this
  simp only [Bool.and_eq_true, decide_eq_true_eq, List.all_eq_true, List.mem_range, Bool.not_eq_true', decide_eq_false_iff_not] at this
  obtain ⟨h1, h2, h3⟩ := this
  refine ⟨h1, (symsB_ar (vr_syms h) _).2, fun j hj => ?_⟩
  have q := inS_iff.1 h2
  have q1 := inS_iff.1 hi
  have hin : inS s (i + 1 + j) = true := inS_iff.2 ⟨by omega, by omega⟩
  refine ⟨hin, vr_vc h hin ?_⟩
  have := h3 j (by omega)
  rw [show i + ((j : Int) + 1) = i + 1 + j by omega, tagS_in hin] at this
  exact this
theorem ar_rng {s : So} {n : Int} (h : 0 ≤ arS s n) : 0 ≤ n ∧ n < s.ys.length ∧ arS s n = (s.ys.getD n.toNat default).ar := by
  unfold arS at h ⊢
  split at h
  · rename_i hn
    rw [if_pos hn]
    exact ⟨hn.1, hn.2, rfl⟩
  · omega
theorem rank_all {s : So} (hv : ∀ m, Ns s m → inS s (nx s m) = true) : ∀ (k : Nat) (n : Int), inS s n = true → endsN s (k + 1) n = true → endsN s k n = false → ∃ l : List Int, l.length = k + 1 ∧ l.Nodup ∧ (∀ x ∈ l, inS s x = true) ∧ ∀ x ∈ l, ∃ j, j ≤ k ∧ endsN s (j + 1) x = true
  | 0, n, hi, h1, _ => ⟨[n], rfl, by simp, (fun x hx => by rw [List.mem_singleton.1 hx]; exact hi), fun x hx => ⟨0, Nat.le_refl _, by rw [List.mem_singleton.1 hx]; exact h1⟩⟩
  | k + 1, n, hi, h1, h2 => by
    have hn : Ns s n := Classical.byContradiction fun hn => by rw [endsN_st hn] at h2; cases h2
    have h1' := h1
    rw [endsN_ns hn] at h1 h2
    obtain ⟨l, e1, e2, e3, e4⟩ := rank_all hv k _ (hv n hn) h1 h2
    refine ⟨n :: l, by simp [e1], ?_, fun x hx => ?_, fun x hx => ?_⟩
    · refine List.nodup_cons.2 ⟨fun hm => ?_, e2⟩
      obtain ⟨j, hj, he⟩ := e4 n hm
      rw [endsN_ns hn] at he
      rw [endsN_le hj he] at h2
      cases h2
    · rcases List.mem_cons.1 hx with rfl | hx
      · exact hi
      · exact e3 x hx
    · rcases List.mem_cons.1 hx with rfl | hx
      · exact ⟨k + 1, Nat.le_refl _, h1'⟩
      · obtain ⟨j, hj, he⟩ := e4 x hx
        exact ⟨j, by omega, he⟩
theorem vr_ends_len {s : So} (h : validR s = true) {n : Int} (hi : inS s n = true) : endsN s s.cs.length n = true := by
  cases hk' : endsN s s.cs.length n with
  | true => rfl
  | false =>
    obtain ⟨l, e1, e2, e3, -⟩ := rank_all (fun m hm => vr_nx h hm) s.cs.length n hi (vr_ends h hi) hk'
    have h1 := nodup_lt s.cs.length (l.map Int.toNat) ?_ ?_
    · rw [List.length_map, e1] at h1
      omega
    · refine List.Pairwise.map _ (fun a b h => h) ?_
      refine List.Pairwise.imp_of_mem (R := fun a b => a ≠ b) (fun {a b} ha hb hab e => hab ?_) e2
      have h1 := inS_iff.1 (e3 a ha)
      have h2 := inS_iff.1 (e3 b hb)
      omega
    · intro x hx
      obtain ⟨a, ha, rfl⟩ := List.mem_map.1 hx
      have h1 := inS_iff.1 (e3 a ha)
      omega

def derN (s : So) : Nat → Ce → Ce
  | 0, c => c
  | k + 1, c => if c.t = 0 ∧ inS s c.n = true ∧ cellAt s c.n ≠ c then derN s k (cellAt s c.n) else c
theorem derN_t {s : So} {c : Ce} (h : c.t ≠ 0) : ∀ k, derN s k c = c
  | 0 => rfl
  | k + 1 => if_neg fun q => h q.1
theorem der_stable {s : So} (j : Nat) : ∀ (k : Nat) (n : Int), endsN s k n = true → derN s (k + j) ⟨0, n⟩ = derN s k ⟨0, n⟩
  | 0, n, h => by cases h
  | k + 1, n, h => by
    rw [show k + 1 + j = (k + j) + 1 by omega]
    unfold derN
    split
    · rename_i hc
      by_cases ht : (cellAt s n).t = 0
      · have e : cellAt s n = ⟨0, nx s n⟩ := Ce.ext' ht rfl
        have hn : Ns s n := ⟨(tagS_in hc.2.1).trans ht, fun hn => hc.2.2 (Ce.ext' ht hn)⟩
        rw [endsN_ns hn] at h
        show derN s (k + j) (cellAt s n) = derN s k (cellAt s n)
        rw [e]
        exact der_stable j k _ h
      · rw [derN_t ht, derN_t ht]
    · rfl
def derS (s : So) (c : Ce) : Ce := if vcR s c then derN s (s.cs.length + 1) c else ⟨0, 0⟩
theorem der_len {s : So} (h : validR s = true) {c : Ce} (hc : vcR s c = true) : derN s s.cs.length c = derN s (s.cs.length + 1) c := by
  by_cases ht : c.t = 0
  · have e : c = ⟨0, c.n⟩ := Ce.ext' ht rfl
    rw [e]
    exact (der_stable 1 _ _ (vr_ends_len h (vc_ref hc ht).1)).symm
  · rw [derN_t ht, derN_t ht]
theorem derN_vc {s : So} (h : validR s = true) : ∀ (k : Nat) {c : Ce}, vcR s c = true → vcR s (derN s k c) = true
  | 0, c, hc => hc
  | k + 1, c, hc => by
    unfold derN
    split
    · rename_i q
      exact derN_vc h k (vr_vc h q.2.1 (vc_ref hc q.1).2)
    · exact hc
theorem derS_vc {s : So} (h : validR s = true) {c : Ce} (hc : vcR s c = true) : vcR s (derS s c) = true := by
  rw [derS, if_pos hc]
  exact derN_vc h _ hc

end Go.Proofs.Ytaoamndcdjelnaa


namespace Go.Proofs.Ytaoamndcdjelnaa
end Go.Proofs.Ytaoamndcdjelnaa


namespace Go.Proofs.Ytaoamndcdjelnaa
open Go.RowKit
set_option linter.unusedVariables false
set_option linter.unusedSimpArgs false

def gDer : List D → Option (List D)
  | [s, c] => if validR (dS s) then some [eC (derS (dS s) (dC c))] else none
  | _ => none
theorem der_0 : D.a [.i 0, .i 0] = eC ⟨0, 0⟩ := rfl
theorem q44 : FOk q0m gDer := fok_ref30_Deref q11 q28 fun ds outs hw hg => by
  obtain ⟨d, r, rfl, hd, e, r', rfl, he, rfl⟩ := hw
  obtain ⟨s, rfl, hs⟩ := wfS hd
  obtain ⟨c, rfl, hc⟩ := wfC he
  simp only [gDer, dS_eS, dC_eC, Option.ite_none_right_eq_some, Option.some.injEq] at hg
  obtain ⟨hv, rfl⟩ := hg
  have hl := vr_len hv
  simp only [q3d, q00, go_br, q01, q02, allSay, X.says, X.ev, X.evs, evl, tblS, List.getD_cons_zero, List.getD_cons_succ, List.getElem?_cons_zero, List.getElem?_cons_succ, tt_b, int_i, str_s, rs_r, Option.isSome_some, Option.getD_some, decide_eq_true_eq, decide_eq_false_iff_not, dS_eS, dC_eC, dU_eU, dW_eW, dY_eY, eC_0, eC_1, eU_0, eU_1, eW_0, eW_1, eW_2, eY_0, eY_1, eS_0, eS_1, eS_2, eS_3, eS_4, eS_5, List.length_map, i_inj, b_inj, s_inj, eC_eq, eU_eq, eW_eq, eY_eq, eS_eq, rng64, List.take_succ_cons, List.take_zero, List.nil_append, List.cons_append, decide_true, decide_false, Bool.or_true, true_and, and_true, gSCb, der_0]
  refine ⟨fun h => ?_, fun h => ?_⟩
  · simp only [derS, show vcR s c = false by simpa using h]
    rfl
  have hvc' : vcR s c = true := by simpa using h
  rw [go_loop]
  refine ⟨fun st => ∃ (k : Nat) (x : Ce), k ≤ s.cs.length + 1 ∧ st = [.i k, eC x] ∧ derN s (s.cs.length + 1 - k) x = derS s c, fun st => s.cs.length + 1 - (st.getD 0 .u).int.toNat, ⟨0, c, Nat.zero_le _, rfl, by rw [Nat.sub_zero, derS, if_pos hvc']⟩, ?_⟩
  rintro st - ⟨k, x, hk, rfl, hP⟩
  simp only [q00, go_br, q01, q02]
  by_cases hkl : k ≤ s.cs.length
  · obtain ⟨n, hn⟩ : ∃ n, s.cs.length + 1 - k = n + 1 := ⟨s.cs.length - k, by omega⟩
    rw [hn] at hP
    unfold derN at hP
    have hn2 : s.cs.length + 1 - (k + 1) = n := by omega
    have hk' : (k : Int) ≤ s.cs.length := by omega
    by_cases h0 : x.t = 0
    · cases hin : inS s x.n with
      | true =>
        have h3 := inS_iff.1 hin
        simp only [q00, go_br, q01, q02, allSay, X.says, X.ev, X.evs, evl, tblS, List.getD_cons_zero, List.getD_cons_succ, List.getElem?_cons_zero, List.getElem?_cons_succ, tt_b, int_i, str_s, rs_r, Option.isSome_some, Option.getD_some, decide_eq_true_eq, decide_eq_false_iff_not, dS_eS, dC_eC, dU_eU, dW_eW, dY_eY, eC_0, eC_1, eU_0, eU_1, eW_0, eW_1, eW_2, eY_0, eY_1, eS_0, eS_1, eS_2, eS_3, eS_4, eS_5, List.length_map, i_inj, b_inj, s_inj, eC_eq, eU_eq, eW_eq, eY_eq, eS_eq, rng64, List.take_succ_cons, List.take_zero, List.nil_append, List.cons_append, decide_true, decide_false, Bool.or_true, true_and, and_true, gSIb, cell_get hin, h0, h3.1, h3.2, hin, hk']
        refine ⟨fun hx => ?_, fun hx => ?_⟩
        · have hx' : cellAt s x.n ≠ x := by simpa using hx
          rw [if_pos ⟨h0, hin, hx'⟩] at hP
          refine ⟨⟨by omega, by omega⟩, ?_⟩
          rw [updB, if_pos rfl]
          refine ⟨⟨k + 1, cellAt s x.n, by omega, by simp, by rw [hn2]; exact hP⟩, ?_⟩
          simp [D.int]
          omega
        · have hx' : cellAt s x.n = x := by simpa using hx
          rw [if_neg (fun q => q.2.2 hx')] at hP
          rw [hP]
      | false =>
        rw [if_neg (fun q => by rw [hin] at q; cases q.2.1)] at hP
        simp only [q00, go_br, q01, q02, allSay, X.says, X.ev, X.evs, evl, tblS, List.getD_cons_zero, List.getD_cons_succ, List.getElem?_cons_zero, List.getElem?_cons_succ, tt_b, int_i, str_s, rs_r, Option.isSome_some, Option.getD_some, decide_eq_true_eq, decide_eq_false_iff_not, dS_eS, dC_eC, dU_eU, dW_eW, dY_eY, eC_0, eC_1, eU_0, eU_1, eW_0, eW_1, eW_2, eY_0, eY_1, eS_0, eS_1, eS_2, eS_3, eS_4, eS_5, List.length_map, i_inj, b_inj, s_inj, eC_eq, eU_eq, eW_eq, eY_eq, eS_eq, rng64, List.take_succ_cons, List.take_zero, List.nil_append, List.cons_append, decide_true, decide_false, Bool.or_true, true_and, and_true, gSIb, h0, hin, ← hP]
        simp
    · rw [if_neg (fun q => h0 q.1)] at hP
      simp only [q00, go_br, q01, q02, allSay, X.says, X.ev, X.evs, evl, tblS, List.getD_cons_zero, List.getD_cons_succ, List.getElem?_cons_zero, List.getElem?_cons_succ, tt_b, int_i, str_s, rs_r, Option.isSome_some, Option.getD_some, decide_eq_true_eq, decide_eq_false_iff_not, dS_eS, dC_eC, dU_eU, dW_eW, dY_eY, eC_0, eC_1, eU_0, eU_1, eW_0, eW_1, eW_2, eY_0, eY_1, eS_0, eS_1, eS_2, eS_3, eS_4, eS_5, List.length_map, i_inj, b_inj, s_inj, eC_eq, eU_eq, eW_eq, eY_eq, eS_eq, rng64, List.take_succ_cons, List.take_zero, List.nil_append, List.cons_append, decide_true, decide_false, Bool.or_true, true_and, and_true, gSIb, h0, ← hP]
      simp
  · have : k = s.cs.length + 1 := by omega
    subst this
    rw [Nat.sub_self] at hP
    have hk' : ¬ ((s.cs.length + 1 : Nat) : Int) ≤ s.cs.length := by omega
    simp only [q00, go_br, q01, q02, allSay, X.says, X.ev, X.evs, evl, tblS, List.getD_cons_zero, List.getD_cons_succ, List.getElem?_cons_zero, List.getElem?_cons_succ, tt_b, int_i, str_s, rs_r, Option.isSome_some, Option.getD_some, decide_eq_true_eq, decide_eq_false_iff_not, dS_eS, dC_eC, dU_eU, dW_eW, dY_eY, eC_0, eC_1, eU_0, eU_1, eW_0, eW_1, eW_2, eY_0, eY_1, eS_0, eS_1, eS_2, eS_3, eS_4, eS_5, List.length_map, i_inj, b_inj, s_inj, eC_eq, eU_eq, eW_eq, eY_eq, eS_eq, rng64, List.take_succ_cons, List.take_zero, List.nil_append, List.cons_append, decide_true, decide_false, Bool.or_true, true_and, and_true, hk', ← hP, derN]
    simp

end Go.Proofs.Ytaoamndcdjelnaa


namespace Go.Proofs.Ytaoamndcdjelnaa
open Go.RowKit
set_option linter.unusedVariables false
set_option linter.unusedSimpArgs false

theorem ok_trail_in : FOk q13 (gSIb inS) := fok_trail_in fun ds outs hw hg => by
  obtain ⟨d, r, rfl, hd, e, r', rfl, he, rfl⟩ := hw
  obtain ⟨s, rfl, hs⟩ := wfS hd
  obtain ⟨i, rfl, hi⟩ := wfI he
  simp only [gSIb, dS_eS, int_i, Option.some.injEq] at hg
  subst hg
  simp only [tree_trail_in, q00, go_br, q01, q02, allSay, X.says, X.ev, X.evs, evl, tblS, List.getD_cons_zero, List.getD_cons_succ, List.getElem?_cons_zero, List.getElem?_cons_succ, tt_b, int_i, str_s, rs_r, Option.isSome_some, Option.getD_some, decide_eq_true_eq, decide_eq_false_iff_not, dS_eS, dC_eC, dU_eU, dW_eW, dY_eY, eC_0, eC_1, eU_0, eU_1, eW_0, eW_1, eW_2, eY_0, eY_1, eS_0, eS_1, eS_2, eS_3, eS_4, eS_5, List.length_map, i_inj, b_inj, s_inj, eC_eq, eU_eq, eW_eq, eY_eq, eS_eq, rng64, List.take_succ_cons, List.take_zero, List.nil_append, List.cons_append, decide_true, decide_false, Bool.or_true, true_and, and_true, inS]
def keptC (c : Ce) : Ce := if c.t = 5 then ⟨0, c.n⟩ else c
def gKept : List D → Option (List D)
  | [c] => some [eC (keptC (dC c))]
  | _ => none
theorem ok_trail_kept : FOk q1t gKept := fok_trail_kept fun ds outs hw hg => by
  obtain ⟨d, r, rfl, hd, rfl⟩ := hw
  obtain ⟨c, rfl, hc⟩ := wfC hd
  simp only [gKept, dC_eC, Option.some.injEq] at hg
  subst hg
  simp only [q3h, q00, go_br, q01, q02, allSay, X.says, X.ev, X.evs, evl, tblS, List.getD_cons_zero, List.getD_cons_succ, List.getElem?_cons_zero, List.getElem?_cons_succ, tt_b, int_i, str_s, rs_r, Option.isSome_some, Option.getD_some, decide_eq_true_eq, decide_eq_false_iff_not, dS_eS, dC_eC, dU_eU, dW_eW, dY_eY, eC_0, eC_1, eU_0, eU_1, eW_0, eW_1, eW_2, eY_0, eY_1, eS_0, eS_1, eS_2, eS_3, eS_4, eS_5, List.length_map, i_inj, b_inj, s_inj, eC_eq, eU_eq, eW_eq, eY_eq, eS_eq, rng64, List.take_succ_cons, List.take_zero, List.nil_append, List.cons_append, decide_true, decide_false, Bool.or_true, true_and, and_true, keptC, eC_s0]
  exact ⟨fun h => by rw [if_pos h], fun h => by rw [if_neg h]⟩
theorem ok_ref30_Kept : FOk q18 gKept := fok_ref30_Kept fun ds outs hw hg => by
  obtain ⟨d, r, rfl, hd, rfl⟩ := hw
  obtain ⟨c, rfl, hc⟩ := wfC hd
  simp only [gKept, dC_eC, Option.some.injEq] at hg
  subst hg
  simp only [q3p, q00, go_br, q01, q02, allSay, X.says, X.ev, X.evs, evl, tblS, List.getD_cons_zero, List.getD_cons_succ, List.getElem?_cons_zero, List.getElem?_cons_succ, tt_b, int_i, str_s, rs_r, Option.isSome_some, Option.getD_some, decide_eq_true_eq, decide_eq_false_iff_not, dS_eS, dC_eC, dU_eU, dW_eW, dY_eY, eC_0, eC_1, eU_0, eU_1, eW_0, eW_1, eW_2, eY_0, eY_1, eS_0, eS_1, eS_2, eS_3, eS_4, eS_5, List.length_map, i_inj, b_inj, s_inj, eC_eq, eU_eq, eW_eq, eY_eq, eS_eq, rng64, List.take_succ_cons, List.take_zero, List.nil_append, List.cons_append, decide_true, decide_false, Bool.or_true, true_and, and_true, keptC, eC_mk]
  exact ⟨fun h => by rw [if_pos h], fun h => by rw [if_neg h]⟩
def behind (s : So) (a : Int) : Bool := decide (2 ≤ a) && decide ((cellAt s (a - 2)).t = 5)
def settP (s : So) (a : Int) : Bool := if (cellAt s a).t = 0 then decide ((cellAt s a).n = a) else if (cellAt s a).t = 5 then true else if (cellAt s a).t = 1 ∨ (cellAt s a).t = 2 ∨ (cellAt s a).t = 3 then behind s a else false
def settR (s : So) (a : Int) : Bool := if (cellAt s a).t = 0 ∨ (cellAt s a).t = 5 then decide ((cellAt s a).n = a) else behind s a && !decide ((cellAt s a).t = 4)
theorem ok_trail_settable : FOk q15 (gSIbP inS settP) := fok_trail_settable fun ds outs hw hg => by
  obtain ⟨d, r, rfl, hd, e, r', rfl, he, rfl⟩ := hw
  obtain ⟨s, rfl, hs⟩ := wfS hd
  obtain ⟨i, rfl, hi⟩ := wfI he
  simp only [gSIbP, dS_eS, int_i, Option.ite_none_right_eq_some, Option.some.injEq] at hg
  obtain ⟨hin, rfl⟩ := hg
  have h1 := inS_iff.1 hin
  have hl := hs.cs.1
  have hr : i64 (i - 2) := ⟨by omega, by omega⟩
  have hr' := rng64.2 hr
  simp only [q2n, q00, go_br, q01, q02, allSay, X.says, X.ev, X.evs, evl, tblS, List.getD_cons_zero, List.getD_cons_succ, List.getElem?_cons_zero, List.getElem?_cons_succ, tt_b, int_i, str_s, rs_r, Option.isSome_some, Option.getD_some, decide_eq_true_eq, decide_eq_false_iff_not, dS_eS, dC_eC, dU_eU, dW_eW, dY_eY, eC_0, eC_1, eU_0, eU_1, eW_0, eW_1, eW_2, eY_0, eY_1, eS_0, eS_1, eS_2, eS_3, eS_4, eS_5, List.length_map, i_inj, b_inj, s_inj, eC_eq, eU_eq, eW_eq, eY_eq, eS_eq, rng64, List.take_succ_cons, List.take_zero, List.nil_append, List.cons_append, decide_true, decide_false, Bool.or_true, true_and, and_true, cell_get hin, h1, hr, settP, behind, eC_mk]
  have e0 : (D.a [.i 0, .i i]) = eC ⟨0, i⟩ := rfl
  by_cases h2 : 2 ≤ i
  · have hin2 : inS s (i - 2) = true := inS_iff.2 ⟨by omega, by omega⟩
    have q1 : 0 ≤ i - 2 := by omega
    have q2 : i - 2 < s.cs.length := by omega
    simp only [cell_get hin2, h2, q1, q2, eC_0, i_inj, hr']
    by_cases c0 : (cellAt s i).t = 0
    · have : (cellAt s i = ⟨0, i⟩) = ((cellAt s i).n = i) := propext ⟨fun e => by rw [e], fun e => Ce.ext' c0 e⟩
      simp [c0, this]
    · by_cases c5 : (cellAt s i).t = 5
      · simp [c5]
      · by_cases c1 : (cellAt s i).t = 1
        · simp [c1]
        · by_cases c2 : (cellAt s i).t = 2
          · simp [c2]
          · by_cases c3 : (cellAt s i).t = 3
            · simp [c3]
            · simp [c0, c1, c2, c3, c5]
  · simp only [h2]
    by_cases c0 : (cellAt s i).t = 0
    · have : (cellAt s i = ⟨0, i⟩) = ((cellAt s i).n = i) := propext ⟨fun e => by rw [e], fun e => Ce.ext' c0 e⟩
      simp [c0, this]
    · by_cases c5 : (cellAt s i).t = 5
      · simp [c5]
      · by_cases c1 : (cellAt s i).t = 1
        · simp [c1]
        · by_cases c2 : (cellAt s i).t = 2
          · simp [c2]
          · by_cases c3 : (cellAt s i).t = 3
            · simp [c3]
            · simp [c0, c1, c2, c3, c5]
theorem ok_ref31_Settable : FOk q17 (gSIbP inS settR) := fok_ref31_Settable fun ds outs hw hg => by
  obtain ⟨d, r, rfl, hd, e, r', rfl, he, rfl⟩ := hw
  obtain ⟨s, rfl, hs⟩ := wfS hd
  obtain ⟨i, rfl, hi⟩ := wfI he
  simp only [gSIbP, dS_eS, int_i, Option.ite_none_right_eq_some, Option.some.injEq] at hg
  obtain ⟨hin, rfl⟩ := hg
  have h1 := inS_iff.1 hin
  have hl := hs.cs.1
  have hr : i64 (i - 2) := ⟨by omega, by omega⟩
  have hr' := rng64.2 hr
  simp only [q2l, q00, go_br, q01, q02, allSay, X.says, X.ev, X.evs, evl, tblS, List.getD_cons_zero, List.getD_cons_succ, List.getElem?_cons_zero, List.getElem?_cons_succ, tt_b, int_i, str_s, rs_r, Option.isSome_some, Option.getD_some, decide_eq_true_eq, decide_eq_false_iff_not, dS_eS, dC_eC, dU_eU, dW_eW, dY_eY, eC_0, eC_1, eU_0, eU_1, eW_0, eW_1, eW_2, eY_0, eY_1, eS_0, eS_1, eS_2, eS_3, eS_4, eS_5, List.length_map, i_inj, b_inj, s_inj, eC_eq, eU_eq, eW_eq, eY_eq, eS_eq, rng64, List.take_succ_cons, List.take_zero, List.nil_append, List.cons_append, decide_true, decide_false, Bool.or_true, true_and, and_true, cell_get hin, h1, hr, settR, behind]
  by_cases h2 : 2 ≤ i
  · have hin2 : inS s (i - 2) = true := inS_iff.2 ⟨by omega, by omega⟩
    have q1 : 0 ≤ i - 2 := by omega
    have q2 : i - 2 < s.cs.length := by omega
    simp only [cell_get hin2, h2, q1, q2, eC_0, i_inj, hr']
    by_cases c0 : (cellAt s i).t = 0
    · simp [c0]
    · by_cases c5 : (cellAt s i).t = 5
      · simp [c5]
      · simp [c0, c5]
  · simp only [h2]
    by_cases c0 : (cellAt s i).t = 0
    · simp [c0]
    · by_cases c5 : (cellAt s i).t = 5
      · simp [c5]
      · simp [c0, c5]

def comesN (s : So) (a : Int) : Nat → Ce → Bool
  | 0, _ => false
  | k + 1, c => if c.t = 0 ∧ inS s c.n = true then (if c.n = a then true else comesN s a k (cellAt s c.n)) else false
def comesB (s : So) (c : Ce) (a : Int) : Bool := comesN s a (s.cs.length + 1) c
theorem comesN_self {s : So} {a : Int} {c : Ce} (h : cellAt s c.n = c) (ha : ¬ c.n = a) : ∀ k, comesN s a k c = false
  | 0 => rfl
  | k + 1 => by
    unfold comesN
    by_cases hc : c.t = 0 ∧ inS s c.n = true
    · rw [if_pos hc, if_neg ha, h]
      exact comesN_self h ha k
    · rw [if_neg hc]
def gSCIb (f : So → Ce → Int → Bool) : List D → Option (List D)
  | [s, c, i] => some [.b (f (dS s) (dC c) i.int)]
  | _ => none
theorem ok_ref31_Comes : FOk q1l (gSCIb comesB) := fok_ref31_Comes fun ds outs hw hg => by
  obtain ⟨d, r, rfl, hd, e, r', rfl, he, f, r2, rfl, hf, rfl⟩ := hw
  obtain ⟨s, rfl, hs⟩ := wfS hd
  obtain ⟨c0, rfl, hc⟩ := wfC he
  obtain ⟨a, rfl, ha⟩ := wfI hf
  simp only [gSCIb, dS_eS, dC_eC, int_i, Option.some.injEq] at hg
  subst hg
  have hl := hs.cs.1
  rw [q33, go_loop]
  refine ⟨fun st => ∃ (k : Nat) (c : Ce), k ≤ s.cs.length + 1 ∧ st = [.b false, .i k, eC c] ∧ comesN s a (s.cs.length + 1 - k) c = comesB s c0 a, fun st => s.cs.length + 1 - (st.getD 1 .u).int.toNat, ⟨0, c0, Nat.zero_le _, rfl, rfl⟩, ?_⟩
  rintro st - ⟨k, c, hk, rfl, hP⟩
  simp only [q00, go_br, q01, q02, allSay, X.says, X.ev, X.evs, evl, tblS, List.getD_cons_zero, List.getD_cons_succ, List.getElem?_cons_zero, List.getElem?_cons_succ, tt_b, int_i, str_s, rs_r, Option.isSome_some, Option.getD_some, decide_eq_true_eq, decide_eq_false_iff_not, dS_eS, dC_eC, dU_eU, dW_eW, dY_eY, eC_0, eC_1, eU_0, eU_1, eW_0, eW_1, eW_2, eY_0, eY_1, eS_0, eS_1, eS_2, eS_3, eS_4, eS_5, List.length_map, i_inj, b_inj, s_inj, eC_eq, eU_eq, eW_eq, eY_eq, eS_eq, rng64, List.take_succ_cons, List.take_zero, List.nil_append, List.cons_append, decide_true, decide_false, Bool.or_true, true_and, and_true]
  have hcond : (decide ((k : Int) ≤ s.cs.length) && decide (c.t = 0) && decide (0 ≤ c.n) && decide (c.n < s.cs.length)) = (decide (k ≤ s.cs.length) && (decide (c.t = 0) && inS s c.n)) := by
    have : decide ((k : Int) ≤ s.cs.length) = decide (k ≤ s.cs.length) := by simp
    rw [this, inS, Bool.and_assoc, Bool.and_assoc]
  rw [hcond]
  refine ⟨fun hx => ?_, fun hx => ?_⟩
  · simp only [Bool.and_eq_true, decide_eq_true_eq] at hx
    obtain ⟨hkl, h0, hin⟩ := hx
    have h1 := inS_iff.1 hin
    have hr : i64 ((k : Int) + 1) := ⟨by omega, by omega⟩
    obtain ⟨n, hn⟩ : ∃ n, s.cs.length + 1 - k = n + 1 := ⟨s.cs.length - k, by omega⟩
    rw [hn] at hP
    unfold comesN at hP
    rw [if_pos ⟨h0, hin⟩] at hP
    simp only [cell_get hin]
    refine ⟨fun hy => ?_, fun hy => ⟨h1, hr, ?_⟩⟩
    · rw [if_pos hy] at hP
      rw [hP]
    · rw [if_neg hy] at hP
      rw [updB, if_pos rfl]
      refine ⟨⟨k + 1, cellAt s c.n, by omega, by simp, by rw [show s.cs.length + 1 - (k + 1) = n by omega]; exact hP⟩, ?_⟩
      simp [D.int]
      omega
  · rw [← hP]
    by_cases hkl : k ≤ s.cs.length
    · obtain ⟨n, hn⟩ : ∃ n, s.cs.length + 1 - k = n + 1 := ⟨s.cs.length - k, by omega⟩
      rw [hn]
      unfold comesN
      rw [if_neg]
      intro h
      simp [hkl, h.1, h.2] at hx
    · rw [show s.cs.length + 1 - k = 0 by omega]
      rfl
theorem ok_trail_comes : FOk q1n (gSCIb comesB) := fok_trail_comes ok_trail_in fun ds outs hw hg => by
  obtain ⟨d, r, rfl, hd, e, r', rfl, he, f, r2, rfl, hf, rfl⟩ := hw
  obtain ⟨s, rfl, hs⟩ := wfS hd
  obtain ⟨c0, rfl, hc⟩ := wfC he
  obtain ⟨a, rfl, ha⟩ := wfI hf
  simp only [gSCIb, dS_eS, dC_eC, int_i, Option.some.injEq] at hg
  subst hg
  have hl := hs.cs.1
  rw [q31, q00]
  refine ⟨by simp only [q00, go_br, q01, q02, allSay, X.says, X.ev, X.evs, evl, tblS, List.getD_cons_zero, List.getD_cons_succ, List.getElem?_cons_zero, List.getElem?_cons_succ, tt_b, int_i, str_s, rs_r, Option.isSome_some, Option.getD_some, decide_eq_true_eq, decide_eq_false_iff_not, dS_eS, dC_eC, dU_eU, dW_eW, dY_eY, eC_0, eC_1, eU_0, eU_1, eW_0, eW_1, eW_2, eY_0, eY_1, eS_0, eS_1, eS_2, eS_3, eS_4, eS_5, List.length_map, i_inj, b_inj, s_inj, eC_eq, eU_eq, eW_eq, eY_eq, eS_eq, rng64, List.take_succ_cons, List.take_zero, List.nil_append, List.cons_append, decide_true, decide_false, Bool.or_true, true_and, and_true]; omega, ?_⟩
  rw [go_loop]
  refine ⟨fun st => ∃ (k : Nat) (c : Ce), k ≤ s.cs.length + 1 ∧ st = [.b false, .i k, eC c] ∧ comesN s a (s.cs.length + 1 - k) c = comesB s c0 a, fun st => s.cs.length + 1 - (st.getD 1 .u).int.toNat, ⟨0, c0, Nat.zero_le _, rfl, rfl⟩, ?_⟩
  rintro st - ⟨k, c, hk, rfl, hP⟩
  simp only [q00, go_br, q01, q02, allSay, X.says, X.ev, X.evs, evl, tblS, List.getD_cons_zero, List.getD_cons_succ, List.getElem?_cons_zero, List.getElem?_cons_succ, tt_b, int_i, str_s, rs_r, Option.isSome_some, Option.getD_some, decide_eq_true_eq, decide_eq_false_iff_not, dS_eS, dC_eC, dU_eU, dW_eW, dY_eY, eC_0, eC_1, eU_0, eU_1, eW_0, eW_1, eW_2, eY_0, eY_1, eS_0, eS_1, eS_2, eS_3, eS_4, eS_5, List.length_map, i_inj, b_inj, s_inj, eC_eq, eU_eq, eW_eq, eY_eq, eS_eq, rng64, List.take_succ_cons, List.take_zero, List.nil_append, List.cons_append, decide_true, decide_false, Bool.or_true, true_and, and_true, gSIb]
  refine ⟨fun hlt => ?_, fun hlt => ?_⟩
  · have hkl : k ≤ s.cs.length := by omega
    have hr : i64 ((k : Int) + 1) := ⟨by omega, by omega⟩
    obtain ⟨n, hn⟩ : ∃ n, s.cs.length + 1 - k = n + 1 := ⟨s.cs.length - k, by omega⟩
    rw [hn] at hP
    unfold comesN at hP
    refine ⟨fun hx => ?_, fun hx => ?_⟩
    · rw [if_neg] at hP
      · rw [← hP]
      · intro h
        simp [h.1, h.2] at hx
    · have hx' : c.t = 0 ∧ inS s c.n = true := by simpa using hx
      have h1 := inS_iff.1 hx'.2
      rw [if_pos hx'] at hP
      simp only [cell_get hx'.2, eC_eq]
      refine ⟨fun hy => ?_, fun hy => ⟨h1, fun hz => ?_, fun hz => ⟨hr, ?_⟩⟩⟩
      · rw [if_pos hy] at hP
        rw [hP]
      · rw [if_neg hy, hz, comesN_self hz hy] at hP
        rw [← hP]
      · rw [if_neg hy] at hP
        rw [updB, if_pos rfl]
        refine ⟨⟨k + 1, cellAt s c.n, by omega, by simp, by rw [show s.cs.length + 1 - (k + 1) = n by omega]; exact hP⟩, ?_⟩
        simp [D.int]
        omega
  · rw [← hP, show s.cs.length + 1 - k = 0 by omega]
    rfl

def setOk (vc : So → Ce → Bool) (st : So → Int → Bool) (s : So) (a : Int) (c : Ce) : Bool := inS s a && (vc s c && (st s a && !comesB s (keptC c) a))
def setS (s : So) (a : Int) (c : Ce) : So := { s with cs := s.cs.set a.toNat (keptC c), tr := s.tr ++ [⟨a, cellAt s a⟩] }
def gSet (vc : So → Ce → Bool) (st : So → Int → Bool) : List D → Option (List D)
  | [s, a, c] => if setOk vc st (dS s) a.int (dC c) then (if decide ((dS s).tr.length < 5864062014634) then some [.i 0, eS (setS (dS s) a.int (dC c))] else none) else some [.i 1, eS (dS s)]
  | _ => none
theorem setS_eq {s : So} {a : Int} {c : Ce} : D.a ((D.a ((eS s).fs.set 2 (.r (s.tr.map eU ++ [.a [.i a, eC (cellAt s a)]])))).fs.set 0 (.r ((s.cs.map eC).set a.toNat (eC (keptC c))))) = eS (setS s a c) := by
  simp [setS, eS, D.fs, eU, List.map_set]
theorem fld_s2 {s : So} {x : D} : (D.a ((eS s).fs.set 2 x)).fld 0 = .r (s.cs.map eC) := rfl
theorem ok_trail_Set : FOk q0v (gSet vcP settP) := fok_trail_Set ok_trail_in q1i ok_trail_settable ok_trail_kept ok_trail_comes fun ds outs hw hg => by
  obtain ⟨d, r, rfl, hd, e, r', rfl, he, f, r2, rfl, hf, rfl⟩ := hw
  obtain ⟨s, rfl, hs⟩ := wfS hd
  obtain ⟨a, rfl, ha⟩ := wfI he
  obtain ⟨c, rfl, hc⟩ := wfC hf
  simp only [gSet, dS_eS, dC_eC, int_i] at hg
  simp only [q49, q00, go_br, q01, q02, allSay, X.says, X.ev, X.evs, evl, tblS, List.getD_cons_zero, List.getD_cons_succ, List.getElem?_cons_zero, List.getElem?_cons_succ, tt_b, int_i, str_s, rs_r, Option.isSome_some, Option.getD_some, decide_eq_true_eq, decide_eq_false_iff_not, dS_eS, dC_eC, dU_eU, dW_eW, dY_eY, eC_0, eC_1, eU_0, eU_1, eW_0, eW_1, eW_2, eY_0, eY_1, eS_0, eS_1, eS_2, eS_3, eS_4, eS_5, List.length_map, i_inj, b_inj, s_inj, eC_eq, eU_eq, eW_eq, eY_eq, eS_eq, rng64, List.take_succ_cons, List.take_zero, List.nil_append, List.cons_append, decide_true, decide_false, Bool.or_true, true_and, and_true, gSIb, gSCb, gSIbP, gKept, gSCIb, Option.isSome_some, Option.getD_some]
  cases hin : inS s a with
  | false =>
    have : setOk vcP settP s a c = false := by simp [setOk, hin]
    simp only [this, Bool.false_eq_true, if_false, Option.some.injEq] at hg
    subst hg
    simp
  | true =>
    have h1 := inS_iff.1 hin
    cases hv : vcP s c with
    | false =>
      have : setOk vcP settP s a c = false := by simp [setOk, hv]
      simp only [this, Bool.false_eq_true, if_false, Option.some.injEq] at hg
      subst hg
      simp
    | true =>
      cases ht : settP s a with
      | false =>
        have : setOk vcP settP s a c = false := by simp [setOk, ht]
        simp only [this, Bool.false_eq_true, if_false, Option.some.injEq] at hg
        subst hg
        simp [tt_b, ht]
      | true =>
        cases hco : comesB s (keptC c) a with
        | true =>
          have : setOk vcP settP s a c = false := by simp [setOk, hco]
          simp only [this, Bool.false_eq_true, if_false, Option.some.injEq] at hg
          subst hg
          simp [tt_b, ht]
        | false =>
          have : setOk vcP settP s a c = true := by simp [setOk, hin, hv, ht, hco]
          simp only [this, if_true, Option.ite_none_right_eq_some, Option.some.injEq, decide_eq_true_eq] at hg
          obtain ⟨hlt, rfl⟩ := hg
          simp only [cell_get hin, fld_s2, rs_r, List.length_map, setS_eq]
          simp [tt_b, ht, h1]
          omega
theorem ok_ref31_Set : FOk q0t (gSet vcR settR) := fok_ref31_Set q11 ok_ref31_Settable ok_ref30_Kept ok_ref31_Comes fun ds outs hw hg => by
  obtain ⟨d, r, rfl, hd, e, r', rfl, he, f, r2, rfl, hf, rfl⟩ := hw
  obtain ⟨s, rfl, hs⟩ := wfS hd
  obtain ⟨a, rfl, ha⟩ := wfI he
  obtain ⟨c, rfl, hc⟩ := wfC hf
  simp only [gSet, dS_eS, dC_eC, int_i] at hg
  have hcond : (decide (a < 0) || decide ((s.cs.length : Int) ≤ a)) = !inS s a := by
    cases hin : inS s a with
    | true =>
      have h1 := inS_iff.1 hin
      have h2 : ¬ a < 0 := by omega
      have h3 : ¬ (s.cs.length : Int) ≤ a := by omega
      simp [h2, h3]
    | false =>
      have h1 : ¬ (0 ≤ a ∧ a < s.cs.length) := fun q => by rw [inS_iff.2 q] at hin; cases hin
      simp
      omega
  simp only [q4e, q00, go_br, q01, q02, allSay, X.says, X.ev, X.evs, evl, tblS, List.getD_cons_zero, List.getD_cons_succ, List.getElem?_cons_zero, List.getElem?_cons_succ, tt_b, int_i, str_s, rs_r, Option.isSome_some, Option.getD_some, decide_eq_true_eq, decide_eq_false_iff_not, dS_eS, dC_eC, dU_eU, dW_eW, dY_eY, eC_0, eC_1, eU_0, eU_1, eW_0, eW_1, eW_2, eY_0, eY_1, eS_0, eS_1, eS_2, eS_3, eS_4, eS_5, List.length_map, i_inj, b_inj, s_inj, eC_eq, eU_eq, eW_eq, eY_eq, eS_eq, rng64, List.take_succ_cons, List.take_zero, List.nil_append, List.cons_append, decide_true, decide_false, Bool.or_true, true_and, and_true, gSIb, gSCb, gSIbP, gKept, gSCIb, Option.isSome_some, Option.getD_some, hcond]
  cases hin : inS s a with
  | false =>
    have : setOk vcR settR s a c = false := by simp [setOk, hin]
    simp only [this, Bool.false_eq_true, if_false, Option.some.injEq] at hg
    subst hg
    simp
  | true =>
    have h1 := inS_iff.1 hin
    cases hv : vcR s c with
    | false =>
      have : setOk vcR settR s a c = false := by simp [setOk, hv]
      simp only [this, Bool.false_eq_true, if_false, Option.some.injEq] at hg
      subst hg
      simp
    | true =>
      cases ht : settR s a with
      | false =>
        have : setOk vcR settR s a c = false := by simp [setOk, ht]
        simp only [this, Bool.false_eq_true, if_false, Option.some.injEq] at hg
        subst hg
        simp [tt_b, ht]
      | true =>
        cases hco : comesB s (keptC c) a with
        | true =>
          have : setOk vcR settR s a c = false := by simp [setOk, hco]
          simp only [this, Bool.false_eq_true, if_false, Option.some.injEq] at hg
          subst hg
          simp [tt_b, ht]
        | false =>
          have : setOk vcR settR s a c = true := by simp [setOk, hin, hv, ht, hco]
          simp only [this, if_true, Option.ite_none_right_eq_some, Option.some.injEq, decide_eq_true_eq] at hg
          obtain ⟨hlt, rfl⟩ := hg
          simp only [cell_get hin, fld_s2, rs_r, List.length_map, setS_eq]
          simp [tt_b, ht, h1]
          omega
end Go.Proofs.Ytaoamndcdjelnaa


namespace Go.Proofs.Ytaoamndcdjelnaa
open Go.RowKit
set_option linter.unusedVariables false
set_option linter.unusedSimpArgs false

def markedB (s : So) (m t : Int) : Bool := decide (0 ≤ m) && (decide (m ≤ s.tr.length) && (decide (0 ≤ t) && decide (t ≤ s.cs.length)))
def gSIIb (f : So → Int → Int → Bool) : List D → Option (List D)
  | [s, m, t] => some [.b (f (dS s) m.int t.int)]
  | _ => none
theorem ok_trail_marked : FOk q1h (gSIIb markedB) := fok_trail_marked fun ds outs hw hg => by
  obtain ⟨d, r, rfl, hd, e, r', rfl, he, f, r2, rfl, hf, rfl⟩ := hw
  obtain ⟨s, rfl, hs⟩ := wfS hd
  obtain ⟨m, rfl, hm⟩ := wfI he
  obtain ⟨t, rfl, ht⟩ := wfI hf
  simp only [gSIIb, dS_eS, int_i, Option.some.injEq] at hg
  subst hg
  simp only [q2y, q00, go_br, q01, q02, allSay, X.says, X.ev, X.evs, evl, tblS, List.getD_cons_zero, List.getD_cons_succ, List.getElem?_cons_zero, List.getElem?_cons_succ, tt_b, int_i, str_s, rs_r, Option.isSome_some, Option.getD_some, decide_eq_true_eq, decide_eq_false_iff_not, dS_eS, dC_eC, dU_eU, dW_eW, dY_eY, eC_0, eC_1, eU_0, eU_1, eW_0, eW_1, eW_2, eY_0, eY_1, eS_0, eS_1, eS_2, eS_3, eS_4, eS_5, List.length_map, i_inj, b_inj, s_inj, eC_eq, eU_eq, eW_eq, eY_eq, eS_eq, rng64, List.take_succ_cons, List.take_zero, List.nil_append, List.cons_append, decide_true, decide_false, Bool.or_true, true_and, and_true, markedB, Bool.and_assoc]
def putU (u : Un) (cs : List Ce) : List Ce := if 0 ≤ u.at' ∧ u.at' < cs.length then cs.set u.at'.toNat u.old else cs
def undoC (cs : List Ce) (l : List Un) : List Ce := l.foldr putU cs
theorem putU_len (u : Un) (cs : List Ce) : (putU u cs).length = cs.length := by
  unfold putU
  split <;> simp
theorem undoC_len (cs : List Ce) : ∀ l, (undoC cs l).length = cs.length
  | [] => rfl
  | u :: l => (putU_len _ _).trans (undoC_len cs l)
theorem drop_get {α : Type} [Inhabited α] {l : List α} {k : Nat} (h : k < l.length) : l.drop k = l.getD k default :: l.drop (k + 1) := by
  rw [List.drop_eq_getElem_cons h]
  simp [List.getD_eq_getElem?_getD, h]
def undoS (s : So) (m t : Int) : So := { s with cs := (undoC s.cs (s.tr.drop m.toNat)).take t.toNat, tr := s.tr.take m.toNat }
def gUndo : List D → Option (List D)
  | [s, m, t] => if markedB (dS s) m.int t.int then some [.i 0, eS (undoS (dS s) m.int t.int)] else some [.i 1, eS (dS s)]
  | _ => none
theorem put_eq {s : So} {cs : List Ce} {u : Un} (h : 0 ≤ u.at' ∧ u.at' < cs.length) : D.a ((eS { s with cs := cs }).fs.set 0 (.r ((cs.map eC).set u.at'.toNat (eC u.old)))) = eS { s with cs := putU u cs } := by
  simp [putU, h, eS, D.fs, List.map_set]
theorem markedB_iff {s : So} {m t : Int} : markedB s m t = true ↔ 0 ≤ m ∧ m ≤ s.tr.length ∧ 0 ≤ t ∧ t ≤ s.cs.length := by simp [markedB]
theorem ok_trail_Undo : FOk q1f gUndo := fok_trail_Undo ok_trail_marked ok_trail_in fun ds outs hw hg => by
  obtain ⟨d, r, rfl, hd, e, r', rfl, he, f, r2, rfl, hf, rfl⟩ := hw
  obtain ⟨s, rfl, hs⟩ := wfS hd
  obtain ⟨m, rfl, hm⟩ := wfI he
  obtain ⟨t, rfl, ht⟩ := wfI hf
  simp only [gUndo, dS_eS, int_i] at hg
  rw [q3g, q00]
  refine ⟨by simp only [q00, go_br, q01, q02, allSay, X.says, X.ev, X.evs, evl, tblS, List.getD_cons_zero, List.getD_cons_succ, List.getElem?_cons_zero, List.getElem?_cons_succ, tt_b, int_i, str_s, rs_r, Option.isSome_some, Option.getD_some, decide_eq_true_eq, decide_eq_false_iff_not, dS_eS, dC_eC, dU_eU, dW_eW, dY_eY, eC_0, eC_1, eU_0, eU_1, eW_0, eW_1, eW_2, eY_0, eY_1, eS_0, eS_1, eS_2, eS_3, eS_4, eS_5, List.length_map, i_inj, b_inj, s_inj, eC_eq, eU_eq, eW_eq, eY_eq, eS_eq, rng64, List.take_succ_cons, List.take_zero, List.nil_append, List.cons_append, decide_true, decide_false, Bool.or_true, true_and, and_true, gSIIb], ?_⟩
  rw [go_br]
  cases hk : markedB s m t with
  | false =>
    simp only [hk, Bool.false_eq_true, if_false, Option.some.injEq] at hg
    subst hg
    refine ⟨fun _ => by simp only [q00, go_br, q01, q02, allSay, X.says, X.ev, X.evs, evl, tblS, List.getD_cons_zero, List.getD_cons_succ, List.getElem?_cons_zero, List.getElem?_cons_succ, tt_b, int_i, str_s, rs_r, Option.isSome_some, Option.getD_some, decide_eq_true_eq, decide_eq_false_iff_not, dS_eS, dC_eC, dU_eU, dW_eW, dY_eY, eC_0, eC_1, eU_0, eU_1, eW_0, eW_1, eW_2, eY_0, eY_1, eS_0, eS_1, eS_2, eS_3, eS_4, eS_5, List.length_map, i_inj, b_inj, s_inj, eC_eq, eU_eq, eW_eq, eY_eq, eS_eq, rng64, List.take_succ_cons, List.take_zero, List.nil_append, List.cons_append, decide_true, decide_false, Bool.or_true, true_and, and_true, gSIIb], fun h => ?_⟩
    simp [X.ev, X.evs, evl, tblS, gSIIb, dS_eS, int_i, hk, D.tt] at h
  | true =>
    simp only [hk, if_true, Option.some.injEq] at hg
    subst hg
    refine ⟨fun h => ?_, fun _ => ?_⟩
    · simp [X.ev, X.evs, evl, tblS, gSIIb, dS_eS, int_i, hk, D.tt] at h
    obtain ⟨q1, q2, q3, q4⟩ := markedB_iff.1 hk
    rw [q00]
    refine ⟨by simp only [q00, go_br, q01, q02, allSay, X.says, X.ev, X.evs, evl, tblS, List.getD_cons_zero, List.getD_cons_succ, List.getElem?_cons_zero, List.getElem?_cons_succ, tt_b, int_i, str_s, rs_r, Option.isSome_some, Option.getD_some, decide_eq_true_eq, decide_eq_false_iff_not, dS_eS, dC_eC, dU_eU, dW_eW, dY_eY, eC_0, eC_1, eU_0, eU_1, eW_0, eW_1, eW_2, eY_0, eY_1, eS_0, eS_1, eS_2, eS_3, eS_4, eS_5, List.length_map, i_inj, b_inj, s_inj, eC_eq, eU_eq, eW_eq, eY_eq, eS_eq, rng64, List.take_succ_cons, List.take_zero, List.nil_append, List.cons_append, decide_true, decide_false, Bool.or_true, true_and, and_true]; exact ⟨q1, q2⟩, ?_⟩
    have ecut : ((s.tr.map eU).take ((s.tr.length : Nat) : Int).toNat).drop m.toNat = (s.tr.drop m.toNat).map eU := by
      rw [List.take_of_length_le (by simp), List.map_drop]
    have hll : (s.tr.drop m.toNat).length ≤ s.tr.length := by simp
    have hl := hs.tr.1
    rw [go_loop]
    generalize hL : s.tr.drop m.toNat = L at ecut hll
    refine ⟨fun st => ∃ k : Nat, k ≤ L.length ∧ st = [eS { s with cs := undoC s.cs (L.drop k) }, .i ((k : Int) - 1)], fun st => ((st.getD 1 .u).int + 1).toNat, ⟨L.length, Nat.le_refl _, ?_⟩, ?_⟩
    · simp only [q00, go_br, q01, q02, allSay, X.says, X.ev, X.evs, evl, tblS, List.getD_cons_zero, List.getD_cons_succ, List.getElem?_cons_zero, List.getElem?_cons_succ, tt_b, int_i, str_s, rs_r, Option.isSome_some, Option.getD_some, decide_eq_true_eq, decide_eq_false_iff_not, dS_eS, dC_eC, dU_eU, dW_eW, dY_eY, eC_0, eC_1, eU_0, eU_1, eW_0, eW_1, eW_2, eY_0, eY_1, eS_0, eS_1, eS_2, eS_3, eS_4, eS_5, List.length_map, i_inj, b_inj, s_inj, eC_eq, eU_eq, eW_eq, eY_eq, eS_eq, rng64, List.take_succ_cons, List.take_zero, List.nil_append, List.cons_append, decide_true, decide_false, Bool.or_true, true_and, and_true, ecut]
      simp [undoC]
    rintro st - ⟨k, hkl, rfl⟩
    simp only [q00, go_br, q01, q02, allSay, X.says, X.ev, X.evs, evl, tblS, List.getD_cons_zero, List.getD_cons_succ, List.getElem?_cons_zero, List.getElem?_cons_succ, tt_b, int_i, str_s, rs_r, Option.isSome_some, Option.getD_some, decide_eq_true_eq, decide_eq_false_iff_not, dS_eS, dC_eC, dU_eU, dW_eW, dY_eY, eC_0, eC_1, eU_0, eU_1, eW_0, eW_1, eW_2, eY_0, eY_1, eS_0, eS_1, eS_2, eS_3, eS_4, eS_5, List.length_map, i_inj, b_inj, s_inj, eC_eq, eU_eq, eW_eq, eY_eq, eS_eq, rng64, List.take_succ_cons, List.take_zero, List.nil_append, List.cons_append, decide_true, decide_false, Bool.or_true, true_and, and_true, gSIb, ecut]
    refine ⟨fun hlt => ?_, fun hlt => ?_⟩
    · have hk1 : ((k : Int) - 1).toNat = k - 1 := by omega
      have hkn : k - 1 < L.length := by omega
      have hget : (D.r (L.map eU)).get ((k : Int) - 1) = eU (L.getD (k - 1) default) := by
        rw [get_r eU (by omega) (by omega), hk1]
      have hdr : undoC s.cs (L.drop (k - 1)) = putU (L.getD (k - 1) default) (undoC s.cs (L.drop k)) := by
        rw [drop_get hkn, show k - 1 + 1 = k by omega]
        rfl
      simp only [hget, eU_0, eU_1, int_i]
      generalize L.getD (k - 1) default = u at hdr
      refine ⟨fun hin => ?_, fun hin => ?_⟩
      · have h1 := inS_iff.1 hin
        rw [updB, if_pos rfl, put_eq h1, ← hdr]
        refine ⟨⟨h1.1, h1.2⟩, ⟨k - 1, by omega, by simp; omega⟩, ?_⟩
        simp [D.int]
        omega
      · have h1 : ¬ (0 ≤ u.at' ∧ u.at' < (undoC s.cs (L.drop k)).length) := fun q => by
          have : inS { s with cs := undoC s.cs (L.drop k) } u.at' = true := inS_iff.2 q
          rw [this] at hin
          cases hin
        have : putU u (undoC s.cs (L.drop k)) = undoC s.cs (L.drop k) := if_neg h1
        rw [updB, if_pos rfl]
        refine ⟨⟨k - 1, by omega, ?_⟩, ?_⟩
        · rw [hdr, this]
          simp
          omega
        · simp [D.int]
          omega
    · have hk0 : k = 0 := by omega
      subst hk0
      simp only [fld_s2, rs_r, List.length_map, undoC_len, List.drop_zero]
      refine ⟨⟨q1, q2⟩, ⟨q3, q4⟩, ?_⟩
      simp [undoS, eS, D.fs, D.fld, D.rs, hL, List.map_take]
end Go.Proofs.Ytaoamndcdjelnaa


namespace Go.Proofs.Ytaoamndcdjelnaa
open Go.RowKit
set_option linter.unusedVariables false
set_option linter.unusedSimpArgs false

def derM (s : So) : Nat → Ce → Ce
  | 0, c => c
  | k + 1, c => if c.t = 0 ∧ 0 ≤ tagS s c.n ∧ cellAt s c.n ≠ c then derM s k (cellAt s c.n) else c
def derP (s : So) (c : Ce) : Ce := if vcP s c then derM s s.cs.length c else ⟨0, 0⟩
def gDerP : List D → Option (List D)
  | [s, c] => some [eC (derP (dS s) (dC c))]
  | _ => none
theorem q2o : FOk q0f gDerP := fok_cells_Deref q1i ok_cells_tag fun ds outs hw hg => by
  obtain ⟨d, r, rfl, hd, e, r', rfl, he, rfl⟩ := hw
  obtain ⟨s, rfl, hs⟩ := wfS hd
  obtain ⟨c, rfl, hc⟩ := wfC he
  simp only [gDerP, dS_eS, dC_eC, Option.some.injEq] at hg
  subst hg
  have hl := hs.cs.1
  simp only [q3a, q00, go_br, q01, q02, allSay, X.says, X.ev, X.evs, evl, tblS, List.getD_cons_zero, List.getD_cons_succ, List.getElem?_cons_zero, List.getElem?_cons_succ, tt_b, int_i, str_s, rs_r, Option.isSome_some, Option.getD_some, decide_eq_true_eq, decide_eq_false_iff_not, dS_eS, dC_eC, dU_eU, dW_eW, dY_eY, eC_0, eC_1, eU_0, eU_1, eW_0, eW_1, eW_2, eY_0, eY_1, eS_0, eS_1, eS_2, eS_3, eS_4, eS_5, List.length_map, i_inj, b_inj, s_inj, eC_eq, eU_eq, eW_eq, eY_eq, eS_eq, rng64, List.take_succ_cons, List.take_zero, List.nil_append, List.cons_append, decide_true, decide_false, Bool.or_true, true_and, and_true, gSCb, der_0]
  refine ⟨fun h => ?_, fun h => ?_⟩
  · simp only [derP, show vcP s c = false by simpa using h]
    rfl
  have hvc' : vcP s c = true := by simpa using h
  rw [go_loop]
  refine ⟨fun st => ∃ (k : Nat) (x : Ce), k ≤ s.cs.length ∧ st = [.i k, eC x] ∧ derM s (s.cs.length - k) x = derP s c, fun st => s.cs.length - (st.getD 0 .u).int.toNat, ⟨0, c, Nat.zero_le _, rfl, by rw [Nat.sub_zero, derP, if_pos hvc']⟩, ?_⟩
  rintro st - ⟨k, x, hk, rfl, hP⟩
  rw [go_br]
  refine ⟨fun hlt => ?_, fun hlt => ?_⟩
  · simp only [q00, go_br, q01, q02, allSay, X.says, X.ev, X.evs, evl, tblS, List.getD_cons_zero, List.getD_cons_succ, List.getElem?_cons_zero, List.getElem?_cons_succ, tt_b, int_i, str_s, rs_r, Option.isSome_some, Option.getD_some, decide_eq_true_eq, decide_eq_false_iff_not, dS_eS, dC_eC, dU_eU, dW_eW, dY_eY, eC_0, eC_1, eU_0, eU_1, eW_0, eW_1, eW_2, eY_0, eY_1, eS_0, eS_1, eS_2, eS_3, eS_4, eS_5, List.length_map, i_inj, b_inj, s_inj, eC_eq, eU_eq, eW_eq, eY_eq, eS_eq, rng64, List.take_succ_cons, List.take_zero, List.nil_append, List.cons_append, decide_true, decide_false, Bool.or_true, true_and, and_true] at hlt
    have hkl : k < s.cs.length := by omega
    obtain ⟨n, hn⟩ : ∃ n, s.cs.length - k = n + 1 := ⟨s.cs.length - k - 1, by omega⟩
    rw [hn] at hP
    unfold derM at hP
    have hn2 : s.cs.length - (k + 1) = n := by omega
    by_cases h0 : x.t = 0
    · by_cases ht : 0 ≤ tagS s x.n
      · have hin := tag_nn ht
        have h3 := inS_iff.1 hin
        have ht' : ¬ tagS s x.n < 0 := by omega
        simp only [q00, go_br, q01, q02, allSay, X.says, X.ev, X.evs, evl, tblS, List.getD_cons_zero, List.getD_cons_succ, List.getElem?_cons_zero, List.getElem?_cons_succ, tt_b, int_i, str_s, rs_r, Option.isSome_some, Option.getD_some, decide_eq_true_eq, decide_eq_false_iff_not, dS_eS, dC_eC, dU_eU, dW_eW, dY_eY, eC_0, eC_1, eU_0, eU_1, eW_0, eW_1, eW_2, eY_0, eY_1, eS_0, eS_1, eS_2, eS_3, eS_4, eS_5, List.length_map, i_inj, b_inj, s_inj, eC_eq, eU_eq, eW_eq, eY_eq, eS_eq, rng64, List.take_succ_cons, List.take_zero, List.nil_append, List.cons_append, decide_true, decide_false, Bool.or_true, true_and, and_true, gSIi, cell_get hin, h0, ht', h3.1, h3.2]
        refine ⟨fun hx => ?_, fun hx => ?_⟩
        · have hx' : cellAt s x.n = x := by simpa using hx
          rw [if_neg (fun q => q.2.2 hx')] at hP
          rw [hP]
        · have hx' : cellAt s x.n ≠ x := by simpa using hx
          rw [if_pos ⟨h0, ht, hx'⟩] at hP
          refine ⟨⟨by omega, by omega⟩, ?_⟩
          rw [updB, if_pos rfl]
          refine ⟨⟨k + 1, cellAt s x.n, by omega, by simp, by rw [hn2]; exact hP⟩, ?_⟩
          simp [D.int]
          omega
      · have ht' : tagS s x.n < 0 := by omega
        rw [if_neg (fun q => ht q.2.1)] at hP
        simp only [q00, go_br, q01, q02, allSay, X.says, X.ev, X.evs, evl, tblS, List.getD_cons_zero, List.getD_cons_succ, List.getElem?_cons_zero, List.getElem?_cons_succ, tt_b, int_i, str_s, rs_r, Option.isSome_some, Option.getD_some, decide_eq_true_eq, decide_eq_false_iff_not, dS_eS, dC_eC, dU_eU, dW_eW, dY_eY, eC_0, eC_1, eU_0, eU_1, eW_0, eW_1, eW_2, eY_0, eY_1, eS_0, eS_1, eS_2, eS_3, eS_4, eS_5, List.length_map, i_inj, b_inj, s_inj, eC_eq, eU_eq, eW_eq, eY_eq, eS_eq, rng64, List.take_succ_cons, List.take_zero, List.nil_append, List.cons_append, decide_true, decide_false, Bool.or_true, true_and, and_true, gSIi, h0, ht', ← hP]
        simp
    · rw [if_neg (fun q => h0 q.1)] at hP
      simp only [q00, go_br, q01, q02, allSay, X.says, X.ev, X.evs, evl, tblS, List.getD_cons_zero, List.getD_cons_succ, List.getElem?_cons_zero, List.getElem?_cons_succ, tt_b, int_i, str_s, rs_r, Option.isSome_some, Option.getD_some, decide_eq_true_eq, decide_eq_false_iff_not, dS_eS, dC_eC, dU_eU, dW_eW, dY_eY, eC_0, eC_1, eU_0, eU_1, eW_0, eW_1, eW_2, eY_0, eY_1, eS_0, eS_1, eS_2, eS_3, eS_4, eS_5, List.length_map, i_inj, b_inj, s_inj, eC_eq, eU_eq, eW_eq, eY_eq, eS_eq, rng64, List.take_succ_cons, List.take_zero, List.nil_append, List.cons_append, decide_true, decide_false, Bool.or_true, true_and, and_true, gSIi, h0, ← hP]
      simp
  · simp only [q00, go_br, q01, q02, allSay, X.says, X.ev, X.evs, evl, tblS, List.getD_cons_zero, List.getD_cons_succ, List.getElem?_cons_zero, List.getElem?_cons_succ, tt_b, int_i, str_s, rs_r, Option.isSome_some, Option.getD_some, decide_eq_true_eq, decide_eq_false_iff_not, dS_eS, dC_eC, dU_eU, dW_eW, dY_eY, eC_0, eC_1, eU_0, eU_1, eW_0, eW_1, eW_2, eY_0, eY_1, eS_0, eS_1, eS_2, eS_3, eS_4, eS_5, List.length_map, i_inj, b_inj, s_inj, eC_eq, eU_eq, eW_eq, eY_eq, eS_eq, rng64, List.take_succ_cons, List.take_zero, List.nil_append, List.cons_append, decide_true, decide_false, Bool.or_true, true_and, and_true] at hlt ⊢
    have : k = s.cs.length := by omega
    subst this
    rw [Nat.sub_self] at hP
    rw [← hP, derM]

def symP (s : So) (c : Ce) : Int := if c.t = 3 ∧ inS s c.n = true ∧ (cellAt s c.n).t = 4 then (cellAt s c.n).n else -1
def gSymP : List D → Option (List D)
  | [s, c] => some [.i (symP (dS s) (dC c))]
  | _ => none
theorem q3f : FOk q0i gSymP := fok_unify_symbol fun ds outs hw hg => by
  obtain ⟨d, r, rfl, hd, e, r', rfl, he, rfl⟩ := hw
  obtain ⟨s, rfl, hs⟩ := wfS hd
  obtain ⟨c, rfl, hc⟩ := wfC he
  simp only [gSymP, dS_eS, dC_eC, Option.some.injEq] at hg
  subst hg
  simp only [q2x, q00, go_br, q01, q02, allSay, X.says, X.ev, X.evs, evl, tblS, List.getD_cons_zero, List.getD_cons_succ, List.getElem?_cons_zero, List.getElem?_cons_succ, tt_b, int_i, str_s, rs_r, Option.isSome_some, Option.getD_some, decide_eq_true_eq, decide_eq_false_iff_not, dS_eS, dC_eC, dU_eU, dW_eW, dY_eY, eC_0, eC_1, eU_0, eU_1, eW_0, eW_1, eW_2, eY_0, eY_1, eS_0, eS_1, eS_2, eS_3, eS_4, eS_5, List.length_map, i_inj, b_inj, s_inj, eC_eq, eU_eq, eW_eq, eY_eq, eS_eq, rng64, List.take_succ_cons, List.take_zero, List.nil_append, List.cons_append, decide_true, decide_false, Bool.or_true, true_and, and_true]
  by_cases h3 : c.t = 3
  · cases hi : inS s c.n with
    | true =>
      have h := inS_iff.1 hi
      simp [h3, h, cell_get hi, eC_0, eC_1, symP, hi]
      omega
    | false =>
      have h : ¬ (0 ≤ c.n ∧ c.n < s.cs.length) := fun q => by rw [inS_iff.2 q] at hi; cases hi
      have h4 : c.n < 0 ∨ (s.cs.length : Int) ≤ c.n := by omega
      simp [h3, symP, hi]
      omega
  · simp [h3, symP]
theorem ok_ref33_functor : FOk q0p gSymP := fok_ref33_functor fun ds outs hw hg => by
  obtain ⟨d, r, rfl, hd, e, r', rfl, he, rfl⟩ := hw
  obtain ⟨s, rfl, hs⟩ := wfS hd
  obtain ⟨c, rfl, hc⟩ := wfC he
  simp only [gSymP, dS_eS, dC_eC, Option.some.injEq] at hg
  subst hg
  simp only [q2t, q00, go_br, q01, q02, allSay, X.says, X.ev, X.evs, evl, tblS, List.getD_cons_zero, List.getD_cons_succ, List.getElem?_cons_zero, List.getElem?_cons_succ, tt_b, int_i, str_s, rs_r, Option.isSome_some, Option.getD_some, decide_eq_true_eq, decide_eq_false_iff_not, dS_eS, dC_eC, dU_eU, dW_eW, dY_eY, eC_0, eC_1, eU_0, eU_1, eW_0, eW_1, eW_2, eY_0, eY_1, eS_0, eS_1, eS_2, eS_3, eS_4, eS_5, List.length_map, i_inj, b_inj, s_inj, eC_eq, eU_eq, eW_eq, eY_eq, eS_eq, rng64, List.take_succ_cons, List.take_zero, List.nil_append, List.cons_append, decide_true, decide_false, Bool.or_true, true_and, and_true]
  by_cases h3 : c.t = 3
  · cases hi : inS s c.n with
    | true =>
      have h := inS_iff.1 hi
      simp [h3, h, cell_get hi, eC_0, eC_1, symP, hi]
      omega
    | false =>
      have h : ¬ (0 ≤ c.n ∧ c.n < s.cs.length) := fun q => by rw [inS_iff.2 q] at hi; cases hi
      have h4 : c.n < 0 ∨ (s.cs.length : Int) ≤ c.n := by omega
      simp [h3, symP, hi]
      omega
  · simp [h3, symP]
theorem symP_in {s : So} {c : Ce} (h : ¬ symP s c < 0) : c.t = 3 ∧ inS s c.n = true ∧ (cellAt s c.n).t = 4 ∧ symP s c = (cellAt s c.n).n := by
  unfold symP at h ⊢
  split at h
  · rename_i q
    rw [if_pos q]
    exact ⟨q.1, q.2.1, q.2.2, rfl⟩
  · omega
def toP (s : So) (c : Ce) : Int := IntKind.wrap .i64 (c.n + 1 + (s.ys.getD (symP s c).toNat default).ar)
def minP (s : So) (c : Ce) : Int := if (s.cs.length : Int) < toP s c then (s.cs.length : Int) else toP s c
def argP (s : So) (c : Ce) : List Ce := if symP s c < 0 ∨ (s.ys.length : Int) ≤ symP s c then [] else if minP s c < c.n + 1 then [] else (s.cs.take (minP s c).toNat).drop (c.n + 1).toNat
theorem argP_len (s : So) (c : Ce) : (argP s c).length ≤ s.cs.length := by
  unfold argP
  split
  · simp
  · split
    · simp
    · simp
      omega
def gArgP : List D → Option (List D)
  | [s, c] => some [.r ((argP (dS s) (dC c)).map eC)]
  | _ => none
theorem q4l : FOk q0k gArgP := fok_unify_arguments q3f fun ds outs hw hg => by
  obtain ⟨d, r, rfl, hd, e, r', rfl, he, rfl⟩ := hw
  obtain ⟨s, rfl, hs⟩ := wfS hd
  obtain ⟨c, rfl, hc⟩ := wfC he
  simp only [gArgP, dS_eS, dC_eC, Option.some.injEq] at hg
  subst hg
  have hl := hs.cs.1
  simp only [q2i, q00, go_br, q01, q02, allSay, X.says, X.ev, X.evs, evl, tblS, List.getD_cons_zero, List.getD_cons_succ, List.getElem?_cons_zero, List.getElem?_cons_succ, tt_b, int_i, str_s, rs_r, Option.isSome_some, Option.getD_some, decide_eq_true_eq, decide_eq_false_iff_not, dS_eS, dC_eC, dU_eU, dW_eW, dY_eY, eC_0, eC_1, eU_0, eU_1, eW_0, eW_1, eW_2, eY_0, eY_1, eS_0, eS_1, eS_2, eS_3, eS_4, eS_5, List.length_map, i_inj, b_inj, s_inj, eC_eq, eU_eq, eW_eq, eY_eq, eS_eq, rng64, List.take_succ_cons, List.take_zero, List.nil_append, List.cons_append, decide_true, decide_false, Bool.or_true, true_and, and_true, gSymP]
  refine ⟨fun h => ?_, fun h => ?_⟩
  · rw [argP, if_pos (by simpa using h)]
    rfl
  · have h' : ¬ (symP s c < 0 ∨ (s.ys.length : Int) ≤ symP s c) := by simpa using h
    obtain ⟨h3, hi, h4, -⟩ := symP_in (s := s) (c := c) (by omega)
    have hn := inS_iff.1 hi
    have hgy : (D.r (s.ys.map eY)).get (symP s c) = eY (s.ys.getD (symP s c).toNat default) := get_r eY (by omega) (by omega)
    have hto : (fnD 9 [.i (c.n + 1), .i (s.ys.getD (symP s c).toNat default).ar]) = .i (toP s c) := rfl
    rw [argP, if_neg h']
    simp only [hgy, eY_1, hto, int_i]
    have hmin : (if (s.cs.length : Int) < toP s c then (D.i (s.cs.length : Int)) else .i (toP s c)) = .i (minP s c) := by
      unfold minP
      split <;> rfl
    simp only [hmin, int_i]
    refine ⟨⟨by omega, by omega⟩, ⟨by omega, by omega⟩, fun h5 => ?_, fun h5 => ?_⟩
    · rw [if_pos h5]
      rfl
    · have hm : minP s c ≤ s.cs.length := by
        unfold minP
        split <;> omega
      rw [if_neg h5]
      refine ⟨⟨by omega, by omega, by omega⟩, ?_⟩
      simp [List.map_take, List.map_drop]
def roomS (s : So) : Bool := decide (s.tr.length < 5864062014634) && decide (s.wk.length < 3518437208780)

theorem ok_attr_in : FOk q1z (gSIb inS) := fok_attr_in fun ds outs hw hg => by
  obtain ⟨d, r, rfl, hd, e, r', rfl, he, rfl⟩ := hw
  obtain ⟨s, rfl, hs⟩ := wfS hd
  obtain ⟨i, rfl, hi⟩ := wfI he
  simp only [gSIb, dS_eS, int_i, Option.some.injEq] at hg
  subst hg
  simp only [tree_attr_in, q00, go_br, q01, q02, allSay, X.says, X.ev, X.evs, evl, tblS, List.getD_cons_zero, List.getD_cons_succ, List.getElem?_cons_zero, List.getElem?_cons_succ, tt_b, int_i, str_s, rs_r, Option.isSome_some, Option.getD_some, decide_eq_true_eq, decide_eq_false_iff_not, dS_eS, dC_eC, dU_eU, dW_eW, dY_eY, eC_0, eC_1, eU_0, eU_1, eW_0, eW_1, eW_2, eY_0, eY_1, eS_0, eS_1, eS_2, eS_3, eS_4, eS_5, List.length_map, i_inj, b_inj, s_inj, eC_eq, eU_eq, eW_eq, eY_eq, eS_eq, rng64, List.take_succ_cons, List.take_zero, List.nil_append, List.cons_append, decide_true, decide_false, Bool.or_true, true_and, and_true, inS]
theorem ok_attr_kept : FOk q23 gKept := fok_attr_kept fun ds outs hw hg => by
  obtain ⟨d, r, rfl, hd, rfl⟩ := hw
  obtain ⟨c, rfl, hc⟩ := wfC hd
  simp only [gKept, dC_eC, Option.some.injEq] at hg
  subst hg
  simp only [q46, q00, go_br, q01, q02, allSay, X.says, X.ev, X.evs, evl, tblS, List.getD_cons_zero, List.getD_cons_succ, List.getElem?_cons_zero, List.getElem?_cons_succ, tt_b, int_i, str_s, rs_r, Option.isSome_some, Option.getD_some, decide_eq_true_eq, decide_eq_false_iff_not, dS_eS, dC_eC, dU_eU, dW_eW, dY_eY, eC_0, eC_1, eU_0, eU_1, eW_0, eW_1, eW_2, eY_0, eY_1, eS_0, eS_1, eS_2, eS_3, eS_4, eS_5, List.length_map, i_inj, b_inj, s_inj, eC_eq, eU_eq, eW_eq, eY_eq, eS_eq, rng64, List.take_succ_cons, List.take_zero, List.nil_append, List.cons_append, decide_true, decide_false, Bool.or_true, true_and, and_true, keptC]
  refine ⟨fun h => ?_, fun h => ?_⟩
  · rw [if_pos h]
    rfl
  · rw [if_neg h]
def varP (s : So) (v : Ce) : Ce × Bool := if vcP s v = false then (⟨0, 0⟩, false) else if (derP s v).t = 0 then (derP s v, inS s (derP s v).n) else if (derP s v).t = 5 then (derP s v, inS s (derP s v).n && inS s ((derP s v).n + 2)) else (⟨0, 0⟩, false)
def gVar (f : So → Ce → Ce × Bool) : List D → Option (List D)
  | [s, c] => some [eC (f (dS s) (dC c)).1, .b (f (dS s) (dC c)).2]
  | _ => none
theorem ok_attr_variable : FOk q1d (gVar varP) := fok_attr_variable q1i q2o ok_attr_in fun ds outs hw hg => by
  obtain ⟨d, r, rfl, hd, e, r', rfl, he, rfl⟩ := hw
  obtain ⟨s, rfl, hs⟩ := wfS hd
  obtain ⟨c, rfl, hc⟩ := wfC he
  simp only [gVar, dS_eS, dC_eC, Option.some.injEq] at hg
  subst hg
  have hl := hs.cs.1
  simp only [q2r, q00, go_br, q01, q02, allSay, X.says, X.ev, X.evs, evl, tblS, List.getD_cons_zero, List.getD_cons_succ, List.getElem?_cons_zero, List.getElem?_cons_succ, tt_b, int_i, str_s, rs_r, Option.isSome_some, Option.getD_some, decide_eq_true_eq, decide_eq_false_iff_not, dS_eS, dC_eC, dU_eU, dW_eW, dY_eY, eC_0, eC_1, eU_0, eU_1, eW_0, eW_1, eW_2, eY_0, eY_1, eS_0, eS_1, eS_2, eS_3, eS_4, eS_5, List.length_map, i_inj, b_inj, s_inj, eC_eq, eU_eq, eW_eq, eY_eq, eS_eq, rng64, List.take_succ_cons, List.take_zero, List.nil_append, List.cons_append, decide_true, decide_false, Bool.or_true, true_and, and_true, gSCb, gDerP, gSIb, varP]
  cases hv : vcP s c
  · simp [der_0]
  by_cases h0 : (derP s c).t = 0
  · simp [h0]
  by_cases h5 : (derP s c).t = 5
  · cases hi : inS s (derP s c).n with
    | true =>
      have h := inS_iff.1 hi
      simp [h5, hi]
      simp only [rng64]
      omega
    | false => simp [h5, hi]
  · simp [h0, h5, der_0]
def wkO (s : So) (x c : Ce) : Wk := ⟨(cellAt s (x.n + 1)).n, cellAt s (x.n + 2), keptC c⟩
def bndP (s : So) (x c : Ce) : Int × So := if setOk vcP settP s x.n c then (0, { setS s x.n c with wk := s.wk ++ [wkO s x c] }) else (1, s)
def bndQ (s : So) (x : Ce) : Bool := roomS s && (inS s x.n && inS s (x.n + 2))
def gBnd : List D → Option (List D)
  | [s, x, c] => if bndQ (dS s) (dC x) then some [.i (bndP (dS s) (dC x) (dC c)).1, eS (bndP (dS s) (dC x) (dC c)).2] else none
  | _ => none
theorem wk_app (s : So) (w : Wk) : D.a ((eS s).fs.set 3 (.r (s.wk.map eW ++ [eW w]))) = eS { s with wk := s.wk ++ [w] } := by
  simp [eS, D.fs]
theorem ok_attr_bind : FOk q25 gBnd := fok_attr_bind ok_attr_kept ok_trail_Set fun ds outs hw hg => by
  obtain ⟨d, r, rfl, hd, e, r', rfl, he, f, r2, rfl, hf, rfl⟩ := hw
  obtain ⟨s, rfl, hs⟩ := wfS hd
  obtain ⟨x, rfl, hx⟩ := wfC he
  obtain ⟨c, rfl, hc⟩ := wfC hf
  simp only [gBnd, dS_eS, dC_eC, Option.ite_none_right_eq_some, Option.some.injEq] at hg
  obtain ⟨hq, rfl⟩ := hg
  simp only [bndQ, roomS, Bool.and_eq_true, decide_eq_true_eq] at hq
  obtain ⟨⟨hr1, hr2⟩, hi, hi2⟩ := hq
  have hl := hs.cs.1
  have h1 := inS_iff.1 hi
  have h2 := inS_iff.1 hi2
  have hi1 : inS s (x.n + 1) = true := inS_iff.2 ⟨by omega, by omega⟩
  have hset : gSet vcP settP [eS s, .i x.n, eC c] = some [.i (if setOk vcP settP s x.n c then 0 else 1), eS (if setOk vcP settP s x.n c then setS s x.n c else s)] := by
    simp only [gSet, dS_eS, dC_eC, int_i]
    cases setOk vcP settP s x.n c <;> simp [hr1]
  simp only [q4d, q00, go_br, q01, q02, allSay, X.says, X.ev, X.evs, evl, tblS, List.getD_cons_zero, List.getD_cons_succ, List.getElem?_cons_zero, List.getElem?_cons_succ, tt_b, int_i, str_s, rs_r, Option.isSome_some, Option.getD_some, decide_eq_true_eq, decide_eq_false_iff_not, dS_eS, dC_eC, dU_eU, dW_eW, dY_eY, eC_0, eC_1, eU_0, eU_1, eW_0, eW_1, eW_2, eY_0, eY_1, eS_0, eS_1, eS_2, eS_3, eS_4, eS_5, List.length_map, i_inj, b_inj, s_inj, eC_eq, eU_eq, eW_eq, eY_eq, eS_eq, rng64, List.take_succ_cons, List.take_zero, List.nil_append, List.cons_append, decide_true, decide_false, Bool.or_true, true_and, and_true, gKept, hset, cell_get hi1, cell_get hi2]
  refine ⟨⟨by omega, by omega, by omega, by omega, by omega, by omega⟩, ?_⟩
  cases hk : setOk vcP settP s x.n c with
  | false => simp [bndP, hk]
  | true =>
    simp [bndP, hk]
    refine ⟨?_, ?_⟩
    · show ((setS s x.n c).wk.length : Int) < _
      simp only [setS]
      omega
    · have := wk_app (setS s x.n c) (wkO s x c)
      exact this

def cmpI (a b : Int) : Int := if a < b then -1 else if b < a then 1 else 0
def gNanW : List D → Option (List D)
  | [n] => some [.b false]
  | _ => none
theorem ok_W_nan : FOk q0z gNanW := fok_cmp_isNaN_int64 fun ds outs hw hg => by
  obtain ⟨d, r, rfl, hd, rfl⟩ := hw
  obtain ⟨n, rfl, hn⟩ := wfI hd
  simp only [gNanW, Option.some.injEq] at hg
  subst hg
  simp [q2k, q00, go_br, q01, q02, allSay, X.says, X.ev, X.evs, evl, tblS, List.getD_cons_zero, List.getD_cons_succ, List.getElem?_cons_zero, List.getElem?_cons_succ, tt_b, int_i, str_s, rs_r, Option.isSome_some, Option.getD_some, decide_eq_true_eq, decide_eq_false_iff_not, dS_eS, dC_eC, dU_eU, dW_eW, dY_eY, eC_0, eC_1, eU_0, eU_1, eW_0, eW_1, eW_2, eY_0, eY_1, eS_0, eS_1, eS_2, eS_3, eS_4, eS_5, List.length_map, i_inj, b_inj, s_inj, eC_eq, eU_eq, eW_eq, eY_eq, eS_eq, rng64, List.take_succ_cons, List.take_zero, List.nil_append, List.cons_append, decide_true, decide_false, Bool.or_true, true_and, and_true]
def gCmpW : List D → Option (List D)
  | [a, b] => some [.i (cmpI a.int b.int)]
  | _ => none
theorem ok_W_cmp : FOk q0r gCmpW := fok_cmp_Compare_int64 ok_W_nan fun ds outs hw hg => by
  obtain ⟨d, r, rfl, hd, e, r', rfl, he, rfl⟩ := hw
  obtain ⟨a, rfl, ha⟩ := wfI hd
  obtain ⟨b, rfl, hb⟩ := wfI he
  simp only [gCmpW, int_i, Option.some.injEq] at hg
  subst hg
  simp only [q29, q00, go_br, q01, q02, allSay, X.says, X.ev, X.evs, evl, tblS, List.getD_cons_zero, List.getD_cons_succ, List.getElem?_cons_zero, List.getElem?_cons_succ, tt_b, int_i, str_s, rs_r, Option.isSome_some, Option.getD_some, decide_eq_true_eq, decide_eq_false_iff_not, dS_eS, dC_eC, dU_eU, dW_eW, dY_eY, eC_0, eC_1, eU_0, eU_1, eW_0, eW_1, eW_2, eY_0, eY_1, eS_0, eS_1, eS_2, eS_3, eS_4, eS_5, List.length_map, i_inj, b_inj, s_inj, eC_eq, eU_eq, eW_eq, eY_eq, eS_eq, rng64, List.take_succ_cons, List.take_zero, List.nil_append, List.cons_append, decide_true, decide_false, Bool.or_true, true_and, and_true, gNanW, cmpI]
  by_cases h1 : a < b
  · simp [h1]
  by_cases h2 : b < a
  · simp [h1, h2]
  · simp [h1, h2]
def gOrW : List D → Option (List D)
  | [l] => (match l.rs with
    | [a, b] => some [.i (if a.int = 0 then b.int else a.int)]
    | _ => none)
  | _ => none
theorem ok_W_or : FOk q20 gOrW := fok_cmp_Or_int fun ds outs hw hg => by
  obtain ⟨d, r, rfl, hd, rfl⟩ := hw
  obtain ⟨l, te, rfl, hte, hl, hall⟩ := hd.row
  simp only [gOrW, rs_r] at hg
  split at hg
  case h_2 => cases hg
  rename_i a b
  simp only [Option.some.injEq] at hg
  subst hg
  have hte' : te = .int .i64 := by
    have h : tyOf _ = some te := hte
    have h2 : tyOf 3 = some (.int .i64) := by kernel_rfl
    exact Option.some.inj (h.symm.trans h2)
  subst hte'
  obtain ⟨m, rfl, hm⟩ := wfI (hall a (by simp))
  obtain ⟨n, rfl, hn⟩ := wfI (hall b (by simp))
  simp only [q3j]
  rw [go_loop]
  refine ⟨fun st => ∃ k : Nat, k ≤ 2 ∧ st = [.i 0, .i k] ∧ (1 ≤ k → m = 0) ∧ (2 ≤ k → n = 0), fun st => 2 - (st.getD 1 .u).int.toNat, ⟨0, by omega, rfl, by omega, by omega⟩, ?_⟩
  rintro st - ⟨k, hk, rfl, h1, h2⟩
  have hk3 : k = 0 ∨ k = 1 ∨ k = 2 := by omega
  rcases hk3 with rfl | rfl | rfl
  · by_cases hm0 : m = 0
    · simp [q00, go_br, q01, q02, allSay, X.says, X.ev, X.evs, evl, tblS, List.getD_cons_zero, List.getD_cons_succ, List.getElem?_cons_zero, List.getElem?_cons_succ, tt_b, int_i, str_s, rs_r, Option.isSome_some, Option.getD_some, decide_eq_true_eq, decide_eq_false_iff_not, dS_eS, dC_eC, dU_eU, dW_eW, dY_eY, eC_0, eC_1, eU_0, eU_1, eW_0, eW_1, eW_2, eY_0, eY_1, eS_0, eS_1, eS_2, eS_3, eS_4, eS_5, List.length_map, i_inj, b_inj, s_inj, eC_eq, eU_eq, eW_eq, eY_eq, eS_eq, rng64, List.take_succ_cons, List.take_zero, List.nil_append, List.cons_append, decide_true, decide_false, Bool.or_true, true_and, and_true, D.get, D.rs, hm0, updB]
      exact ⟨1, by omega, by simp, by omega⟩
    · simp [q00, go_br, q01, q02, allSay, X.says, X.ev, X.evs, evl, tblS, List.getD_cons_zero, List.getD_cons_succ, List.getElem?_cons_zero, List.getElem?_cons_succ, tt_b, int_i, str_s, rs_r, Option.isSome_some, Option.getD_some, decide_eq_true_eq, decide_eq_false_iff_not, dS_eS, dC_eC, dU_eU, dW_eW, dY_eY, eC_0, eC_1, eU_0, eU_1, eW_0, eW_1, eW_2, eY_0, eY_1, eS_0, eS_1, eS_2, eS_3, eS_4, eS_5, List.length_map, i_inj, b_inj, s_inj, eC_eq, eU_eq, eW_eq, eY_eq, eS_eq, rng64, List.take_succ_cons, List.take_zero, List.nil_append, List.cons_append, decide_true, decide_false, Bool.or_true, true_and, and_true, D.get, D.rs, hm0]
  · have hm0 := h1 (by omega)
    by_cases hn0 : n = 0
    · simp [q00, go_br, q01, q02, allSay, X.says, X.ev, X.evs, evl, tblS, List.getD_cons_zero, List.getD_cons_succ, List.getElem?_cons_zero, List.getElem?_cons_succ, tt_b, int_i, str_s, rs_r, Option.isSome_some, Option.getD_some, decide_eq_true_eq, decide_eq_false_iff_not, dS_eS, dC_eC, dU_eU, dW_eW, dY_eY, eC_0, eC_1, eU_0, eU_1, eW_0, eW_1, eW_2, eY_0, eY_1, eS_0, eS_1, eS_2, eS_3, eS_4, eS_5, List.length_map, i_inj, b_inj, s_inj, eC_eq, eU_eq, eW_eq, eY_eq, eS_eq, rng64, List.take_succ_cons, List.take_zero, List.nil_append, List.cons_append, decide_true, decide_false, Bool.or_true, true_and, and_true, D.get, D.rs, hm0, hn0, updB]
      exact ⟨2, by omega, by simp⟩
    · simp [q00, go_br, q01, q02, allSay, X.says, X.ev, X.evs, evl, tblS, List.getD_cons_zero, List.getD_cons_succ, List.getElem?_cons_zero, List.getElem?_cons_succ, tt_b, int_i, str_s, rs_r, Option.isSome_some, Option.getD_some, decide_eq_true_eq, decide_eq_false_iff_not, dS_eS, dC_eC, dU_eU, dW_eW, dY_eY, eC_0, eC_1, eU_0, eU_1, eW_0, eW_1, eW_2, eY_0, eY_1, eS_0, eS_1, eS_2, eS_3, eS_4, eS_5, List.length_map, i_inj, b_inj, s_inj, eC_eq, eU_eq, eW_eq, eY_eq, eS_eq, rng64, List.take_succ_cons, List.take_zero, List.nil_append, List.cons_append, decide_true, decide_false, Bool.or_true, true_and, and_true, D.get, D.rs, hm0, hn0]
  · have hm0 := h1 (by omega)
    have hn0 := h2 (by omega)
    simp [q00, go_br, q01, q02, allSay, X.says, X.ev, X.evs, evl, tblS, List.getD_cons_zero, List.getD_cons_succ, List.getElem?_cons_zero, List.getElem?_cons_succ, tt_b, int_i, str_s, rs_r, Option.isSome_some, Option.getD_some, decide_eq_true_eq, decide_eq_false_iff_not, dS_eS, dC_eC, dU_eU, dW_eW, dY_eY, eC_0, eC_1, eU_0, eU_1, eW_0, eW_1, eW_2, eY_0, eY_1, eS_0, eS_1, eS_2, eS_3, eS_4, eS_5, List.length_map, i_inj, b_inj, s_inj, eC_eq, eU_eq, eW_eq, eY_eq, eS_eq, rng64, List.take_succ_cons, List.take_zero, List.nil_append, List.cons_append, decide_true, decide_false, Bool.or_true, true_and, and_true, D.get, D.rs, hm0, hn0]

def setP (s : So) (a : Int) (c : Ce) : Int × So := if setOk vcP settP s a c then (0, setS s a c) else (1, s)
theorem set_P {s : So} (h : s.tr.length < 5864062014634) (a : Int) (c : Ce) : gSet vcP settP [eS s, .i a, eC c] = some [.i (setP s a c).1, eS (setP s a c).2] := by
  simp only [gSet, dS_eS, dC_eC, int_i, setP]
  cases setOk vcP settP s a c <;> simp [h]
def serP (s : So) (x : Ce) : Int := (cellAt s (x.n + 1)).n
def older (s : So) (x y : Ce) : Prop := serP s y < serP s x ∨ serP s x = serP s y ∧ y.n < x.n
instance (s : So) (x y : Ce) : Decidable (older s x y) := inferInstanceAs (Decidable (_ ∨ _))
def abndP (s : So) (v to : Ce) : Int × So :=
  if (varP s v).2 = false ∨ (varP s v).1.t ≠ 5 ∨ vcP s to = false then (1, s)
  else if derP s to = (varP s v).1 then (0, s)
  else if (derP s to).t = 0 then setP s (derP s to).n (varP s v).1
  else if (derP s to).t ≠ 5 then bndP s (varP s v).1 (derP s to)
  else if inS s (derP s to).n = false ∨ inS s ((derP s to).n + 2) = false then (1, s)
  else if older s (varP s v).1 (derP s to) then bndP s (varP s v).1 (derP s to) else bndP s (derP s to) (varP s v).1
def gABnd : List D → Option (List D)
  | [s, v, to] => if roomS (dS s) then some [.i (abndP (dS s) (dC v) (dC to)).1, eS (abndP (dS s) (dC v) (dC to)).2] else none
  | _ => none
theorem varP_in {s : So} {v : Ce} (h : (varP s v).2 = true) (h5 : (varP s v).1.t = 5) : inS s (varP s v).1.n = true ∧ inS s ((varP s v).1.n + 2) = true := by
  unfold varP at h h5 ⊢
  split at h
  · cases h
  · split at h
    · rename_i q q0
      rw [if_neg q, if_pos q0] at h5
      simp only at h5
      omega
    · split at h
      · rename_i q q0 q5
        rw [if_neg q, if_neg q0, if_pos q5]
        simpa using h
      · cases h
theorem or_cmp {a b n m : Int} : (0 < (if cmpI a b = 0 then cmpI n m else cmpI a b)) ↔ (b < a ∨ a = b ∧ m < n) := by
  unfold cmpI
  by_cases h1 : a < b
  · rw [if_pos h1, if_neg (by omega)]
    omega
  · rw [if_neg h1]
    by_cases h2 : b < a
    · rw [if_pos h2, if_neg (by omega)]
      omega
    · rw [if_neg h2, if_pos rfl]
      split
      · omega
      · split <;> omega
end Go.Proofs.Ytaoamndcdjelnaa


namespace Go.Proofs.Ytaoamndcdjelnaa
open Go.RowKit
set_option linter.unusedVariables false
set_option linter.unusedSimpArgs false

theorem room_iff {s : So} : roomS s = true ↔ s.tr.length < 5864062014634 ∧ s.wk.length < 3518437208780 := by simp [roomS]
theorem ok_attr_Bind : FOk q24 gABnd := fok_attr_Bind ok_attr_variable q1i q2o ok_trail_Set ok_attr_bind ok_attr_in ok_W_cmp ok_W_or fun ds outs hw hg => by
  obtain ⟨d, r, rfl, hd, e, r', rfl, he, f, r2, rfl, hf, rfl⟩ := hw
  obtain ⟨s, rfl, hs⟩ := wfS hd
  obtain ⟨v, rfl, hv⟩ := wfC he
  obtain ⟨to, rfl, hto⟩ := wfC hf
  simp only [gABnd, dS_eS, dC_eC, Option.ite_none_right_eq_some, Option.some.injEq] at hg
  obtain ⟨hr, rfl⟩ := hg
  obtain ⟨hr1, hr2⟩ := room_iff.1 hr
  have hl := hs.cs.1
  have hset := set_P hr1
  simp only [q4c, q00, go_br, q01, q02, allSay, X.says, X.ev, X.evs, evl, tblS, List.getD_cons_zero, List.getD_cons_succ, List.getElem?_cons_zero, List.getElem?_cons_succ, tt_b, int_i, str_s, rs_r, Option.isSome_some, Option.getD_some, decide_eq_true_eq, decide_eq_false_iff_not, dS_eS, dC_eC, dU_eU, dW_eW, dY_eY, eC_0, eC_1, eU_0, eU_1, eW_0, eW_1, eW_2, eY_0, eY_1, eS_0, eS_1, eS_2, eS_3, eS_4, eS_5, List.length_map, i_inj, b_inj, s_inj, eC_eq, eU_eq, eW_eq, eY_eq, eS_eq, rng64, List.take_succ_cons, List.take_zero, List.nil_append, List.cons_append, decide_true, decide_false, Bool.or_true, true_and, and_true, gVar, gSCb, gDerP, gSIb, hset]
  have hvi := @varP_in s v
  unfold abndP
  generalize varP s v = V at hvi ⊢
  generalize derP s to = T
  by_cases h1 : V.2 = false ∨ V.1.t ≠ 5 ∨ vcP s to = false
  · rw [if_pos h1]
    rcases h1 with h1 | h1 | h1
    · simp [h1]
    · cases h2 : V.2 <;> simp [h1, h2]
    · by_cases h5 : V.1.t = 5
      · cases h2 : V.2 <;> simp [h1, h2, h5]
      · cases h2 : V.2 <;> simp [h1, h2, h5]
  rw [if_neg h1]
  have hV2 : V.2 = true := by cases h : V.2 with
    | true => rfl
    | false => exact (h1 (.inl h)).elim
  have hV5 : V.1.t = 5 := Classical.byContradiction fun h => h1 (.inr (.inl h))
  have hvt : vcP s to = true := by cases h : vcP s to with
    | true => rfl
    | false => exact (h1 (.inr (.inr h))).elim
  obtain ⟨hi, hi2⟩ := hvi hV2 hV5
  have hn1 := inS_iff.1 hi
  have hn2 := inS_iff.1 hi2
  have hi1 : inS s (V.1.n + 1) = true := inS_iff.2 ⟨by omega, by omega⟩
  have hbV : ∀ c, gBnd [eS s, eC V.1, eC c] = some [.i (bndP s V.1 c).1, eS (bndP s V.1 c).2] := fun c => by
    simp only [gBnd, dS_eS, dC_eC, bndQ, hr, hi, hi2]
    rfl
  by_cases h2 : T = V.1
  · simp [h2, hV2, hV5, hvt]
  rw [if_neg h2]
  by_cases h3 : T.t = 0
  · simp [h2, h3, hV2, hV5, hvt]
  rw [if_neg h3]
  by_cases h4 : T.t = 5
  case neg => simp [h2, h3, h4, hV2, hV5, hvt, hbV]
  rw [if_neg (fun h => h h4)]
  cases hti : inS s T.n with
  | false => simp [h2, h3, h4, hV2, hV5, hvt, hti]
  | true =>
    have ht1 := inS_iff.1 hti
    cases hti2 : inS s (T.n + 2) with
    | false =>
      simp [h2, h3, h4, hV2, hV5, hvt, hti, hti2]
      simp only [rng64]
      omega
    | true =>
      have ht2 := inS_iff.1 hti2
      have hti1 : inS s (T.n + 1) = true := inS_iff.2 ⟨by omega, by omega⟩
      have hbT : ∀ c, gBnd [eS s, eC T, eC c] = some [.i (bndP s T c).1, eS (bndP s T c).2] := fun c => by
        simp only [gBnd, dS_eS, dC_eC, bndQ, hr, hti, hti2]
        rfl
      have hor : gOrW [.r [.i (cmpI (cellAt s (V.1.n + 1)).n (cellAt s (T.n + 1)).n), .i (cmpI V.1.n T.n)]] = some [.i (if cmpI (cellAt s (V.1.n + 1)).n (cellAt s (T.n + 1)).n = 0 then cmpI V.1.n T.n else cmpI (cellAt s (V.1.n + 1)).n (cellAt s (T.n + 1)).n)] := rfl
      have hold := @or_cmp (cellAt s (V.1.n + 1)).n (cellAt s (T.n + 1)).n V.1.n T.n
      have hold' : older s V.1 T ↔ ((cellAt s (T.n + 1)).n < (cellAt s (V.1.n + 1)).n ∨ (cellAt s (V.1.n + 1)).n = (cellAt s (T.n + 1)).n ∧ T.n < V.1.n) := Iff.rfl
      rw [← hold] at hold'
      have h2' : decide (T = V.1) = false := decide_eq_false h2
      simp only [q00, go_br, q01, q02, allSay, X.says, X.ev, X.evs, evl, tblS, List.getD_cons_zero, List.getD_cons_succ, List.getElem?_cons_zero, List.getElem?_cons_succ, tt_b, int_i, str_s, rs_r, Option.isSome_some, Option.getD_some, decide_eq_true_eq, decide_eq_false_iff_not, dS_eS, dC_eC, dU_eU, dW_eW, dY_eY, eC_0, eC_1, eU_0, eU_1, eW_0, eW_1, eW_2, eY_0, eY_1, eS_0, eS_1, eS_2, eS_3, eS_4, eS_5, List.length_map, i_inj, b_inj, s_inj, eC_eq, eU_eq, eW_eq, eY_eq, eS_eq, rng64, List.take_succ_cons, List.take_zero, List.nil_append, List.cons_append, decide_true, decide_false, Bool.or_true, true_and, and_true, h2', h3, h4, hV2, hV5, hvt, hti, hti2, cell_get hi1, cell_get hti1, gCmpW, hor, hbV, hbT, Bool.not_true, Bool.not_false, Bool.or_false, Bool.false_eq_true, false_implies, true_implies, implies_true, true_and, and_true, reduceCtorEq, not_true_eq_false, Int.reduceEq, or_self, if_false]
      have hg1 : rngB IntKind.i64 (T.n + 2) = true := by simp only [rng64]; omega
      refine ⟨fun e => (h2 e).elim, fun _ _ => ⟨by simp [hg1], ⟨by omega, by omega, ⟨by omega, by omega⟩, by omega, by omega, by omega, by omega⟩, fun h => ?_, fun h => ?_⟩⟩
      · rw [if_pos (hold'.2 h)]
      · rw [if_neg (fun q => h (hold'.1 q))]
def okI (r : Int × So) : Bool × So := (decide (r.1 = 0), r.2)
def bindP (s : So) (x y : Ce) : Bool × So :=
  if y.t = 0 ∧ (x.t ≠ 0 ∨ x.n < y.n) then okI (setP s y.n x)
  else if x.t = 0 then okI (setP s x.n y)
  else if x.t = 5 then okI (abndP s x y)
  else if y.t = 5 then okI (abndP s y x)
  else (false, s)
def gBindU : List D → Option (List D)
  | [s, x, y] => if roomS (dS s) then some [.b (bindP (dS s) (dC x) (dC y)).1, eS (bindP (dS s) (dC x) (dC y)).2] else none
  | _ => none
theorem ok_unify_bind : FOk q1u gBindU := fok_unify_bind ok_trail_Set ok_attr_Bind fun ds outs hw hg => by
  obtain ⟨d, r, rfl, hd, e, r', rfl, he, f, r2, rfl, hf, rfl⟩ := hw
  obtain ⟨s, rfl, hs⟩ := wfS hd
  obtain ⟨x, rfl, hx⟩ := wfC he
  obtain ⟨y, rfl, hy⟩ := wfC hf
  simp only [gBindU, dS_eS, dC_eC, Option.ite_none_right_eq_some, Option.some.injEq] at hg
  obtain ⟨hr, rfl⟩ := hg
  obtain ⟨hr1, hr2⟩ := room_iff.1 hr
  have hset := set_P hr1
  have hab : ∀ x y, gABnd [eS s, eC x, eC y] = some [.i (abndP s x y).1, eS (abndP s x y).2] := fun x y => by
    simp only [gABnd, dS_eS, dC_eC, hr]
    rfl
  simp only [q3l, q00, go_br, q01, q02, allSay, X.says, X.ev, X.evs, evl, tblS, List.getD_cons_zero, List.getD_cons_succ, List.getElem?_cons_zero, List.getElem?_cons_succ, tt_b, int_i, str_s, rs_r, Option.isSome_some, Option.getD_some, decide_eq_true_eq, decide_eq_false_iff_not, dS_eS, dC_eC, dU_eU, dW_eW, dY_eY, eC_0, eC_1, eU_0, eU_1, eW_0, eW_1, eW_2, eY_0, eY_1, eS_0, eS_1, eS_2, eS_3, eS_4, eS_5, List.length_map, i_inj, b_inj, s_inj, eC_eq, eU_eq, eW_eq, eY_eq, eS_eq, rng64, List.take_succ_cons, List.take_zero, List.nil_append, List.cons_append, decide_true, decide_false, Bool.or_true, true_and, and_true, hset, hab, bindP, okI]
  by_cases h1 : y.t = 0 ∧ (x.t ≠ 0 ∨ x.n < y.n)
  · rw [if_pos h1]
    rcases h1.2 with h2 | h2
    · simp [h1.1, h2]
    · simp [h1.1, h2]
  rw [if_neg h1]
  have hc : (decide (y.t = 0) && (!decide (x.t = 0) || decide (x.n < y.n))) = false := by
    rw [Bool.eq_false_iff]
    intro q
    simp at q
    exact h1 ⟨q.1, q.2⟩
  simp only [hc]
  by_cases h2 : x.t = 0
  · simp [h2]
  by_cases h3 : x.t = 5
  · simp [h2, h3]
  by_cases h4 : y.t = 5
  · simp [h2, h3, h4]
  · simp [h2, h3, h4]
def gBindC : List D → Option (List D)
  | [x, y, s] => gBindU [s, x, y]
  | _ => none
theorem ok_unify_Unify_2 : FOk q0j gBindC := fok_unify_Unify_2 ok_unify_bind fun ds outs hw hg => by
  obtain ⟨d, r, rfl, hd, e, r', rfl, he, f, r2, rfl, hf, rfl⟩ := hw
  obtain ⟨x, rfl, hx⟩ := wfC hd
  obtain ⟨y, rfl, hy⟩ := wfC he
  obtain ⟨s, rfl, hs⟩ := wfS hf
  simp only [gBindC, gBindU, dS_eS, dC_eC, Option.ite_none_right_eq_some, Option.some.injEq] at hg
  obtain ⟨hr, rfl⟩ := hg
  simp [q2q, q00, go_br, q01, q02, allSay, X.says, X.ev, X.evs, evl, tblS, List.getD_cons_zero, List.getD_cons_succ, List.getElem?_cons_zero, List.getElem?_cons_succ, tt_b, int_i, str_s, rs_r, Option.isSome_some, Option.getD_some, decide_eq_true_eq, decide_eq_false_iff_not, dS_eS, dC_eC, dU_eU, dW_eW, dY_eY, eC_0, eC_1, eU_0, eU_1, eW_0, eW_1, eW_2, eY_0, eY_1, eS_0, eS_1, eS_2, eS_3, eS_4, eS_5, List.length_map, i_inj, b_inj, s_inj, eC_eq, eU_eq, eW_eq, eY_eq, eS_eq, rng64, List.take_succ_cons, List.take_zero, List.nil_append, List.cons_append, decide_true, decide_false, Bool.or_true, true_and, and_true, gBindU, hr]
def gNo : List D → Option (List D)
  | [x, y] => some [.b false]
  | _ => none
theorem ok_unify_Same_1 : FOk q0s gNo := fok_unify_Same_1 fun ds outs hw hg => by
  obtain ⟨d, r, rfl, hd, e, r', rfl, he, rfl⟩ := hw
  simp only [gNo, Option.some.injEq] at hg
  subst hg
  simp [q2w, q00, go_br, q01, q02, allSay, X.says, X.ev, X.evs, evl, tblS, List.getD_cons_zero, List.getD_cons_succ, List.getElem?_cons_zero, List.getElem?_cons_succ, tt_b, int_i, str_s, rs_r, Option.isSome_some, Option.getD_some, decide_eq_true_eq, decide_eq_false_iff_not, dS_eS, dC_eC, dU_eU, dW_eW, dY_eY, eC_0, eC_1, eU_0, eU_1, eW_0, eW_1, eW_2, eY_0, eY_1, eS_0, eS_1, eS_2, eS_3, eS_4, eS_5, List.length_map, i_inj, b_inj, s_inj, eC_eq, eU_eq, eW_eq, eY_eq, eS_eq, rng64, List.take_succ_cons, List.take_zero, List.nil_append, List.cons_append, decide_true, decide_false, Bool.or_true, true_and, and_true]

structure Back (k : Nat) (s s' : So) : Prop where
  h : ∃ new wn, s'.tr = s.tr ++ new ∧ s'.wk = s.wk ++ wn ∧ undoC s'.cs new = s.cs ∧ new.length ≤ k ∧ wn.length ≤ k
  cs : s'.cs.length = s.cs.length
  ys : s'.ys = s.ys
  ser : s'.ser = s.ser
  mx : s'.mx = s.mx
theorem Back.refl (s : So) : Back 0 s s := ⟨⟨[], [], by simp, by simp, rfl, by simp, by simp⟩, rfl, rfl, rfl, rfl⟩
theorem Back.mono {k m : Nat} {s s' : So} (h : Back k s s') (hk : k ≤ m) : Back m s s' := by
  obtain ⟨⟨n, w, h1, h2, h3, h4, h5⟩, h6, h7, h8, h9⟩ := h
  exact ⟨⟨n, w, h1, h2, h3, by omega, by omega⟩, h6, h7, h8, h9⟩
theorem Back.trans {k m : Nat} {s s' s2 : So} (h : Back k s s') (g : Back m s' s2) : Back (k + m) s s2 := by
  obtain ⟨⟨n, w, h1, h2, h3, h4, h5⟩, h6, h7, h8, h9⟩ := h
  obtain ⟨⟨n', w', g1, g2, g3, g4, g5⟩, g6, g7, g8, g9⟩ := g
  refine ⟨⟨n ++ n', w ++ w', by rw [g1, h1, List.append_assoc], by rw [g2, h2, List.append_assoc], ?_, by simp; omega, by simp; omega⟩, g6.trans h6, g7.trans h7, g8.trans h8, g9.trans h9⟩
  unfold undoC at g3 h3 ⊢
  rw [List.foldr_append, g3, h3]
theorem Back.tr_len {k : Nat} {s s' : So} (h : Back k s s') : s'.tr.length ≤ s.tr.length + k ∧ s'.wk.length ≤ s.wk.length + k ∧ s.tr.length ≤ s'.tr.length ∧ s.wk.length ≤ s'.wk.length := by
  obtain ⟨⟨n, w, h1, h2, h3, h4, h5⟩, -⟩ := h
  rw [h1, h2, List.length_append, List.length_append]
  omega
theorem set_back {s : So} {a : Int} {c : Ce} (hi : inS s a = true) : Back 1 s (setS s a c) := by
  have h := inS_iff.1 hi
  refine ⟨⟨[⟨a, cellAt s a⟩], [], rfl, by simp [setS], ?_, by simp, by simp⟩, by simp [setS], rfl, rfl, rfl⟩
  show putU ⟨a, cellAt s a⟩ (s.cs.set a.toNat (keptC c)) = s.cs
  rw [putU, if_pos ⟨h.1, by rw [List.length_set]; exact h.2⟩]
  show (s.cs.set a.toNat (keptC c)).set a.toNat (cellAt s a) = s.cs
  rw [List.set_set]
  refine List.ext_getElem (by simp) fun i h1 h2 => ?_
  rw [List.getElem_set]
  split
  · rename_i e
    subst e
    simp [cellAt, List.getD_eq_getElem?_getD, List.getElem?_eq_getElem h2]
  · rfl
theorem setOk_in {vc : So → Ce → Bool} {st : So → Int → Bool} {s : So} {a : Int} {c : Ce} (h : setOk vc st s a c = true) : inS s a = true := by
  simp only [setOk, Bool.and_eq_true] at h
  exact h.1
theorem setP_back (s : So) (a : Int) (c : Ce) : Back 1 s (setP s a c).2 := by
  unfold setP
  split
  · rename_i h
    exact set_back (setOk_in h)
  · exact (Back.refl s).mono (by omega)
theorem bndP_back (s : So) (x c : Ce) : Back 1 s (bndP s x c).2 := by
  unfold bndP
  split
  · rename_i h
    obtain ⟨⟨n, w, h1, h2, h3, h4, h5⟩, h6, h7, h8, h9⟩ := set_back (c := c) (setOk_in h)
    exact ⟨⟨n, [wkO s x c], h1, rfl, h3, h4, by simp⟩, h6, h7, h8, h9⟩
  · exact (Back.refl s).mono (by omega)
theorem abndP_back (s : So) (x c : Ce) : Back 1 s (abndP s x c).2 := by
  have h0 := (Back.refl s).mono (m := 1) (by omega)
  unfold abndP
  split
  · exact h0
  split
  · exact h0
  split
  · exact setP_back _ _ _
  split
  · exact bndP_back _ _ _
  split
  · exact h0
  split
  · exact bndP_back _ _ _
  · exact bndP_back _ _ _
theorem bindP_back (s : So) (x y : Ce) : Back 1 s (bindP s x y).2 := by
  unfold bindP okI
  split
  · exact setP_back _ _ _
  split
  · exact setP_back _ _ _
  split
  · exact abndP_back _ _ _
  split
  · exact abndP_back _ _ _
  · exact (Back.refl s).mono (by omega)

structure Uo where
  der : So → Ce → Ce
  meet : So → Ce → Ce → Bool × So
  sym : So → Ce → Int
  args : So → Ce → Ce → List (Ce × Ce)
def runU (O : Uo) : Nat → So → List (Ce × Ce) → Int × So
  | 0, s, [] => (0, s)
  | 0, s, _ :: _ => (2, s)
  | _ + 1, s, [] => (0, s)
  | k + 1, s, p :: st =>
    if O.der s p.1 = O.der s p.2 then runU O k s st
    else if (O.meet s (O.der s p.1) (O.der s p.2)).1 then runU O k (O.meet s (O.der s p.1) (O.der s p.2)).2 st
    else if O.sym (O.meet s (O.der s p.1) (O.der s p.2)).2 (O.der s p.1) < 0 ∨ O.sym (O.meet s (O.der s p.1) (O.der s p.2)).2 (O.der s p.1) ≠ O.sym (O.meet s (O.der s p.1) (O.der s p.2)).2 (O.der s p.2) then (4, (O.meet s (O.der s p.1) (O.der s p.2)).2)
    else runU O k (O.meet s (O.der s p.1) (O.der s p.2)).2 (O.args (O.meet s (O.der s p.1) (O.der s p.2)).2 (O.der s p.1) (O.der s p.2) ++ st)
theorem run_nil {O : Uo} : ∀ {k : Nat} {s : So}, runU O k s [] = (0, s)
  | 0, s => rfl
  | k + 1, s => rfl
theorem run_zero {O : Uo} {s : So} {p : Ce × Ce} {st : List (Ce × Ce)} : runU O 0 s (p :: st) = (2, s) := rfl
theorem run_back {O : Uo} (h : ∀ s x y, Back 1 s (O.meet s x y).2) : ∀ (k : Nat) (s : So) (st : List (Ce × Ce)), Back k s (runU O k s st).2
  | 0, s, [] => Back.refl s
  | 0, s, p :: st => Back.refl s
  | k + 1, s, [] => (Back.refl s).mono (by omega)
  | k + 1, s, p :: st => by
    rw [runU]
    have hm := h s (O.der s p.1) (O.der s p.2)
    split
    · exact (run_back h k s st).mono (by omega)
    split
    · exact (hm.trans (run_back h k _ st)).mono (by omega)
    split
    · exact hm.mono (by omega)
    · exact (hm.trans (run_back h k _ _)).mono (by omega)
def noMeet (s : So) (_ _ : Ce) : Bool × So := (false, s)
def progO (m : So → Ce → Ce → Bool × So) : Uo := ⟨derP, m, symP, fun s x y => (argP s x).zip (argP s y)⟩
def smallS (s : So) : Bool := decide (s.cs.length ≤ 1048576) && (decide (s.tr.length ≤ 1048576) && decide (s.wk.length ≤ 1048576))
theorem small_iff {s : So} : smallS s = true ↔ s.cs.length ≤ 1048576 ∧ s.tr.length ≤ 1048576 ∧ s.wk.length ≤ 1048576 := by simp [smallS]
def eP (p : Ce × Ce) : D := .a [eC p.1, eC p.2]
theorem eP_0 (p : Ce × Ce) : (eP p).fld 0 = eC p.1 := rfl
theorem eP_1 (p : Ce × Ce) : (eP p).fld 1 = eC p.2 := rfl
theorem last_get (M : List D) (x : D) : (D.r (M ++ [x])).get (((M ++ [x]).length : Nat) - 1 : Int) = x := by
  have e : ((((M ++ [x]).length : Nat) : Int) - 1) = (M.length : Nat) := by simp
  rw [e]
  simp [D.get, D.rs]
theorem last_cut (M : List D) (x : D) : List.take ((((M ++ [x]).length : Nat) : Int) - 1).toNat (M ++ [x]) = M := by
  have e : ((((M ++ [x]).length : Nat) : Int) - 1).toNat = M.length := by simp
  rw [e, List.take_left]
end Go.Proofs.Ytaoamndcdjelnaa


namespace Go.Proofs.Ytaoamndcdjelnaa
open Go.RowKit
set_option linter.unusedVariables false
set_option linter.unusedSimpArgs false
set_option maxRecDepth 100000

theorem rev_cons (p : Ce × Ce) (l : List (Ce × Ce)) : (p :: l).reverse.map eP = l.reverse.map eP ++ [eP p] := by simp
theorem rev_app (Z l : List (Ce × Ce)) : (Z ++ l).reverse.map eP = l.reverse.map eP ++ Z.reverse.map eP := by simp
theorem drop_rev {Z : List (Ce × Ce)} {j : Nat} (h : j < Z.length) : (Z.drop j).reverse.map eP = (Z.drop (j + 1)).reverse.map eP ++ [eP Z[j]] := by
  rw [List.drop_eq_getElem_cons h, List.reverse_cons, List.map_append]
  rfl
theorem zip_get {A B : List Ce} {j : Nat} (h : j < (A.zip B).length) : (A.zip B)[j] = (A.getD j default, B.getD j default) := by
  have h' := h
  rw [List.length_zip] at h'
  rw [List.getElem_zip, List.getD_eq_getElem?_getD, List.getD_eq_getElem?_getD, List.getElem?_eq_getElem (by omega), List.getElem?_eq_getElem (by omega)]
  rfl
theorem eP_mk (a b : Ce) : D.a [eC a, eC b] = eP (a, b) := rfl
theorem push_ok {S : Nat → List D → Option (List D)} {R : List D → Prop} {id n : Nat} {x0 x1 : X} {body : Tree} {l : List D} {B : Nat → List D → Prop} (M : List D) (A C : List Ce) (h0 : x0.ev (evl S l) = .r M) (h1 : x1.ev (evl S l) = .i ((min A.length C.length : Nat) - 1 : Int))
    (hend : ∀ B' : Nat → List D → Prop, (∀ j, j ≠ id → B' j = B j) → body.go S R (l.take n ++ [.r (M ++ (A.zip C).reverse.map eP), .i (-1)]) B')
    (hstep : ∀ (N : List D) (j : Nat) (B' : Nat → List D → Prop), N.length ≤ M.length + (A.zip C).length → j < A.length → j < C.length → (∀ i, i ≠ id → B' i = B i) → B' id [.r (N ++ [eP (A.getD j default, C.getD j default)]), .i ((j : Int) - 1)] → body.go S R (l.take n ++ [.r N, .i j]) B') : (Tree.loop id n [x0, x1] body).go S R l B := by
  rw [go_loop]
  refine ⟨fun st => ∃ i : Nat, i ≤ (A.zip C).length ∧ st = [.r (M ++ ((A.zip C).drop i).reverse.map eP), .i ((i : Int) - 1)], fun st => ((st.getD 1 .u).int + 1).toNat, ⟨(A.zip C).length, Nat.le_refl _, by simp [X.evs, h0, h1]⟩, ?_⟩
  rintro st - ⟨i, hi, rfl⟩
  cases i with
  | zero =>
    rw [List.drop_zero]
    exact hend _ fun j hj => by rw [updB, if_neg hj]
  | succ j =>
    have e : ((j + 1 : Nat) : Int) - 1 = j := by omega
    rw [e]
    have hz := hi
    rw [List.length_zip] at hz
    refine hstep _ j _ ?_ (by omega) (by omega) (fun i hi => by rw [updB, if_neg hi]) ?_
    · rw [List.length_append, List.length_map, List.length_reverse, List.length_drop]
      omega
    · rw [updB, if_pos rfl]
      refine ⟨⟨j, by omega, ?_⟩, ?_⟩
      · rw [drop_rev (j := j) (by omega), zip_get (by omega), List.append_assoc]
      · simp [D.int]

theorem min_n (a c : Nat) : ((if decide ((c : Int) < a) = true then D.i c else D.i a).int) = ((min a c : Nat) : Int) := by
  by_cases h : (c : Int) < a
  · rw [if_pos (by simpa using h), int_i]
    omega
  · rw [if_neg (by simpa using h), int_i]
    omega
def gProcU : List D → Option (List D)
  | [s, a, b] => if smallS (dS s) then some [.i (runU (progO bindP) 1048576 (dS s) [(dC a, dC b)]).1, eS (runU (progO bindP) 1048576 (dS s) [(dC a, dC b)]).2] else none
  | _ => none
theorem ok_unify_process_u : FOk q0n gProcU := fok_unify_process_u ok_unify_Unify_2 q2o q3f q4l fun ds outs hw hg => by
  obtain ⟨d, r, rfl, hd, e, r', rfl, he, f, r2, rfl, hf, rfl⟩ := hw
  obtain ⟨s, rfl, hs⟩ := wfS hd
  obtain ⟨a, rfl, ha⟩ := wfC he
  obtain ⟨b, rfl, hb⟩ := wfC hf
  simp only [gProcU, dS_eS, dC_eC, Option.ite_none_right_eq_some, Option.some.injEq] at hg
  obtain ⟨hsm, rfl⟩ := hg
  obtain ⟨hs1, hs2, hs3⟩ := small_iff.1 hsm
  simp only [q2d]
  rw [go_loop]
  refine ⟨fun st => ∃ (k : Nat) (s' : So) (l : List (Ce × Ce)), k ≤ 1048576 ∧ st = [.i 0, .r (l.reverse.map eP), .i k, eS s'] ∧ l.length ≤ 1 + k * 1048576 ∧ Back k s s' ∧ runU (progO bindP) (1048576 - k) s' l = runU (progO bindP) 1048576 s [(a, b)], fun st => 1048576 - (st.getD 2 .u).int.toNat, ⟨0, s, [(a, b)], by omega, rfl, by simp, Back.refl s, by simp⟩, ?_⟩
  rintro st - ⟨k, s', l, hk, rfl, hlen, hbk, hrun⟩
  have hcs := hbk.cs
  obtain ⟨hl1, hl2, -, -⟩ := hbk.tr_len
  have hroom : roomS s' = true := room_iff.2 ⟨by omega, by omega⟩
  cases l with
  | nil =>
    rw [run_nil] at hrun
    simp [q00, go_br, q01, q02, allSay, X.says, X.ev, X.evs, evl, tblS, List.getD_cons_zero, List.getD_cons_succ, List.getElem?_cons_zero, List.getElem?_cons_succ, tt_b, int_i, str_s, rs_r, Option.isSome_some, Option.getD_some, decide_eq_true_eq, decide_eq_false_iff_not, dS_eS, dC_eC, dU_eU, dW_eW, dY_eY, eC_0, eC_1, eU_0, eU_1, eW_0, eW_1, eW_2, eY_0, eY_1, eS_0, eS_1, eS_2, eS_3, eS_4, eS_5, List.length_map, i_inj, b_inj, s_inj, eC_eq, eU_eq, eW_eq, eY_eq, eS_eq, rng64, List.take_succ_cons, List.take_zero, List.nil_append, List.cons_append, decide_true, decide_false, Bool.or_true, true_and, and_true, ← hrun]
  | cons p l =>
    rw [rev_cons]
    have hML : (l.reverse.map eP).length = l.length := by simp
    generalize hM : l.reverse.map eP = M at hML ⊢
    by_cases hkm : k = 1048576
    · subst hkm
      rw [Nat.sub_self, run_zero] at hrun
      simp [q00, go_br, q01, q02, allSay, X.says, X.ev, X.evs, evl, tblS, List.getD_cons_zero, List.getD_cons_succ, List.getElem?_cons_zero, List.getElem?_cons_succ, tt_b, int_i, str_s, rs_r, Option.isSome_some, Option.getD_some, decide_eq_true_eq, decide_eq_false_iff_not, dS_eS, dC_eC, dU_eU, dW_eW, dY_eY, eC_0, eC_1, eU_0, eU_1, eW_0, eW_1, eW_2, eY_0, eY_1, eS_0, eS_1, eS_2, eS_3, eS_4, eS_5, List.length_map, i_inj, b_inj, s_inj, eC_eq, eU_eq, eW_eq, eY_eq, eS_eq, rng64, List.take_succ_cons, List.take_zero, List.nil_append, List.cons_append, decide_true, decide_false, Bool.or_true, true_and, and_true, ← hrun]
    obtain ⟨n, hn⟩ : ∃ n, 1048576 - k = n + 1 := ⟨1048576 - k - 1, by omega⟩
    have hn2 : 1048576 - (k + 1) = n := by omega
    rw [hn, runU] at hrun
    have hlM : (M ++ [eP p]).length = l.length + 1 := by simp [hML]
    have hlen' : l.length + 1 ≤ 1 + k * 1048576 := by simpa using hlen
    have hpos : (0 : Int) < ((M ++ [eP p]).length : Nat) := by omega
    have hkd : ¬ ((k : Int) = 1048576) := by omega
    have hki : ¬ ((D.i (k : Int)) = D.i 1048576) := fun e => by injection e with e; omega
    have hgb : ∀ x y, gBindC [eC x, eC y, eS s'] = some [.b (bindP s' x y).1, eS (bindP s' x y).2] := fun x y => by
      simp only [gBindC, gBindU, dS_eS, dC_eC, hroom]
      rfl
    have hrg : rngB .i64 ((((M ++ [eP p]).length : Nat) : Int) - 1) = true := by rw [hlM]; simp only [rng64]; omega
    have hrk : rngB .i64 ((k : Int) + 1) = true := by simp only [rng64]; omega
    have hb1 : (0 : Int) ≤ (((M ++ [eP p]).length : Nat) : Int) - 1 := by omega
    have hb2 : (((M ++ [eP p]).length : Nat) : Int) - 1 < ((M ++ [eP p]).length : Nat) := by omega
    have hb3 : (((M ++ [eP p]).length : Nat) : Int) - 1 ≤ ((M ++ [eP p]).length : Nat) := by omega
    simp only [q00, go_br, q01, q02, allSay, X.says, X.ev, X.evs, evl, tblS, List.getD_cons_zero, List.getD_cons_succ, List.getElem?_cons_zero, List.getElem?_cons_succ, tt_b, int_i, rs_r, Option.isSome_some, Option.getD_some, List.take_succ_cons, List.take_zero, List.nil_append, List.cons_append, List.drop_zero, last_get, last_cut, eP_0, eP_1, dS_eS, dC_eC, decide_true, Int.toNat_zero, eC_eq, i_inj, decide_false, true_and, and_true, Bool.false_eq_true, false_implies, true_implies, implies_true, reduceCtorEq, Bool.true_eq_false, Bool.not_true, Bool.not_false, Bool.true_or, Bool.or_true, Bool.false_or, Bool.or_false, if_true, if_false, gDerP, gSymP, gArgP, hgb, hpos, hrg, hrk, hb1, hb2, hb3, hkd]
    have hO1 : (progO bindP).der = derP := rfl
    have hO2 : (progO bindP).meet = bindP := rfl
    have hO3 : (progO bindP).sym = symP := rfl
    have hO4 : (progO bindP).args = fun s x y => (argP s x).zip (argP s y) := rfl
    rw [hO1, hO2, hO3, hO4] at hrun
    have hmb := bindP_back s' (derP s' p.1) (derP s' p.2)
    generalize hx : derP s' p.1 = x at hrun hmb ⊢
    generalize hy : derP s' p.2 = y at hrun hmb ⊢
    by_cases hxy : x = y
    · rw [if_pos hxy] at hrun
      subst hxy
      simp only [q00, go_br, q01, q02, allSay, X.says, X.ev, X.evs, evl, tblS, List.getD_cons_zero, List.getD_cons_succ, List.getElem?_cons_zero, List.getElem?_cons_succ, tt_b, int_i, rs_r, Option.isSome_some, Option.getD_some, List.take_succ_cons, List.take_zero, List.nil_append, List.cons_append, List.drop_zero, last_get, last_cut, eP_0, eP_1, dS_eS, dC_eC, decide_true, Int.toNat_zero, eC_eq, i_inj, decide_false, true_and, and_true, Bool.false_eq_true, false_implies, true_implies, implies_true, reduceCtorEq, Bool.true_eq_false, Bool.not_true, Bool.not_false, Bool.true_or, Bool.or_true, Bool.false_or, Bool.or_false, if_true, if_false]
      rw [updB, if_pos rfl]
      refine ⟨⟨k + 1, s', l, by omega, by simp [hM], by omega, hbk.mono (by omega), by rw [hn2]; exact hrun⟩, ?_⟩
      simp [D.int]
      omega
    rw [if_neg hxy] at hrun
    have hxd : decide (x = y) = false := decide_eq_false hxy
    generalize hm' : bindP s' x y = m at hrun hmb ⊢
    have hbm := hbk.trans hmb
    simp only [q00, go_br, q01, q02, allSay, X.says, X.ev, X.evs, evl, tblS, List.getD_cons_zero, List.getD_cons_succ, List.getElem?_cons_zero, List.getElem?_cons_succ, tt_b, int_i, rs_r, Option.isSome_some, Option.getD_some, List.take_succ_cons, List.take_zero, List.nil_append, List.cons_append, List.drop_zero, last_get, last_cut, eP_0, eP_1, dS_eS, dC_eC, decide_true, Int.toNat_zero, eC_eq, i_inj, decide_false, true_and, and_true, Bool.false_eq_true, false_implies, true_implies, implies_true, reduceCtorEq, Bool.true_eq_false, Bool.not_true, Bool.not_false, Bool.true_or, Bool.or_true, Bool.false_or, Bool.or_false, if_true, if_false, hxd]
    cases hm : m.1 with
    | true =>
      rw [hm, if_pos rfl] at hrun
      simp only [q00, go_br, q01, q02, allSay, X.says, X.ev, X.evs, evl, tblS, List.getD_cons_zero, List.getD_cons_succ, List.getElem?_cons_zero, List.getElem?_cons_succ, tt_b, int_i, rs_r, Option.isSome_some, Option.getD_some, List.take_succ_cons, List.take_zero, List.nil_append, List.cons_append, List.drop_zero, last_get, last_cut, eP_0, eP_1, dS_eS, dC_eC, decide_true, Int.toNat_zero, eC_eq, i_inj, decide_false, true_and, and_true, Bool.false_eq_true, false_implies, true_implies, implies_true, reduceCtorEq, Bool.true_eq_false, Bool.not_true, Bool.not_false, Bool.true_or, Bool.or_true, Bool.false_or, Bool.or_false, if_true, if_false]
      rw [updB, if_pos rfl]
      refine ⟨⟨k + 1, m.2, l, by omega, by simp [hM], by omega, hbm, by rw [hn2]; exact hrun⟩, ?_⟩
      simp [D.int]
      omega
    | false =>
      rw [hm, if_neg (by decide)] at hrun
      simp only [q00, go_br, q01, q02, allSay, X.says, X.ev, X.evs, evl, tblS, List.getD_cons_zero, List.getD_cons_succ, List.getElem?_cons_zero, List.getElem?_cons_succ, tt_b, int_i, rs_r, Option.isSome_some, Option.getD_some, List.take_succ_cons, List.take_zero, List.nil_append, List.cons_append, List.drop_zero, last_get, last_cut, eP_0, eP_1, dS_eS, dC_eC, decide_true, Int.toNat_zero, eC_eq, i_inj, decide_false, true_and, and_true, Bool.false_eq_true, false_implies, true_implies, implies_true, reduceCtorEq, Bool.true_eq_false, Bool.not_true, Bool.not_false, Bool.true_or, Bool.or_true, Bool.false_or, Bool.or_false, if_true, if_false]
      by_cases hsy : symP m.2 x < 0 ∨ symP m.2 x ≠ symP m.2 y
      · rw [if_pos hsy] at hrun
        have hsd : (decide (symP m.2 x < 0) || !decide (symP m.2 x = symP m.2 y)) = true := by
          rcases hsy with h | h <;> simp [h]
        simp only [q00, go_br, q01, q02, allSay, X.says, X.ev, X.evs, evl, tblS, List.getD_cons_zero, List.getD_cons_succ, List.getElem?_cons_zero, List.getElem?_cons_succ, tt_b, int_i, rs_r, Option.isSome_some, Option.getD_some, List.take_succ_cons, List.take_zero, List.nil_append, List.cons_append, List.drop_zero, last_get, last_cut, eP_0, eP_1, dS_eS, dC_eC, decide_true, Int.toNat_zero, eC_eq, i_inj, decide_false, true_and, and_true, Bool.false_eq_true, false_implies, true_implies, implies_true, reduceCtorEq, Bool.true_eq_false, Bool.not_true, Bool.not_false, Bool.true_or, Bool.or_true, Bool.false_or, Bool.or_false, if_true, if_false, hsd]
        simp [← hrun]
      · rw [if_neg hsy] at hrun
        have hsd : (decide (symP m.2 x < 0) || !decide (symP m.2 x = symP m.2 y)) = false := by
          have h1 : ¬ symP m.2 x < 0 := fun h => hsy (.inl h)
          have h2 : symP m.2 x = symP m.2 y := Classical.byContradiction fun h => hsy (.inr h)
          simp [h2]
          rw [← h2]
          omega
        have hA := argP_len m.2 x
        have hC := argP_len m.2 y
        have hmc := hmb.cs
        simp only [q00, go_br, q01, q02, allSay, X.says, X.ev, X.evs, evl, tblS, List.getD_cons_zero, List.getD_cons_succ, List.getElem?_cons_zero, List.getElem?_cons_succ, tt_b, int_i, rs_r, Option.isSome_some, Option.getD_some, List.take_succ_cons, List.take_zero, List.nil_append, List.cons_append, List.drop_zero, last_get, last_cut, eP_0, eP_1, dS_eS, dC_eC, decide_true, Int.toNat_zero, eC_eq, i_inj, decide_false, true_and, and_true, Bool.false_eq_true, false_implies, true_implies, implies_true, reduceCtorEq, Bool.true_eq_false, Bool.not_true, Bool.not_false, Bool.true_or, Bool.or_true, Bool.false_or, Bool.or_false, if_true, if_false, hsd]
        refine ⟨?_, push_ok M (argP m.2 x) (argP m.2 y) ?_ ?_ (fun B' hB' => ?_) fun N j B' hN hjA hjC hB' hback => ?_⟩
        · rw [min_n]
          simp only [rng64, List.length_map]
          omega
        · simp only [q00, go_br, q01, q02, allSay, X.says, X.ev, X.evs, evl, tblS, List.getD_cons_zero, List.getD_cons_succ, List.getElem?_cons_zero, List.getElem?_cons_succ, tt_b, int_i, rs_r, Option.isSome_some, Option.getD_some, List.take_succ_cons, List.take_zero, List.nil_append, List.cons_append, List.drop_zero, last_get, last_cut, eP_0, eP_1, dS_eS, dC_eC, decide_true, Int.toNat_zero, eC_eq, i_inj, decide_false, true_and, and_true, Bool.false_eq_true, false_implies, true_implies, implies_true, reduceCtorEq, Bool.true_eq_false, Bool.not_true, Bool.not_false, Bool.true_or, Bool.or_true, Bool.false_or, Bool.or_false, if_true, if_false]
        · simp only [q00, go_br, q01, q02, allSay, X.says, X.ev, X.evs, evl, tblS, List.getD_cons_zero, List.getD_cons_succ, List.getElem?_cons_zero, List.getElem?_cons_succ, tt_b, int_i, rs_r, Option.isSome_some, Option.getD_some, List.take_succ_cons, List.take_zero, List.nil_append, List.cons_append, List.drop_zero, last_get, last_cut, eP_0, eP_1, dS_eS, dC_eC, decide_true, Int.toNat_zero, eC_eq, i_inj, decide_false, true_and, and_true, Bool.false_eq_true, false_implies, true_implies, implies_true, reduceCtorEq, Bool.true_eq_false, Bool.not_true, Bool.not_false, Bool.true_or, Bool.or_true, Bool.false_or, Bool.or_false, if_true, if_false, gDerP, gArgP, hgb, hx, hy, hm', hxd, min_n, List.length_map]
        · simp only [q00, go_br, q01, q02, allSay, X.says, X.ev, X.evs, evl, tblS, List.getD_cons_zero, List.getD_cons_succ, List.getElem?_cons_zero, List.getElem?_cons_succ, tt_b, int_i, rs_r, Option.isSome_some, Option.getD_some, List.take_succ_cons, List.take_zero, List.nil_append, List.cons_append, List.drop_zero, last_get, last_cut, eP_0, eP_1, dS_eS, dC_eC, decide_true, Int.toNat_zero, eC_eq, i_inj, decide_false, true_and, and_true, Bool.false_eq_true, false_implies, true_implies, implies_true, reduceCtorEq, Bool.true_eq_false, Bool.not_true, Bool.not_false, Bool.true_or, Bool.or_true, Bool.false_or, Bool.or_false, if_true, if_false, gDerP, gArgP, hgb, hx, hy, hm', hxd]
          refine ⟨fun h => absurd h (by decide), fun _ => ⟨hrk, ?_⟩⟩
          rw [hB' 3 (by decide), updB, if_pos rfl]
          refine ⟨⟨k + 1, m.2, (argP m.2 x).zip (argP m.2 y) ++ l, by omega, by rw [rev_app, hM]; simp, ?_, hbm, by rw [hn2]; exact hrun⟩, ?_⟩
          · rw [List.length_append, List.length_zip]
            omega
          · simp [D.int]
            omega
        · simp only [q00, go_br, q01, q02, allSay, X.says, X.ev, X.evs, evl, tblS, List.getD_cons_zero, List.getD_cons_succ, List.getElem?_cons_zero, List.getElem?_cons_succ, tt_b, int_i, rs_r, Option.isSome_some, Option.getD_some, List.take_succ_cons, List.take_zero, List.nil_append, List.cons_append, List.drop_zero, last_get, last_cut, eP_0, eP_1, dS_eS, dC_eC, decide_true, Int.toNat_zero, eC_eq, i_inj, decide_false, true_and, and_true, Bool.false_eq_true, false_implies, true_implies, implies_true, reduceCtorEq, Bool.true_eq_false, Bool.not_true, Bool.not_false, Bool.true_or, Bool.or_true, Bool.false_or, Bool.or_false, if_true, if_false, gDerP, gArgP, hgb, hx, hy, hm', hxd, get_n eC hjA, get_n eC hjC, eP_mk, List.length_map]
          rw [List.length_zip] at hN
          refine ⟨fun _ => ⟨⟨?_, ?_, ?_, ?_, ?_⟩, ?_, hback⟩, fun h => absurd h (by simp)⟩
          · simp only [decide_eq_true_eq]
            omega
          · simp
          · simpa using hjC
          · simp
          · simpa using hjA
          · simp only [rng64]
            omega
theorem run_no {k : Nat} {s : So} {p : Ce × Ce} {st : List (Ce × Ce)} : runU (progO noMeet) (k + 1) s (p :: st) = if derP s p.1 = derP s p.2 then runU (progO noMeet) k s st else if symP s (derP s p.1) < 0 ∨ symP s (derP s p.1) ≠ symP s (derP s p.2) then (4, s) else runU (progO noMeet) k s ((argP s (derP s p.1)).zip (argP s (derP s p.2)) ++ st) := by
  rw [runU]
  by_cases h : derP s p.1 = derP s p.2
  · rw [if_pos h]
    exact if_pos h
  · rw [if_neg h]
    refine (if_neg h).trans (if_neg (show ¬ (noMeet s (derP s p.1) (derP s p.2)).1 = true from Bool.false_ne_true))
def gProcS : List D → Option (List D)
  | [s, a, b] => if smallS (dS s) then some [.i (runU (progO noMeet) 1048576 (dS s) [(dC a, dC b)]).1] else none
  | _ => none
theorem ok_unify_process_s : FOk q12 gProcS := fok_unify_process_s ok_unify_Same_1 q2o q3f q4l fun ds outs hw hg => by
  obtain ⟨d, r, rfl, hd, e, r', rfl, he, f, r2, rfl, hf, rfl⟩ := hw
  obtain ⟨s, rfl, hs⟩ := wfS hd
  obtain ⟨a, rfl, ha⟩ := wfC he
  obtain ⟨b, rfl, hb⟩ := wfC hf
  simp only [gProcS, dS_eS, dC_eC, Option.ite_none_right_eq_some, Option.some.injEq] at hg
  obtain ⟨hsm, rfl⟩ := hg
  obtain ⟨hs1, hs2, hs3⟩ := small_iff.1 hsm
  simp only [q2g]
  rw [go_loop]
  refine ⟨fun st => ∃ (k : Nat) (l : List (Ce × Ce)), k ≤ 1048576 ∧ st = [.i 0, .r (l.reverse.map eP), .i k] ∧ l.length ≤ 1 + k * 1048576 ∧ runU (progO noMeet) (1048576 - k) s l = runU (progO noMeet) 1048576 s [(a, b)], fun st => 1048576 - (st.getD 2 .u).int.toNat, ⟨0, [(a, b)], by omega, rfl, by simp, by simp⟩, ?_⟩
  rintro st - ⟨k, l, hk, rfl, hlen, hrun⟩
  cases l with
  | nil =>
    rw [run_nil] at hrun
    simp [q00, go_br, q01, q02, allSay, X.says, X.ev, X.evs, evl, tblS, List.getD_cons_zero, List.getD_cons_succ, List.getElem?_cons_zero, List.getElem?_cons_succ, tt_b, int_i, str_s, rs_r, Option.isSome_some, Option.getD_some, decide_eq_true_eq, decide_eq_false_iff_not, dS_eS, dC_eC, dU_eU, dW_eW, dY_eY, eC_0, eC_1, eU_0, eU_1, eW_0, eW_1, eW_2, eY_0, eY_1, eS_0, eS_1, eS_2, eS_3, eS_4, eS_5, List.length_map, i_inj, b_inj, s_inj, eC_eq, eU_eq, eW_eq, eY_eq, eS_eq, rng64, List.take_succ_cons, List.take_zero, List.nil_append, List.cons_append, decide_true, decide_false, Bool.or_true, true_and, and_true, ← hrun]
  | cons p l =>
    rw [rev_cons]
    have hML : (l.reverse.map eP).length = l.length := by simp
    generalize hM : l.reverse.map eP = M at hML ⊢
    by_cases hkm : k = 1048576
    · subst hkm
      rw [Nat.sub_self, run_zero] at hrun
      simp [q00, go_br, q01, q02, allSay, X.says, X.ev, X.evs, evl, tblS, List.getD_cons_zero, List.getD_cons_succ, List.getElem?_cons_zero, List.getElem?_cons_succ, tt_b, int_i, str_s, rs_r, Option.isSome_some, Option.getD_some, decide_eq_true_eq, decide_eq_false_iff_not, dS_eS, dC_eC, dU_eU, dW_eW, dY_eY, eC_0, eC_1, eU_0, eU_1, eW_0, eW_1, eW_2, eY_0, eY_1, eS_0, eS_1, eS_2, eS_3, eS_4, eS_5, List.length_map, i_inj, b_inj, s_inj, eC_eq, eU_eq, eW_eq, eY_eq, eS_eq, rng64, List.take_succ_cons, List.take_zero, List.nil_append, List.cons_append, decide_true, decide_false, Bool.or_true, true_and, and_true, ← hrun]
    obtain ⟨n, hn⟩ : ∃ n, 1048576 - k = n + 1 := ⟨1048576 - k - 1, by omega⟩
    have hn2 : 1048576 - (k + 1) = n := by omega
    rw [hn, run_no] at hrun
    have hlM : (M ++ [eP p]).length = l.length + 1 := by simp [hML]
    have hlen' : l.length + 1 ≤ 1 + k * 1048576 := by simpa using hlen
    have hpos : (0 : Int) < ((M ++ [eP p]).length : Nat) := by omega
    have hkd : ¬ ((k : Int) = 1048576) := by omega
    have hrg : rngB .i64 ((((M ++ [eP p]).length : Nat) : Int) - 1) = true := by rw [hlM]; simp only [rng64]; omega
    have hrk : rngB .i64 ((k : Int) + 1) = true := by simp only [rng64]; omega
    have hb1 : (0 : Int) ≤ (((M ++ [eP p]).length : Nat) : Int) - 1 := by omega
    have hb2 : (((M ++ [eP p]).length : Nat) : Int) - 1 < ((M ++ [eP p]).length : Nat) := by omega
    have hb3 : (((M ++ [eP p]).length : Nat) : Int) - 1 ≤ ((M ++ [eP p]).length : Nat) := by omega
    simp only [q00, go_br, q01, q02, allSay, X.says, X.ev, X.evs, evl, tblS, List.getD_cons_zero, List.getD_cons_succ, List.getElem?_cons_zero, List.getElem?_cons_succ, tt_b, int_i, rs_r, Option.isSome_some, Option.getD_some, List.take_succ_cons, List.take_zero, List.nil_append, List.cons_append, List.drop_zero, last_get, last_cut, eP_0, eP_1, dS_eS, dC_eC, decide_true, Int.toNat_zero, eC_eq, i_inj, decide_false, true_and, and_true, Bool.false_eq_true, false_implies, true_implies, implies_true, reduceCtorEq, Bool.true_eq_false, Bool.not_true, Bool.not_false, Bool.true_or, Bool.or_true, Bool.false_or, Bool.or_false, if_true, if_false, gDerP, gSymP, gArgP, gNo, hpos, hrg, hrk, hb1, hb2, hb3, hkd]
    generalize hx : derP s p.1 = x at hrun ⊢
    generalize hy : derP s p.2 = y at hrun ⊢
    by_cases hxy : x = y
    · rw [if_pos hxy] at hrun
      subst hxy
      simp only [q00, go_br, q01, q02, allSay, X.says, X.ev, X.evs, evl, tblS, List.getD_cons_zero, List.getD_cons_succ, List.getElem?_cons_zero, List.getElem?_cons_succ, tt_b, int_i, rs_r, Option.isSome_some, Option.getD_some, List.take_succ_cons, List.take_zero, List.nil_append, List.cons_append, List.drop_zero, last_get, last_cut, eP_0, eP_1, dS_eS, dC_eC, decide_true, Int.toNat_zero, eC_eq, i_inj, decide_false, true_and, and_true, Bool.false_eq_true, false_implies, true_implies, implies_true, reduceCtorEq, Bool.true_eq_false, Bool.not_true, Bool.not_false, Bool.true_or, Bool.or_true, Bool.false_or, Bool.or_false, if_true, if_false]
      rw [updB, if_pos rfl]
      refine ⟨⟨k + 1, l, by omega, by simp [hM], by omega, by rw [hn2]; exact hrun⟩, ?_⟩
      simp [D.int]
      omega
    rw [if_neg hxy] at hrun
    have hxd : decide (x = y) = false := decide_eq_false hxy
    simp only [q00, go_br, q01, q02, allSay, X.says, X.ev, X.evs, evl, tblS, List.getD_cons_zero, List.getD_cons_succ, List.getElem?_cons_zero, List.getElem?_cons_succ, tt_b, int_i, rs_r, Option.isSome_some, Option.getD_some, List.take_succ_cons, List.take_zero, List.nil_append, List.cons_append, List.drop_zero, last_get, last_cut, eP_0, eP_1, dS_eS, dC_eC, decide_true, Int.toNat_zero, eC_eq, i_inj, decide_false, true_and, and_true, Bool.false_eq_true, false_implies, true_implies, implies_true, reduceCtorEq, Bool.true_eq_false, Bool.not_true, Bool.not_false, Bool.true_or, Bool.or_true, Bool.false_or, Bool.or_false, if_true, if_false, hxd]
    by_cases hsy : symP s x < 0 ∨ symP s x ≠ symP s y
    · rw [if_pos hsy] at hrun
      have hsd : (decide (symP s x < 0) || !decide (symP s x = symP s y)) = true := by
        rcases hsy with h | h <;> simp [h]
      simp only [q00, go_br, q01, q02, allSay, X.says, X.ev, X.evs, evl, tblS, List.getD_cons_zero, List.getD_cons_succ, List.getElem?_cons_zero, List.getElem?_cons_succ, tt_b, int_i, rs_r, Option.isSome_some, Option.getD_some, List.take_succ_cons, List.take_zero, List.nil_append, List.cons_append, List.drop_zero, last_get, last_cut, eP_0, eP_1, dS_eS, dC_eC, decide_true, Int.toNat_zero, eC_eq, i_inj, decide_false, true_and, and_true, Bool.false_eq_true, false_implies, true_implies, implies_true, reduceCtorEq, Bool.true_eq_false, Bool.not_true, Bool.not_false, Bool.true_or, Bool.or_true, Bool.false_or, Bool.or_false, if_true, if_false, hsd]
      simp [← hrun]
    · rw [if_neg hsy] at hrun
      have hsd : (decide (symP s x < 0) || !decide (symP s x = symP s y)) = false := by
        have h1 : ¬ symP s x < 0 := fun h => hsy (.inl h)
        have h2 : symP s x = symP s y := Classical.byContradiction fun h => hsy (.inr h)
        simp [h2]
        rw [← h2]
        omega
      have hA := argP_len s x
      have hC := argP_len s y
      simp only [q00, go_br, q01, q02, allSay, X.says, X.ev, X.evs, evl, tblS, List.getD_cons_zero, List.getD_cons_succ, List.getElem?_cons_zero, List.getElem?_cons_succ, tt_b, int_i, rs_r, Option.isSome_some, Option.getD_some, List.take_succ_cons, List.take_zero, List.nil_append, List.cons_append, List.drop_zero, last_get, last_cut, eP_0, eP_1, dS_eS, dC_eC, decide_true, Int.toNat_zero, eC_eq, i_inj, decide_false, true_and, and_true, Bool.false_eq_true, false_implies, true_implies, implies_true, reduceCtorEq, Bool.true_eq_false, Bool.not_true, Bool.not_false, Bool.true_or, Bool.or_true, Bool.false_or, Bool.or_false, if_true, if_false, hsd]
      refine ⟨?_, push_ok M (argP s x) (argP s y) ?_ ?_ (fun B' hB' => ?_) fun N j B' hN hjA hjC hB' hback => ?_⟩
      · rw [min_n]
        simp only [rng64, List.length_map]
        omega
      · simp only [q00, go_br, q01, q02, allSay, X.says, X.ev, X.evs, evl, tblS, List.getD_cons_zero, List.getD_cons_succ, List.getElem?_cons_zero, List.getElem?_cons_succ, tt_b, int_i, rs_r, Option.isSome_some, Option.getD_some, List.take_succ_cons, List.take_zero, List.nil_append, List.cons_append, List.drop_zero, last_get, last_cut, eP_0, eP_1, dS_eS, dC_eC, decide_true, Int.toNat_zero, eC_eq, i_inj, decide_false, true_and, and_true, Bool.false_eq_true, false_implies, true_implies, implies_true, reduceCtorEq, Bool.true_eq_false, Bool.not_true, Bool.not_false, Bool.true_or, Bool.or_true, Bool.false_or, Bool.or_false, if_true, if_false]
      · simp only [q00, go_br, q01, q02, allSay, X.says, X.ev, X.evs, evl, tblS, List.getD_cons_zero, List.getD_cons_succ, List.getElem?_cons_zero, List.getElem?_cons_succ, tt_b, int_i, rs_r, Option.isSome_some, Option.getD_some, List.take_succ_cons, List.take_zero, List.nil_append, List.cons_append, List.drop_zero, last_get, last_cut, eP_0, eP_1, dS_eS, dC_eC, decide_true, Int.toNat_zero, eC_eq, i_inj, decide_false, true_and, and_true, Bool.false_eq_true, false_implies, true_implies, implies_true, reduceCtorEq, Bool.true_eq_false, Bool.not_true, Bool.not_false, Bool.true_or, Bool.or_true, Bool.false_or, Bool.or_false, if_true, if_false, gDerP, gArgP, hx, hy, hxd, min_n, List.length_map]
      · simp only [q00, go_br, q01, q02, allSay, X.says, X.ev, X.evs, evl, tblS, List.getD_cons_zero, List.getD_cons_succ, List.getElem?_cons_zero, List.getElem?_cons_succ, tt_b, int_i, rs_r, Option.isSome_some, Option.getD_some, List.take_succ_cons, List.take_zero, List.nil_append, List.cons_append, List.drop_zero, last_get, last_cut, eP_0, eP_1, dS_eS, dC_eC, decide_true, Int.toNat_zero, eC_eq, i_inj, decide_false, true_and, and_true, Bool.false_eq_true, false_implies, true_implies, implies_true, reduceCtorEq, Bool.true_eq_false, Bool.not_true, Bool.not_false, Bool.true_or, Bool.or_true, Bool.false_or, Bool.or_false, if_true, if_false, gDerP, gArgP, hx, hy, hxd]
        refine ⟨fun h => absurd h (by decide), fun _ => ⟨hrk, ?_⟩⟩
        rw [hB' 3 (by decide), updB, if_pos rfl]
        refine ⟨⟨k + 1, (argP s x).zip (argP s y) ++ l, by omega, by rw [rev_app, hM]; simp, ?_, by rw [hn2]; exact hrun⟩, ?_⟩
        · rw [List.length_append, List.length_zip]
          omega
        · simp [D.int]
          omega
      · simp only [q00, go_br, q01, q02, allSay, X.says, X.ev, X.evs, evl, tblS, List.getD_cons_zero, List.getD_cons_succ, List.getElem?_cons_zero, List.getElem?_cons_succ, tt_b, int_i, rs_r, Option.isSome_some, Option.getD_some, List.take_succ_cons, List.take_zero, List.nil_append, List.cons_append, List.drop_zero, last_get, last_cut, eP_0, eP_1, dS_eS, dC_eC, decide_true, Int.toNat_zero, eC_eq, i_inj, decide_false, true_and, and_true, Bool.false_eq_true, false_implies, true_implies, implies_true, reduceCtorEq, Bool.true_eq_false, Bool.not_true, Bool.not_false, Bool.true_or, Bool.or_true, Bool.false_or, Bool.or_false, if_true, if_false, gDerP, gArgP, hx, hy, hxd, get_n eC hjA, get_n eC hjC, eP_mk, List.length_map]
        rw [List.length_zip] at hN
        refine ⟨fun _ => ⟨⟨?_, ?_, ?_, ?_, ?_⟩, ?_, hback⟩, fun h => absurd h (by simp)⟩
        · simp only [decide_eq_true_eq]
          omega
        · simp
        · simpa using hjC
        · simp
        · simpa using hjA
        · simp only [rng64]
          omega

theorem back_undo {k : Nat} {s s' : So} (h : Back k s s') : { (undoS s' s.tr.length s.cs.length) with wk := s'.wk.take s.wk.length } = s := by
  obtain ⟨⟨n, w, h1, h2, h3, h4, h5⟩, h6, h7, h8, h9⟩ := h
  obtain ⟨cs, ys, tr, wk, ser, mx⟩ := s
  obtain ⟨cs', ys', tr', wk', ser', mx'⟩ := s'
  simp only at h1 h2 h3 h6 h7 h8 h9
  subst h1 h2 h7 h8 h9
  simp only [undoS, Int.toNat_natCast, List.take_left, List.drop_left, h3, List.take_length]
def uniP (s : So) (a b : Ce) : Int × So :=
  if vcP s a = false ∨ vcP s b = false then (1, s)
  else if (runU (progO bindP) 1048576 s [(a, b)]).1 = 0 then runU (progO bindP) 1048576 s [(a, b)]
  else ((runU (progO bindP) 1048576 s [(a, b)]).1, s)
def gUnify : List D → Option (List D)
  | [s, a, b] => if smallS (dS s) then some [.i (uniP (dS s) (dC a) (dC b)).1, eS (uniP (dS s) (dC a) (dC b)).2] else none
  | _ => none
def gUndoD : List D → Option (List D)
  | [e, m, t, w, s] => if e.int = 0 then some [s] else if markedB (dS s) m.int t.int && (decide (0 ≤ w.int) && decide (w.int ≤ (dS s).wk.length)) then some [eS { (undoS (dS s) m.int t.int) with wk := (dS s).wk.take w.int.toNat }] else none
  | _ => none
theorem go_unify_Unify_1 : ∀ ds outs, WfA q0u.ars ds → gUndoD ds = some outs → q27.go (tblS [(q1f, gUndo)]) (fun o => o = outs) ds fun _ _ => False := fun ds outs hw hg => by
  obtain ⟨d, r, rfl, hd, e, r', rfl, he, f, r2, rfl, hf, q, r3, rfl, hq, x, r4, rfl, hx, rfl⟩ := hw
  obtain ⟨e, rfl, -⟩ := wfI hd
  obtain ⟨m, rfl, hm⟩ := wfI he
  obtain ⟨t, rfl, ht⟩ := wfI hf
  obtain ⟨w, rfl, hw⟩ := wfI hq
  obtain ⟨s, rfl, hs⟩ := wfS hx
  simp only [gUndoD, int_i, dS_eS] at hg
  by_cases h0 : e = 0
  · rw [if_pos h0] at hg
    injection hg with hg
    subst hg h0
    simp [q27, q00, go_br, q01, q02, allSay, X.says, X.ev, X.evs, evl, tblS, List.getD_cons_zero, List.getD_cons_succ, List.getElem?_cons_zero, List.getElem?_cons_succ, tt_b, int_i, str_s, rs_r, Option.isSome_some, Option.getD_some, decide_eq_true_eq, decide_eq_false_iff_not, dS_eS, dC_eC, dU_eU, dW_eW, dY_eY, eC_0, eC_1, eU_0, eU_1, eW_0, eW_1, eW_2, eY_0, eY_1, eS_0, eS_1, eS_2, eS_3, eS_4, eS_5, List.length_map, i_inj, b_inj, s_inj, eC_eq, eU_eq, eW_eq, eY_eq, eS_eq, rng64, List.take_succ_cons, List.take_zero, List.nil_append, List.cons_append, decide_true, decide_false, Bool.or_true, true_and, and_true]
  · rw [if_neg h0] at hg
    split at hg
    · rename_i hc
      injection hg with hg
      subst hg
      simp only [Bool.and_eq_true, decide_eq_true_eq] at hc
      obtain ⟨hmk, hw0, hw1⟩ := hc
      have hU : gUndo [eS s, .i m, .i t] = some [.i 0, eS (undoS s m t)] := by
        simp only [gUndo, dS_eS, int_i]
        rw [if_pos hmk]
      simp only [q27, q00, go_br, q01, q02, allSay, X.says, X.ev, X.evs, evl, tblS, List.getD_cons_zero, List.getD_cons_succ, List.getElem?_cons_zero, List.getElem?_cons_succ, tt_b, int_i, str_s, rs_r, Option.isSome_some, Option.getD_some, decide_eq_true_eq, decide_eq_false_iff_not, dS_eS, dC_eC, dU_eU, dW_eW, dY_eY, eC_0, eC_1, eU_0, eU_1, eW_0, eW_1, eW_2, eY_0, eY_1, eS_0, eS_1, eS_2, eS_3, eS_4, eS_5, List.length_map, i_inj, b_inj, s_inj, eC_eq, eU_eq, eW_eq, eY_eq, eS_eq, rng64, List.take_succ_cons, List.take_zero, List.nil_append, List.cons_append, decide_true, decide_false, Bool.or_true, true_and, and_true, hU, h0]
      refine ⟨fun h => ?_, fun h => by cases h⟩
      refine ⟨⟨of_decide_eq_true hw0, hw1⟩, ?_⟩
      simp [eS, D.fs, undoS, List.map_take]
    · cases hg
theorem q4b : FOk q0l gUnify := fok_unify_Unify (g0 := gUndoD) (fok_unify_Unify_1 ok_trail_Undo go_unify_Unify_1) ok_unify_Unify_2 q1i ok_unify_process_u
    (fokD_of (tbl := [(q1f, gUndo)]) q2z Try.f24 _ (.cons ok_trail_Undo .nil) rfl rfl (by decide) fun ds outs hw hg => by rw [q4f gUndo _ rfl]; exact go_unify_Unify_1 ds outs hw hg)
    rfl fun ds outs hw hg => by
  obtain ⟨d, r, rfl, hd, e, r', rfl, he, f, r2, rfl, hf, rfl⟩ := hw
  obtain ⟨s, rfl, hs⟩ := wfS hd
  obtain ⟨a, rfl, ha⟩ := wfC he
  obtain ⟨b, rfl, hb⟩ := wfC hf
  simp only [gUnify, dS_eS, dC_eC, Option.ite_none_right_eq_some, Option.some.injEq] at hg
  obtain ⟨hsm, rfl⟩ := hg
  have hbk := run_back (O := progO bindP) bindP_back 1048576 s [(a, b)]
  have hP : gProcU [eS s, eC a, eC b] = some [.i (runU (progO bindP) 1048576 s [(a, b)]).1, eS (runU (progO bindP) 1048576 s [(a, b)]).2] := by
    simp only [gProcU, dS_eS, dC_eC]
    rw [if_pos hsm]
  simp only [q38, q00, go_br, q01, q02, allSay, X.says, X.ev, X.evs, evl, tblS, List.getD_cons_zero, List.getD_cons_succ, List.getElem?_cons_zero, List.getElem?_cons_succ, tt_b, int_i, str_s, rs_r, Option.isSome_some, Option.getD_some, decide_eq_true_eq, decide_eq_false_iff_not, dS_eS, dC_eC, dU_eU, dW_eW, dY_eY, eC_0, eC_1, eU_0, eU_1, eW_0, eW_1, eW_2, eY_0, eY_1, eS_0, eS_1, eS_2, eS_3, eS_4, eS_5, List.length_map, i_inj, b_inj, s_inj, eC_eq, eU_eq, eW_eq, eY_eq, eS_eq, rng64, List.take_succ_cons, List.take_zero, List.nil_append, List.cons_append, decide_true, decide_false, Bool.or_true, true_and, and_true, gSCb, hP, uniP]
  cases hva : vcP s a with
  | false => simp
  | true =>
    cases hvb : vcP s b with
    | false => simp
    | true =>
      have hu := back_undo hbk
      obtain ⟨hl1, hl2, hl3, hl4⟩ := hbk.tr_len
      have hcs := hbk.cs
      generalize runU (progO bindP) 1048576 s [(a, b)] = R at hu hl1 hl2 hl3 hl4 hcs ⊢
      have hD : gUndoD [.i R.1, .i s.tr.length, .i s.cs.length, .i s.wk.length, eS R.2] = some [eS (if R.1 = 0 then R.2 else s)] := by
        simp only [gUndoD, int_i, dS_eS]
        by_cases h0 : R.1 = 0
        · rw [if_pos h0, if_pos h0]
        · rw [if_neg h0, if_neg h0, if_pos]
          · rw [Int.toNat_natCast, hu]
          · simp [markedB]
            omega
      simp only [hD]
      by_cases h0 : R.1 = 0
      · simp [h0]
      · simp [h0]
theorem ok_unify_Unify_n : FOk q1e (fun _ => some [.i 1]) := fok_unify_Unify_n q1i fun ds outs hw hg => by
  injection hg with hg
def samP (s : So) (a b : Ce) : Bool × Int :=
  if vcP s a = false ∨ vcP s b = false then (false, 1)
  else if (runU (progO noMeet) 1048576 s [(a, b)]).1 = 0 then (true, 0)
  else if (runU (progO noMeet) 1048576 s [(a, b)]).1 = 2 then (false, 2) else (false, 0)
def gSameU (f : So → Ce → Ce → Bool × Int) : List D → Option (List D)
  | [s, a, b] => if smallS (dS s) then some [.b (f (dS s) (dC a) (dC b)).1, .i (f (dS s) (dC a) (dC b)).2] else none
  | _ => none
theorem ok_unify_Same : FOk q1a (gSameU samP) := fok_unify_Same ok_unify_Same_1 q1i ok_unify_process_s fun ds outs hw hg => by
  obtain ⟨d, r, rfl, hd, e, r', rfl, he, f, r2, rfl, hf, rfl⟩ := hw
  obtain ⟨s, rfl, hs⟩ := wfS hd
  obtain ⟨a, rfl, ha⟩ := wfC he
  obtain ⟨b, rfl, hb⟩ := wfC hf
  simp only [gSameU, dS_eS, dC_eC, Option.ite_none_right_eq_some, Option.some.injEq] at hg
  obtain ⟨hsm, rfl⟩ := hg
  have hP : gProcS [eS s, eC a, eC b] = some [.i (runU (progO noMeet) 1048576 s [(a, b)]).1] := by
    simp only [gProcS, dS_eS, dC_eC]
    rw [if_pos hsm]
  simp only [q3n, q00, go_br, q01, q02, allSay, X.says, X.ev, X.evs, evl, tblS, List.getD_cons_zero, List.getD_cons_succ, List.getElem?_cons_zero, List.getElem?_cons_succ, tt_b, int_i, str_s, rs_r, Option.isSome_some, Option.getD_some, decide_eq_true_eq, decide_eq_false_iff_not, dS_eS, dC_eC, dU_eU, dW_eW, dY_eY, eC_0, eC_1, eU_0, eU_1, eW_0, eW_1, eW_2, eY_0, eY_1, eS_0, eS_1, eS_2, eS_3, eS_4, eS_5, List.length_map, i_inj, b_inj, s_inj, eC_eq, eU_eq, eW_eq, eY_eq, eS_eq, rng64, List.take_succ_cons, List.take_zero, List.nil_append, List.cons_append, decide_true, decide_false, Bool.or_true, true_and, and_true, gSCb, hP, samP]
  cases hva : vcP s a with
  | false => simp
  | true =>
    cases hvb : vcP s b with
    | false => simp
    | true =>
      generalize (runU (progO noMeet) 1048576 s [(a, b)]).1 = R
      by_cases h0 : R = 0
      · simp [h0]
      · by_cases h2 : R = 2
        · simp [h2]
        · simp [h0, h2]
end Go.Proofs.Ytaoamndcdjelnaa


namespace Go.Proofs.Ytaoamndcdjelnaa
open Go.RowKit
set_option linter.unusedVariables false
set_option linter.unusedSimpArgs false

section
variable {s : So} {a : Int} {c : Ce}
theorem inS_set (i : Int) : inS (setS s a c) i = inS s i := by simp [inS, setS]
theorem at_set (h : inS s a = true) {i : Int} (hi : inS s i = true) : cellAt (setS s a c) i = if i = a then keptC c else cellAt s i := by
  have h1 := inS_iff.1 h
  have h2 := inS_iff.1 hi
  unfold cellAt setS
  by_cases e : i = a
  · subst e
    rw [if_pos rfl, List.getD_eq_getElem?_getD, List.getElem?_set_self (by omega)]
    rfl
  · rw [if_neg e, List.getD_eq_getElem?_getD, List.getElem?_set_ne (by omega), ← List.getD_eq_getElem?_getD]
theorem tag_set (h : inS s a = true) (i : Int) : tagS (setS s a c) i = if i = a then (keptC c).t else tagS s i := by
  cases hi : inS s i with
  | false =>
    rw [tagS_out (by rw [inS_set]; exact hi), tagS_out hi, if_neg]
    intro e
    subst e
    rw [h] at hi
    cases hi
  | true =>
    rw [tagS_in (by rw [inS_set]; exact hi), at_set h hi]
    split
    · rfl
    · rw [tagS_in hi]
structure Sets (s : So) (a : Int) (c : Ce) : Prop where
  v : validR s = true
  i : inS s a = true
  old : (cellAt s a).t = 0 ∧ (cellAt s a).n = a ∨ (cellAt s a).t = 5
  vc : vcR s c = true
  no : comesB s (keptC c) a = false
theorem vc_tag {x : Ce} (h : vcR s x = true) : x.t = 0 ∨ x.t = 1 ∨ x.t = 2 ∨ x.t = 3 ∨ x.t = 5 := by
  unfold vcR at h
  by_cases h0 : x.t = 0
  · exact .inl h0
  by_cases h1 : x.t = 1
  · exact .inr (.inl h1)
  by_cases h2 : x.t = 2
  · exact .inr (.inr (.inl h2))
  by_cases h3 : x.t = 3
  · exact .inr (.inr (.inr (.inl h3)))
  by_cases h5 : x.t = 5
  · exact .inr (.inr (.inr (.inr h5)))
  · rw [if_neg h0, if_neg h1, if_neg h2, if_neg h3, if_neg h5] at h
    cases h
theorem kept_tag {x : Ce} (h : vcR s x = true) : (keptC x).t = 0 ∨ (keptC x).t = 1 ∨ (keptC x).t = 2 ∨ (keptC x).t = 3 := by
  unfold keptC
  split
  · exact .inl rfl
  · rename_i h5
    rcases vc_tag h with h | h | h | h | h
    · exact .inl h
    · exact .inr (.inl h)
    · exact .inr (.inr (.inl h))
    · exact .inr (.inr (.inr h))
    · exact (h5 h).elim
theorem kept_vc {x : Ce} (h : vcR s x = true) : vcR s (keptC x) = true := by
  unfold keptC
  split
  · rename_i h5
    unfold vcR at h
    rw [if_neg (by omega), if_neg (by omega), if_neg (by omega), if_neg (by omega), if_pos h5] at h
    have ht : tagS s x.n = 5 := of_decide_eq_true h
    have hi := tag_in' (by decide) ht
    unfold vcR
    rw [if_pos rfl]
    simp [hi, ht]
  · exact h
theorem Sets.ne4 (h : Sets s a c) : (cellAt s a).t ≠ 4 ∧ (cellAt s a).t ≠ 1 := by
  rcases h.old with ⟨h0, -⟩ | h0 <;> omega
theorem tag4 (h : Sets s a c) (i : Int) : tagS (setS s a c) i = 4 ↔ tagS s i = 4 := by
  rw [tag_set h.i]
  split
  · rename_i e
    subst e
    have := kept_tag h.vc
    have := h.ne4
    rw [tagS_in h.i]
    omega
  · exact Iff.rfl
theorem vc_set (h : Sets s a c) {x : Ce} (h5 : x.t ≠ 5) : vcR (setS s a c) x = vcR s x := by
  have e4 : ∀ i, decide (tagS (setS s a c) i = 4) = decide (tagS s i = 4) := fun i => decide_eq_decide.2 (tag4 h i)
  unfold vcR
  by_cases h0 : x.t = 0
  · rw [if_pos h0, if_pos h0, inS_set, e4]
  rw [if_neg h0, if_neg h0]
  by_cases h1 : x.t = 1
  · rw [if_pos h1, if_pos h1]
  rw [if_neg h1, if_neg h1]
  by_cases h2 : x.t = 2
  · rw [if_pos h2, if_pos h2]
    rfl
  rw [if_neg h2, if_neg h2]
  by_cases h3 : x.t = 3
  · rw [if_pos h3, if_pos h3, e4]
  rw [if_neg h3, if_neg h3, if_neg h5, if_neg h5]
theorem nx_set (h : Sets s a c) {n : Int} (hn : inS s n = true) (hne : n ≠ a) : (Ns (setS s a c) n ↔ Ns s n) ∧ nx (setS s a c) n = nx s n := by
  unfold Ns nx
  rw [tag_set h.i, at_set h.i hn, if_neg hne, if_neg hne]
  exact ⟨Iff.rfl, rfl⟩
theorem en_no (h : Sets s a c) : ∀ (m : Nat) (n : Int), inS s n = true → endsN s m n = true → comesN s a m ⟨0, n⟩ = false → En (setS s a c) n
  | 0, n, _, he, _ => by cases he
  | m + 1, n, hi, he, hc => by
    unfold comesN at hc
    rw [if_pos ⟨rfl, hi⟩] at hc
    by_cases hna : n = a
    · rw [if_pos hna] at hc
      cases hc
    rw [if_neg hna] at hc
    obtain ⟨h1, h2⟩ := nx_set h hi hna
    by_cases hn : Ns s n
    · have ht : (cellAt s n).t = 0 := by have := hn.1; rwa [tagS_in hi] at this
      have e : cellAt s n = ⟨0, nx s n⟩ := Ce.ext' ht rfl
      rw [endsN_ns hn] at he
      rw [e] at hc
      refine En.ns (h1.2 hn) ?_
      rw [h2]
      exact en_no h m _ (vr_nx h.v hn) he hc
    · exact En.st fun q => hn (h1.1 q)
theorem en_a (h : Sets s a c) : En (setS s a c) a := by
  have hk := kept_vc h.vc
  by_cases hn : Ns (setS s a c) a
  · refine En.ns hn ?_
    have e : nx (setS s a c) a = (keptC c).n := by
      unfold nx
      rw [at_set h.i h.i, if_pos rfl]
    have h0 : (keptC c).t = 0 := by
      have := hn.1
      rwa [tag_set h.i, if_pos rfl] at this
    rw [e]
    have hi := (vc_ref hk h0).1
    have e2 : keptC c = ⟨0, (keptC c).n⟩ := Ce.ext' h0 rfl
    have hno := h.no
    unfold comesB at hno
    rw [e2] at hno
    exact en_no h _ _ hi (vr_ends h.v hi) hno
  · exact En.st hn
theorem en_all (h : Sets s a c) : ∀ (m : Nat) (n : Int), inS s n = true → endsN s m n = true → En (setS s a c) n
  | 0, n, _, he => by cases he
  | m + 1, n, hi, he => by
    by_cases hna : n = a
    · subst hna
      exact en_a h
    obtain ⟨h1, h2⟩ := nx_set h hi hna
    by_cases hn : Ns s n
    · rw [endsN_ns hn] at he
      refine En.ns (h1.2 hn) ?_
      rw [h2]
      exact en_all h m _ (vr_nx h.v hn) he
    · exact En.st fun q => hn (h1.1 q)
theorem group_set (h : Sets s a c) {i : Int} (hg : groupS s i = true) : groupS (setS s a c) i = true := by
  simp only [groupS, Bool.and_eq_true, decide_eq_true_eq, Bool.not_eq_true', decide_eq_false_iff_not] at hg ⊢
  obtain ⟨g1, g2, g3, g4, g5, g6⟩ := hg
  have hi1 := tag_in' (by decide) g1
  have hne : i + 1 ≠ a := fun e => by
    rw [e, tagS_in h.i] at g1
    exact h.ne4.2 g1
  rw [tag_set h.i, if_neg hne, at_set h.i hi1, if_neg hne, tag_set h.i]
  have hk := kept_tag h.vc
  refine ⟨g1, g2, g3, ?_, ?_, ?_⟩ <;> split <;> omega
theorem cell_set (h : Sets s a c) {i : Int} (hi : inS s i = true) : cellR (setS s a c) i = true := by
  have hk := kept_tag h.vc
  unfold cellR
  rw [at_set h.i hi]
  by_cases hia : i = a
  · rw [if_pos hia, if_neg (by omega)]
    simp only [Bool.and_eq_true, Bool.or_eq_true, Bool.not_eq_true', decide_eq_false_iff_not, decide_eq_true_eq]
    refine ⟨?_, ?_, .inl (by omega)⟩
    · rw [vc_set h (by omega)]
      exact kept_vc h.vc
    · rw [hia]
      exact (en_a h).ends
  · rw [if_neg hia]
    have hc := vr_cell h.v hi
    unfold cellR at hc
    by_cases h4 : (cellAt s i).t = 4
    · rw [if_pos h4] at hc ⊢
      simp only [Bool.and_eq_true, decide_eq_true_eq, List.all_eq_true, List.mem_range, Bool.not_eq_true', decide_eq_false_iff_not] at hc ⊢
      refine ⟨hc.1, by rw [inS_set]; exact hc.2.1, fun j hj => ?_⟩
      rw [tag4 h]
      exact hc.2.2 j hj
    · rw [if_neg h4] at hc ⊢
      simp only [Bool.and_eq_true, Bool.or_eq_true, Bool.not_eq_true', decide_eq_false_iff_not, decide_eq_true_eq] at hc ⊢
      refine ⟨?_, (en_all h _ _ hi (vr_ends h.v hi)).ends, ?_⟩
      · by_cases h5 : (cellAt s i).t = 5
        · have hn : (cellAt s i).n = i := by
            rcases hc.2.2 with q | q
            · exact (q h5).elim
            · exact q.1
          unfold vcR
          rw [if_neg (by omega), if_neg (by omega), if_neg (by omega), if_neg (by omega), if_pos h5, hn, tag_set h.i, if_neg hia, tagS_in hi]
          exact decide_eq_true h5
        · rw [vc_set h h5]
          exact hc.1
      · rcases hc.2.2 with q | q
        · exact .inl q
        · exact .inr ⟨q.1, group_set h q.2⟩
theorem old_set (h : Sets s a c) {u : Un} (hu : oldR s u = true) : oldR (setS s a c) u = true := by
  unfold oldR oldB at hu ⊢
  simp only [Bool.and_eq_true] at hu ⊢
  refine ⟨by rw [inS_set]; exact hu.1, ?_⟩
  have h2 := hu.2
  by_cases h0 : u.old.t = 0
  · rw [if_pos h0] at h2 ⊢
    exact h2
  rw [if_neg h0] at h2 ⊢
  by_cases h5 : u.old.t = 5
  · rw [if_pos h5] at h2 ⊢
    simp only [Bool.and_eq_true, decide_eq_true_eq, Bool.not_eq_true', decide_eq_false_iff_not] at h2 ⊢
    refine ⟨h2.1, group_set h h2.2.1, ?_⟩
    rw [tag_set h.i]
    have := kept_tag h.vc
    split
    · omega
    · exact h2.2.2
  rw [if_neg h5] at h2 ⊢
  by_cases h1 : u.old.t = 1 ∨ u.old.t = 2 ∨ u.old.t = 3
  · rw [if_pos h1] at h2 ⊢
    rw [vc_set h h5]
    exact h2
  · rw [if_neg h1] at h2
    cases h2
theorem old_new (h : Sets s a c) : oldR (setS s a c) ⟨a, cellAt s a⟩ = true := by
  unfold oldR oldB
  simp only [inS_set, h.i, Bool.true_and]
  rcases h.old with ⟨h0, hn⟩ | h5
  · rw [if_pos h0, hn]
    simp
  · rw [if_neg (by omega), if_pos h5]
    have hc := vr_cell h.v h.i
    unfold cellR at hc
    rw [if_neg (by omega)] at hc
    simp only [Bool.and_eq_true, Bool.or_eq_true, Bool.not_eq_true', decide_eq_false_iff_not, decide_eq_true_eq] at hc
    obtain ⟨hn, hg⟩ : (cellAt s a).n = a ∧ groupS s a = true := by
      rcases hc.2.2 with q | q
      · exact (q h5).elim
      · exact q
    simp only [Bool.and_eq_true, decide_eq_true_eq, Bool.not_eq_true', decide_eq_false_iff_not]
    refine ⟨hn, group_set h hg, ?_⟩
    rw [tag_set h.i]
    have hk := kept_tag h.vc
    split
    · omega
    · intro h1
      have hi1 := tag_in' (by decide) h1
      rw [tagS_in hi1] at h1
      have hc1 := vr_cell h.v hi1
      unfold cellR at hc1
      rw [if_neg (by omega)] at hc1
      simp only [Bool.and_eq_true, Bool.or_eq_true, Bool.not_eq_true', decide_eq_false_iff_not, decide_eq_true_eq] at hc1
      rcases hc1.2.2 with q | q
      · exact q h1
      · have := q.2
        simp only [groupS, Bool.and_eq_true, decide_eq_true_eq] at this
        have h2 := this.1
        rw [show a - 1 + 1 = a by omega, tagS_in h.i] at h2
        omega
def keptB (s : So) : Bool := (List.range s.wk.length).all fun i => !decide ((s.wk.getD i default).att.t = 5) && !decide ((s.wk.getD i default).val.t = 5)
def goodB (s : So) : Bool := keptB s && validR s
theorem valid_iff {s : So} : validR s = true ↔ headB s = true ∧ (∀ i, inS s i = true → cellR s i = true) ∧ (∀ u ∈ s.tr, oldR s u = true) ∧ ∀ w ∈ s.wk, wkB vcR s w = true := by
  constructor
  · intro h
    refine ⟨vr_head h, fun i hi => vr_cell h hi, fun u hu => ?_, fun w hw => ?_⟩
    · simp only [validR, Bool.and_eq_true] at h
      obtain ⟨k, hk, rfl⟩ := List.getElem_of_mem hu
      have := all_of h.2.2.1 (k := k) hk
      rwa [List.getD_eq_getElem?_getD, List.getElem?_eq_getElem hk] at this
    · simp only [validR, Bool.and_eq_true] at h
      obtain ⟨k, hk, rfl⟩ := List.getElem_of_mem hw
      have := all_of h.2.2.2 (k := k) hk
      rwa [List.getD_eq_getElem?_getD, List.getElem?_eq_getElem hk] at this
  · rintro ⟨h1, h2, h3, h4⟩
    simp only [validR, Bool.and_eq_true]
    refine ⟨h1, all_yes fun k hk => h2 _ (inS_iff.2 ⟨by omega, by omega⟩), all_yes fun k hk => h3 _ (getD_mem hk), all_yes fun k hk => h4 _ (getD_mem hk)⟩
theorem kept_iff {s : So} : keptB s = true ↔ ∀ w ∈ s.wk, w.att.t ≠ 5 ∧ w.val.t ≠ 5 := by
  constructor
  · intro h w hw
    obtain ⟨k, hk, rfl⟩ := List.getElem_of_mem hw
    have := all_of h (k := k) hk
    rw [List.getD_eq_getElem?_getD, List.getElem?_eq_getElem hk] at this
    simpa using this
  · intro h
    refine all_yes fun k hk => ?_
    have := h _ (getD_mem hk)
    rw [decide_eq_false this.1, decide_eq_false this.2]
    rfl
theorem wk_set (h : Sets s a c) {w : Wk} (hk : w.att.t ≠ 5 ∧ w.val.t ≠ 5) (hw : wkB vcR s w = true) : wkB vcR (setS s a c) w = true := by
  unfold wkB at hw ⊢
  rw [vc_set h hk.1, vc_set h hk.2]
  exact hw
theorem good_set (h : Sets s a c) (hk : keptB s = true) : goodB (setS s a c) = true := by
  obtain ⟨h1, h2, h3, h4⟩ := valid_iff.1 h.v
  have hk' := kept_iff.1 hk
  unfold goodB
  rw [Bool.and_eq_true]
  refine ⟨hk, valid_iff.2 ⟨?_, fun i hi => cell_set h (by rw [inS_set] at hi; exact hi), fun u hu => ?_, fun w hw => wk_set h (hk' w hw) (h4 w hw)⟩⟩
  · have e : (setS s a c).cs.length = s.cs.length := by simp [setS]
    unfold headB at h1 ⊢
    rw [e]
    exact h1
  · have hu : u ∈ s.tr ++ [⟨a, cellAt s a⟩] := hu
    rcases List.mem_append.1 hu with hu | hu
    · exact old_set h (h3 u hu)
    · rw [List.mem_singleton.1 hu]
      exact old_new h
theorem ends_wk (s : So) (l : List Wk) : ∀ (k : Nat) (n : Int), endsN { s with wk := l } k n = endsN s k n
  | 0, n => rfl
  | k + 1, n => by
    by_cases hn : Ns s n
    · rw [endsN_ns hn, endsN_ns (s := { s with wk := l }) hn]
      exact ends_wk s l k _
    · rw [endsN_st hn, endsN_st (s := { s with wk := l }) hn]
theorem cell_wk (s : So) (l : List Wk) (i : Int) : cellR { s with wk := l } i = cellR s i := by
  have e : endsB { s with wk := l } i = endsB s i := ends_wk s l _ i
  unfold cellR
  rw [e]
  rfl
theorem good_wk {s : So} (h : goodB s = true) {w : Wk} (hk : w.att.t ≠ 5 ∧ w.val.t ≠ 5) (hw : wkB vcR s w = true) : goodB { s with wk := s.wk ++ [w] } = true := by
  unfold goodB at h
  rw [Bool.and_eq_true] at h
  obtain ⟨h1, h2, h3, h4⟩ := valid_iff.1 h.2
  have hk' := kept_iff.1 h.1
  unfold goodB
  rw [Bool.and_eq_true]
  refine ⟨kept_iff.2 fun x hx => ?_, valid_iff.2 ⟨h1, fun i hi => (cell_wk s _ i).trans (h2 i hi), h3, fun x hx => ?_⟩⟩
  · rcases List.mem_append.1 hx with hx | hx
    · exact hk' x hx
    · rw [List.mem_singleton.1 hx]
      exact hk
  · rcases List.mem_append.1 hx with hx | hx
    · exact h4 x hx
    · rw [List.mem_singleton.1 hx]
      exact hw
end
end Go.Proofs.Ytaoamndcdjelnaa


namespace Go.Proofs.Ytaoamndcdjelnaa
open Go.RowKit
set_option linter.unusedVariables false
set_option linter.unusedSimpArgs false
set_option maxRecDepth 100000
set_option linter.unusedSectionVars false

section
variable {s : So} (hv : validR s = true)
include hv
theorem vc_PR (c : Ce) : vcP s c = vcR s c := (validR_vs hv).vc c
theorem tag_iff (n : Int) : 0 ≤ tagS s n ↔ inS s n = true := by
  have := (validR_vs hv).tag_in n
  rw [← this]
  simp
theorem derM_N : ∀ (k : Nat) (c : Ce), derM s k c = derN s k c
  | 0, c => rfl
  | k + 1, c => by
    unfold derM derN
    by_cases h : c.t = 0 ∧ inS s c.n = true ∧ cellAt s c.n ≠ c
    · rw [if_pos h, if_pos ⟨h.1, (tag_iff hv _).2 h.2.1, h.2.2⟩, derM_N k]
    · rw [if_neg h, if_neg (fun q => h ⟨q.1, (tag_iff hv _).1 q.2.1, q.2.2⟩)]
theorem der_PS (c : Ce) : derP s c = derS s c := by
  unfold derP derS
  rw [vc_PR hv]
  cases h : vcR s c with
  | false => rfl
  | true => rw [if_pos rfl, if_pos rfl, derM_N hv, der_len hv h]
theorem derN_rd : ∀ (k : Nat) (c : Ce), vcR s c = true → (c.t = 0 → endsN s k c.n = true) → (derN s k c).t = 0 → cellAt s (derN s k c).n = derN s k c
  | 0, c, hc, he, h0 => by cases he h0
  | k + 1, c, hc, he, h0 => by
    unfold derN at h0 ⊢
    by_cases h : c.t = 0 ∧ inS s c.n = true ∧ cellAt s c.n ≠ c
    · rw [if_pos h] at h0 ⊢
      refine derN_rd k _ (vr_vc hv h.2.1 (vc_ref hc h.1).2) (fun ht => ?_) h0
      have hn : Ns s c.n := ⟨(tagS_in h.2.1).trans ht, fun q => h.2.2 (Ce.ext' (ht.trans h.1.symm) q)⟩
      have := he h.1
      rwa [endsN_ns hn] at this
    · rw [if_neg h] at h0 ⊢
      exact Classical.byContradiction fun q => h ⟨h0, (vc_ref hc h0).1, q⟩
end
def rdB (s : So) (x : Ce) : Bool := vcR s x && (!decide (x.t = 0) || decide (cellAt s x.n = x))
def rd0 (s : So) (x : Ce) : Bool := rdB s x || decide (x = ⟨0, 0⟩)
theorem rdB_iff {s : So} {x : Ce} : rdB s x = true ↔ vcR s x = true ∧ (x.t = 0 → cellAt s x.n = x) := by
  simp only [rdB, Bool.and_eq_true, Bool.or_eq_true, Bool.not_eq_true', decide_eq_false_iff_not, decide_eq_true_eq]
  constructor
  · rintro ⟨h1, h2⟩
    exact ⟨h1, fun h => h2.resolve_left (fun q => q h)⟩
  · rintro ⟨h1, h2⟩
    refine ⟨h1, ?_⟩
    by_cases h : x.t = 0
    · exact .inr (h2 h)
    · exact .inl h
theorem rd0_iff {s : So} {x : Ce} : rd0 s x = true ↔ rdB s x = true ∨ x = ⟨0, 0⟩ := by
  simp only [rd0, Bool.or_eq_true, decide_eq_true_eq]
theorem rd0_t {s : So} {x : Ce} (h : rd0 s x = true) (ht : x.t ≠ 0) : rdB s x = true := by
  rcases rd0_iff.1 h with h | h
  · exact h
  · subst h
    exact (ht rfl).elim
section
variable {s : So} (hv : validR s = true)
include hv
theorem derS_rd (c : Ce) : rd0 s (derS s c) = true := by
  rw [rd0_iff]
  cases h : vcR s c with
  | false =>
    right
    unfold derS
    rw [if_neg (by rw [h]; decide)]
  | true =>
    left
    refine rdB_iff.2 ⟨derS_vc hv h, ?_⟩
    unfold derS
    rw [if_pos h]
    exact derN_rd hv _ _ h fun h0 => vr_ends hv (vc_ref h h0).1
theorem rd_der {x : Ce} (h : rdB s x = true) : derS s x = x := by
  obtain ⟨h1, h2⟩ := rdB_iff.1 h
  unfold derS
  rw [if_pos h1]
  unfold derN
  rw [if_neg (fun q => q.2.2 (h2 q.1))]
theorem att_cell {x : Ce} (h : vcR s x = true) (h5 : x.t = 5) : inS s x.n = true ∧ cellAt s x.n = x ∧ groupS s x.n = true ∧ inS s (x.n + 2) = true := by
  unfold vcR at h
  rw [if_neg (by omega), if_neg (by omega), if_neg (by omega), if_neg (by omega), if_pos h5] at h
  have ht : tagS s x.n = 5 := of_decide_eq_true h
  have hi := tag_in' (by decide) ht
  rw [tagS_in hi] at ht
  have hc := vr_cell hv hi
  unfold cellR at hc
  rw [if_neg (by omega)] at hc
  simp only [Bool.and_eq_true, Bool.or_eq_true, Bool.not_eq_true', decide_eq_false_iff_not, decide_eq_true_eq] at hc
  obtain ⟨hn, hg⟩ : (cellAt s x.n).n = x.n ∧ groupS s x.n = true := by
    rcases hc.2.2 with q | q
    · exact (q ht).elim
    · exact q
  refine ⟨hi, Ce.ext' (ht.trans h5.symm) hn, hg, ?_⟩
  simp only [groupS, Bool.and_eq_true, decide_eq_true_eq] at hg
  exact tag_nn hg.2.2.2.1
theorem sett_PR {a : Int} (hi : inS s a = true) : settP s a = settR s a := by
  unfold settP settR
  have hc := vr_cell hv hi
  unfold cellR at hc
  by_cases h0 : (cellAt s a).t = 0
  · rw [if_pos h0, if_pos (.inl h0)]
  rw [if_neg h0]
  by_cases h5 : (cellAt s a).t = 5
  · rw [if_pos h5, if_pos (.inr h5)]
    rw [if_neg (by omega)] at hc
    simp only [Bool.and_eq_true, Bool.or_eq_true, Bool.not_eq_true', decide_eq_false_iff_not, decide_eq_true_eq] at hc
    rcases hc.2.2 with q | q
    · exact (q h5).elim
    · simp [q.1]
  have hR : ¬ ((cellAt s a).t = 0 ∨ (cellAt s a).t = 5) := by omega
  rw [if_neg h5, if_neg hR]
  by_cases h4 : (cellAt s a).t = 4
  · have hL : ¬ ((cellAt s a).t = 1 ∨ (cellAt s a).t = 2 ∨ (cellAt s a).t = 3) := by omega
    rw [if_neg hL]
    simp [h4]
  · rw [if_neg h4] at hc
    simp only [Bool.and_eq_true] at hc
    rcases vc_tag hc.1 with q | q | q | q | q
    · exact (h0 q).elim
    · rw [if_pos (.inl q)]
      simp [q]
    · rw [if_pos (.inr (.inl q))]
      simp [q]
    · rw [if_pos (.inr (.inr q))]
      simp [q]
    · exact (h5 q).elim
theorem setOk_PR (a : Int) (c : Ce) : setOk vcR settR s a c = setOk vcP settP s a c := by
  unfold setOk
  rw [vc_PR hv]
  cases hi : inS s a with
  | false => rfl
  | true => rw [sett_PR hv hi]
theorem sets_of {a : Int} {c : Ce} (h : setOk vcP settP s a c = true) (ht : (cellAt s a).t = 0 ∨ (cellAt s a).t = 5) : Sets s a c := by
  simp only [setOk, Bool.and_eq_true, Bool.not_eq_true'] at h
  obtain ⟨h1, h2, h3, h4⟩ := h
  rw [vc_PR hv] at h2
  refine ⟨hv, h1, ?_, h2, h4⟩
  rcases ht with ht | ht
  · unfold settP at h3
    rw [if_pos ht] at h3
    exact .inl ⟨ht, of_decide_eq_true h3⟩
  · exact .inr ht
theorem rd_sets {x c : Ce} (hx : rd0 s x = true) (h0 : x.t = 0) (h : setOk vcP settP s x.n c = true) : Sets s x.n c := by
  refine sets_of hv h ?_
  rcases rd0_iff.1 hx with hx | hx
  · have := (rdB_iff.1 hx).2 h0
    rw [this]
    exact .inl h0
  · subst hx
    simp only [setOk, Bool.and_eq_true] at h
    have h3 := h.2.2.1
    unfold settP behind at h3
    by_cases h0 : (cellAt s 0).t = 0
    · exact .inl h0
    by_cases h5 : (cellAt s 0).t = 5
    · exact .inr h5
    · simp [h0, h5] at h3
theorem att_set {x c : Ce} (hx : vcR s x = true) (h5 : x.t = 5) (hc : vcR s c = true) (hc0 : c.t ≠ 0) (hne : c ≠ x) : setOk vcP settP s x.n c = true := by
  obtain ⟨hi, hce, hg, h2⟩ := att_cell hv hx h5
  simp only [setOk, Bool.and_eq_true, Bool.not_eq_true', vc_PR hv]
  refine ⟨hi, hc, ?_, ?_⟩
  · unfold settP
    rw [hce, if_neg (by omega), if_pos h5]
  · unfold comesB comesN keptC
    by_cases hc5 : c.t = 5
    · obtain ⟨hi', hce', -, -⟩ := att_cell hv hc hc5
      have hn : ¬ c.n = x.n := fun e => hne (by rw [← hce', e, hce])
      rw [if_pos hc5, if_pos ⟨rfl, hi'⟩]
      show (if c.n = x.n then true else comesN s x.n s.cs.length (cellAt s c.n)) = false
      rw [if_neg hn, hce']
      cases s.cs.length with
      | zero => rfl
      | succ k =>
        unfold comesN
        rw [if_neg (fun q => by omega)]
    · rw [if_neg hc5, if_neg (fun q => hc0 q.1)]
theorem var_att {x : Ce} (hx : vcR s x = true) (h5 : x.t = 5) : varP s x = (x, true) := by
  obtain ⟨hi, hce, hg, h2⟩ := att_cell hv hx h5
  have hd : derP s x = x := by
    rw [der_PS hv]
    exact rd_der hv (rdB_iff.2 ⟨hx, fun q => by omega⟩)
  unfold varP
  rw [vc_PR hv, hx, if_neg (by decide), hd, if_neg (by omega), if_pos h5, hi, h2]
  rfl
theorem abnd_eq {x y : Ce} (hx : vcR s x = true) (h5 : x.t = 5) (hy : rdB s y = true) (hy0 : y.t ≠ 0) (hne : y ≠ x) : abndP s x y = if y.t ≠ 5 ∨ older s x y then bndP s x y else bndP s y x := by
  have hyv := (rdB_iff.1 hy).1
  have hd : derP s y = y := by
    rw [der_PS hv]
    exact rd_der hv hy
  unfold abndP
  rw [var_att hv hx h5, hd, vc_PR hv, hyv, if_neg (by simp [h5]), if_neg hne, if_neg hy0]
  by_cases hy5 : y.t = 5
  · obtain ⟨hi, hce, hg, h2⟩ := att_cell hv hyv hy5
    rw [if_neg (fun q => q hy5), hi, h2, if_neg (by simp)]
    by_cases ho : older s x y
    · rw [if_pos ho, if_pos (.inr ho)]
    · rw [if_neg ho, if_neg (fun q => q.elim (fun q => q hy5) ho)]
  · rw [if_pos hy5, if_pos (.inl hy5)]
theorem bnd_eq {x c : Ce} (hx : vcR s x = true) (h5 : x.t = 5) (hc : vcR s c = true) (hc0 : c.t ≠ 0) (hne : c ≠ x) : bndP s x c = (0, { setS s x.n c with wk := s.wk ++ [wkO s x c] }) := by
  unfold bndP
  rw [if_pos (att_set hv hx h5 hc hc0 hne)]
theorem bnd_good (hk : keptB s = true) {x c : Ce} (hx : vcR s x = true) (h5 : x.t = 5) (hc : vcR s c = true) (hc0 : c.t ≠ 0) (hne : c ≠ x) : goodB (bndP s x c).2 = true := by
  obtain ⟨hi, hce, hg, h2⟩ := att_cell hv hx h5
  have hS := sets_of hv (att_set hv hx h5 hc hc0 hne) (.inr (by rw [hce]; exact h5))
  rw [bnd_eq hv hx h5 hc hc0 hne]
  simp only [groupS, Bool.and_eq_true, decide_eq_true_eq, Bool.not_eq_true', decide_eq_false_iff_not] at hg
  obtain ⟨g1, g2, g3, g4, g5, g6⟩ := hg
  rw [tagS_in h2] at g5 g6
  have hkc := kept_tag hc
  refine good_wk (s := setS s x.n c) (good_set hS hk) (w := wkO s x c) ⟨g6, by simp only [wkO]; omega⟩ (wk_set hS ⟨g6, by simp only [wkO]; omega⟩ ?_)
  simp only [wkB, wkO, Bool.and_eq_true, decide_eq_true_eq]
  exact ⟨decide_eq_true g2, decide_eq_true g3, vr_vc hv h2 g5, kept_vc hc⟩
theorem setP_good (hk : keptB s = true) {x c : Ce} (hx : rd0 s x = true) (h0 : x.t = 0) : goodB (setP s x.n c).2 = true := by
  unfold setP
  cases h : setOk vcP settP s x.n c with
  | false =>
    rw [if_neg (by decide)]
    simp [goodB, hk, hv]
  | true =>
    rw [if_pos rfl]
    exact good_set (rd_sets hv hx h0 h) hk
theorem abnd_good (hk : keptB s = true) {x y : Ce} (hx : rdB s x = true) (h5 : x.t = 5) (hy : rdB s y = true) (hy0 : y.t ≠ 0) (hne : y ≠ x) : goodB (abndP s x y).2 = true := by
  have hxv := (rdB_iff.1 hx).1
  have hyv := (rdB_iff.1 hy).1
  rw [abnd_eq hv hxv h5 hy hy0 hne]
  split
  · exact bnd_good hv hk hxv h5 hyv hy0 hne
  · rename_i q
    have hy5 : y.t = 5 := Classical.byContradiction fun e => q (.inl e)
    exact bnd_good hv hk hyv hy5 hxv (by omega) (Ne.symm hne)
theorem abnd_zero {x y : Ce} (hx : rdB s x = true) (h5 : x.t = 5) (hy : rdB s y = true) (hy0 : y.t ≠ 0) (hne : y ≠ x) : (abndP s x y).1 = 0 := by
  have hxv := (rdB_iff.1 hx).1
  have hyv := (rdB_iff.1 hy).1
  rw [abnd_eq hv hxv h5 hy hy0 hne]
  split
  · rw [bnd_eq hv hxv h5 hyv hy0 hne]
  · rename_i q
    have hy5 : y.t = 5 := Classical.byContradiction fun e => q (.inl e)
    rw [bnd_eq hv hyv hy5 hxv (by omega) (Ne.symm hne)]
theorem bind_good (hk : keptB s = true) {x y : Ce} (hx : rd0 s x = true) (hy : rd0 s y = true) (hne : x ≠ y) : goodB (bindP s x y).2 = true := by
  unfold bindP okI
  by_cases h1 : y.t = 0 ∧ (x.t ≠ 0 ∨ x.n < y.n)
  · rw [if_pos h1]
    exact setP_good hv hk hy h1.1
  rw [if_neg h1]
  by_cases hx0 : x.t = 0
  · rw [if_pos hx0]
    exact setP_good hv hk hx hx0
  have hy0 : y.t ≠ 0 := fun e => h1 ⟨e, .inl hx0⟩
  rw [if_neg hx0]
  by_cases hx5 : x.t = 5
  · rw [if_pos hx5]
    exact abnd_good hv hk (rd0_t hx hx0) hx5 (rd0_t hy hy0) hy0 (Ne.symm hne)
  rw [if_neg hx5]
  by_cases hy5 : y.t = 5
  · rw [if_pos hy5]
    exact abnd_good hv hk (rd0_t hy hy0) hy5 (rd0_t hx hx0) hx0 hne
  · rw [if_neg hy5]
    simp [goodB, hk, hv]
theorem bind_swap {x y : Ce} (hx : rd0 s x = true) (hy : rd0 s y = true) (hne : x ≠ y) : bindP s x y = bindP s y x := by
  unfold bindP
  by_cases hx0 : x.t = 0
  · by_cases hy0 : y.t = 0
    · have hn : x.n ≠ y.n := fun e => hne (Ce.ext' (hx0.trans hy0.symm) e)
      by_cases hlt : x.n < y.n
      · have e1 : y.t = 0 ∧ (x.t ≠ 0 ∨ x.n < y.n) := ⟨hy0, .inr hlt⟩
        have e2 : ¬ (x.t = 0 ∧ (y.t ≠ 0 ∨ y.n < x.n)) := by rintro ⟨-, q | q⟩ <;> omega
        rw [if_pos e1, if_neg e2, if_pos hy0]
      · have e1 : ¬ (y.t = 0 ∧ (x.t ≠ 0 ∨ x.n < y.n)) := by rintro ⟨-, q | q⟩ <;> omega
        have e2 : x.t = 0 ∧ (y.t ≠ 0 ∨ y.n < x.n) := ⟨hx0, .inr (by omega)⟩
        rw [if_neg e1, if_pos hx0, if_pos e2]
    · have e1 : ¬ (y.t = 0 ∧ (x.t ≠ 0 ∨ x.n < y.n)) := fun q => hy0 q.1
      have e2 : x.t = 0 ∧ (y.t ≠ 0 ∨ y.n < x.n) := ⟨hx0, .inl hy0⟩
      rw [if_neg e1, if_pos hx0, if_pos e2]
  · have e2 : ¬ (x.t = 0 ∧ (y.t ≠ 0 ∨ y.n < x.n)) := fun q => hx0 q.1
    by_cases hy0 : y.t = 0
    · have e1 : y.t = 0 ∧ (x.t ≠ 0 ∨ x.n < y.n) := ⟨hy0, .inl hx0⟩
      rw [if_pos e1, if_neg e2, if_pos hy0]
    · have e1 : ¬ (y.t = 0 ∧ (x.t ≠ 0 ∨ x.n < y.n)) := fun q => hy0 q.1
      rw [if_neg e1, if_neg hx0, if_neg e2, if_neg hy0]
      by_cases hx5 : x.t = 5
      · rw [if_pos hx5]
        by_cases hy5 : y.t = 5
        · rw [if_pos hy5]
          have hxr := rd0_t hx hx0
          have hyr := rd0_t hy hy0
          have hxv := (rdB_iff.1 hxr).1
          have hyv := (rdB_iff.1 hyr).1
          rw [abnd_eq hv hxv hx5 hyr hy0 (Ne.symm hne), abnd_eq hv hyv hy5 hxr hx0 hne]
          have hn : x.n ≠ y.n := fun e => hne (Ce.ext' (hx5.trans hy5.symm) e)
          by_cases ho : older s x y
          · have ho' : ¬ older s y x := by
              unfold older at ho ⊢
              omega
            have f1 : y.t ≠ 5 ∨ older s x y := .inr ho
            have f2 : ¬ (x.t ≠ 5 ∨ older s y x) := fun q => q.elim (fun q => q hx5) ho'
            rw [if_pos f1, if_neg f2]
          · have ho' : older s y x := by
              unfold older at ho ⊢
              omega
            have f1 : ¬ (y.t ≠ 5 ∨ older s x y) := fun q => q.elim (fun q => q hy5) ho
            have f2 : x.t ≠ 5 ∨ older s y x := .inr ho'
            rw [if_neg f1, if_pos f2]
        · rw [if_neg hy5, if_pos hx5]
      · rw [if_neg hx5]
        by_cases hy5 : y.t = 5
        · rw [if_pos hy5, if_pos hy5]
        · rw [if_neg hy5, if_neg hy5, if_neg hx5]
end

def swp (l : List (Ce × Ce)) : List (Ce × Ce) := l.map fun p => (p.2, p.1)
theorem swp_zip (A B : List Ce) : swp (A.zip B) = B.zip A := by
  unfold swp
  induction A generalizing B with
  | nil => simp
  | cons a A ih =>
    cases B with
    | nil => simp
    | cons b B => simp [ih]
theorem run_swap : ∀ (k : Nat) (s : So) (l : List (Ce × Ce)), goodB s = true → runU (progO bindP) k s (swp l) = runU (progO bindP) k s l
  | 0, s, [], h => rfl
  | 0, s, _ :: _, h => rfl
  | k + 1, s, [], h => rfl
  | k + 1, s, p :: l, h => by
    have h' := h
    unfold goodB at h'
    rw [Bool.and_eq_true] at h'
    have hO1 : (progO bindP).der = derP := rfl
    have hO2 : (progO bindP).meet = bindP := rfl
    have hO3 : (progO bindP).sym = symP := rfl
    have hO4 : (progO bindP).args = fun s x y => (argP s x).zip (argP s y) := rfl
    show runU (progO bindP) (k + 1) s ((p.2, p.1) :: swp l) = _
    rw [runU, runU, hO1, hO2, hO3, hO4]
    have h1 : rd0 s (derP s p.1) = true := by rw [der_PS h'.2]; exact derS_rd h'.2 _
    have h2 : rd0 s (derP s p.2) = true := by rw [der_PS h'.2]; exact derS_rd h'.2 _
    show (if derP s p.2 = derP s p.1 then _ else _) = _
    generalize derP s p.1 = x at h1 ⊢
    generalize derP s p.2 = y at h2 ⊢
    by_cases hne : x = y
    · rw [if_pos hne, if_pos hne.symm]
      exact run_swap k s l h
    rw [if_neg hne, if_neg (Ne.symm hne)]
    have hg := bind_good h'.2 h'.1 h1 h2 hne
    rw [bind_swap h'.2 h2 h1 (Ne.symm hne)]
    generalize bindP s x y = m at hg ⊢
    cases hm : m.1 with
    | true =>
      rw [if_pos rfl, if_pos rfl]
      exact run_swap k _ l hg
    | false =>
      rw [if_neg Bool.false_ne_true, if_neg Bool.false_ne_true]
      by_cases hs : symP m.2 x < 0 ∨ symP m.2 x ≠ symP m.2 y
      · rw [if_pos hs, if_pos (by rcases hs with q | q <;> omega)]
      · rw [if_neg hs, if_neg (by omega)]
        have := run_swap k m.2 ((argP m.2 x).zip (argP m.2 y) ++ l) hg
        rw [← this]
        congr 1
        simp only [swp, List.map_append]
        congr 1
        exact (swp_zip _ _).symm
end Go.Proofs.Ytaoamndcdjelnaa


namespace Go.Proofs.Ytaoamndcdjelnaa
open Go.RowKit
set_option linter.unusedVariables false
set_option linter.unusedSimpArgs false
set_option maxRecDepth 100000

theorem set_R {s : So} (hv : validR s = true) (h : s.tr.length < 5864062014634) (a : Int) (c : Ce) : gSet vcR settR [eS s, .i a, eC c] = some [.i (setP s a c).1, eS (setP s a c).2] := by
  simp only [gSet, dS_eS, dC_eC, int_i, setP, setOk_PR hv]
  cases setOk vcP settP s a c <;> simp [h]
def gRBnd : List D → Option (List D)
  | [s, a, c] => if validR (dS s) && (roomS (dS s) && (inS (dS s) a.int && inS (dS s) (a.int + 2))) then some [eS { (setP (dS s) a.int (dC c)).2 with wk := (dS s).wk ++ [wkO (dS s) ⟨5, a.int⟩ (dC c)] }] else none
  | _ => none
theorem setP_wk (s : So) (a : Int) (c : Ce) : (setP s a c).2.wk = s.wk := by
  unfold setP
  split <;> rfl
theorem ok_ref32_bind : FOk q1v gRBnd := fok_ref32_bind ok_ref30_Kept ok_ref31_Set fun ds outs hw hg => by
  obtain ⟨d, r, rfl, hd, e, r', rfl, he, f, r2, rfl, hf, rfl⟩ := hw
  obtain ⟨s, rfl, hs⟩ := wfS hd
  obtain ⟨a, rfl, ha⟩ := wfI he
  obtain ⟨c, rfl, hc⟩ := wfC hf
  simp only [gRBnd, dS_eS, dC_eC, int_i, Option.ite_none_right_eq_some, Option.some.injEq] at hg
  obtain ⟨hq, rfl⟩ := hg
  simp only [Bool.and_eq_true] at hq
  obtain ⟨hv, hr, hi, hi2⟩ := hq
  obtain ⟨hr1, hr2⟩ := room_iff.1 hr
  have hl := hs.cs.1
  have h1 := inS_iff.1 hi
  have h2 := inS_iff.1 hi2
  have hi1 : inS s (a + 1) = true := inS_iff.2 ⟨by omega, by omega⟩
  have hset := set_R hv hr1 a c
  have hwk := setP_wk s a c
  generalize setP s a c = S at hset hwk ⊢
  simp only [q3k, q00, go_br, q01, q02, allSay, X.says, X.ev, X.evs, evl, tblS, List.getD_cons_zero, List.getD_cons_succ, List.getElem?_cons_zero, List.getElem?_cons_succ, tt_b, int_i, str_s, rs_r, Option.isSome_some, Option.getD_some, decide_eq_true_eq, decide_eq_false_iff_not, dS_eS, dC_eC, dU_eU, dW_eW, dY_eY, eC_0, eC_1, eU_0, eU_1, eW_0, eW_1, eW_2, eY_0, eY_1, eS_0, eS_1, eS_2, eS_3, eS_4, eS_5, List.length_map, i_inj, b_inj, s_inj, eC_eq, eU_eq, eW_eq, eY_eq, eS_eq, rng64, List.take_succ_cons, List.take_zero, List.nil_append, List.cons_append, decide_true, decide_false, Bool.or_true, true_and, and_true, gKept, hset, cell_get hi1, cell_get hi2, hwk]
  refine ⟨⟨by omega, by omega, by omega, by omega, by omega, by omega⟩, by omega, ?_⟩
  have := wk_app S.2 (wkO s ⟨5, a⟩ c)
  rw [hwk] at this
  rw [← this]
  rfl
def gVarR : List D → Option (List D)
  | [s, c] => if validR (dS s) then some [eC (derS (dS s) (dC c)), .b (vcR (dS s) (dC c) && (decide ((derS (dS s) (dC c)).t = 0) || decide ((derS (dS s) (dC c)).t = 5)))] else none
  | _ => none
theorem ok_ref32_variable : FOk q16 gVarR := fok_ref32_variable q44 q11 fun ds outs hw hg => by
  obtain ⟨d, r, rfl, hd, e, r', rfl, he, rfl⟩ := hw
  obtain ⟨s, rfl, hs⟩ := wfS hd
  obtain ⟨c, rfl, hc⟩ := wfC he
  simp only [gVarR, dS_eS, dC_eC, Option.ite_none_right_eq_some, Option.some.injEq] at hg
  obtain ⟨hv, rfl⟩ := hg
  simp [q2m, q00, go_br, q01, q02, allSay, X.says, X.ev, X.evs, evl, tblS, List.getD_cons_zero, List.getD_cons_succ, List.getElem?_cons_zero, List.getElem?_cons_succ, tt_b, int_i, str_s, rs_r, Option.isSome_some, Option.getD_some, decide_eq_true_eq, decide_eq_false_iff_not, dS_eS, dC_eC, dU_eU, dW_eW, dY_eY, eC_0, eC_1, eU_0, eU_1, eW_0, eW_1, eW_2, eY_0, eY_1, eS_0, eS_1, eS_2, eS_3, eS_4, eS_5, List.length_map, i_inj, b_inj, s_inj, eC_eq, eU_eq, eW_eq, eY_eq, eS_eq, rng64, List.take_succ_cons, List.take_zero, List.nil_append, List.cons_append, decide_true, decide_false, Bool.or_true, true_and, and_true, gDer, gSCb, hv]
def bndQ2 (s : So) (x y : Ce) : Bool := validR s && (roomS s && (rdB s x && (decide (x.t = 5) && (rdB s y && (!decide (y.t = 0) && !decide (y = x))))))
def gRBind : List D → Option (List D)
  | [s, x, y] => if bndQ2 (dS s) (dC x) (dC y) then some [.i 0, eS (abndP (dS s) (dC x) (dC y)).2] else none
  | _ => none
theorem ok_ref32_Bind : FOk q1w gRBind := fok_ref32_Bind ok_ref32_variable q11 q44 ok_ref31_Set ok_ref32_bind fun ds outs hw hg => by
  obtain ⟨d, r, rfl, hd, e, r', rfl, he, f, r2, rfl, hf, rfl⟩ := hw
  obtain ⟨s, rfl, hs⟩ := wfS hd
  obtain ⟨x, rfl, hx⟩ := wfC he
  obtain ⟨y, rfl, hy⟩ := wfC hf
  simp only [gRBind, dS_eS, dC_eC, Option.ite_none_right_eq_some, Option.some.injEq] at hg
  obtain ⟨hq, rfl⟩ := hg
  simp only [bndQ2, Bool.and_eq_true, Bool.not_eq_true', decide_eq_true_eq, decide_eq_false_iff_not] at hq
  obtain ⟨hv, hr, hxr, hx5, hyr, hy0, hne⟩ := hq
  have hxv := (rdB_iff.1 hxr).1
  have hyv := (rdB_iff.1 hyr).1
  have hl := hs.cs.1
  obtain ⟨hxi, hxc, -, hxi2⟩ := att_cell hv hxv hx5
  have hx1 := inS_iff.1 hxi
  have hx2 := inS_iff.1 hxi2
  have hxi1 : inS s (x.n + 1) = true := inS_iff.2 ⟨by omega, by omega⟩
  have hV : gVarR [eS s, eC x] = some [eC x, .b true] := by
    simp only [gVarR, dS_eS, dC_eC]
    rw [if_pos hv, rd_der hv hxr, hxv, hx5]
    rfl
  have hD : gDer [eS s, eC y] = some [eC y] := by
    simp only [gDer, dS_eS, dC_eC]
    rw [if_pos hv, rd_der hv hyr]
  have hbx : ∀ c, gRBnd [eS s, .i x.n, eC c] = some [eS { (setP s x.n c).2 with wk := s.wk ++ [wkO s x c] }] := fun c => by
    simp only [gRBnd, dS_eS, dC_eC, int_i]
    rw [hv, hr, hxi, hxi2]
    rfl
  rw [abnd_eq hv hxv hx5 hyr hy0 hne]
  simp only [q3v, q00, go_br, q01, q02, allSay, X.says, X.ev, X.evs, evl, tblS, List.getD_cons_zero, List.getD_cons_succ, List.getElem?_cons_zero, List.getElem?_cons_succ, tt_b, int_i, str_s, rs_r, Option.isSome_some, Option.getD_some, decide_eq_true_eq, decide_eq_false_iff_not, dS_eS, dC_eC, dU_eU, dW_eW, dY_eY, eC_0, eC_1, eU_0, eU_1, eW_0, eW_1, eW_2, eY_0, eY_1, eS_0, eS_1, eS_2, eS_3, eS_4, eS_5, List.length_map, i_inj, b_inj, s_inj, eC_eq, eU_eq, eW_eq, eY_eq, eS_eq, rng64, List.take_succ_cons, List.take_zero, List.nil_append, List.cons_append, decide_true, decide_false, Bool.or_true, true_and, and_true, hV, hD, gSCb, hyv, hx5, hbx]
  by_cases hy5 : y.t = 5
  · obtain ⟨hyi, hyc, -, hyi2⟩ := att_cell hv hyv hy5
    have hy1 := inS_iff.1 hyi
    have hy2 := inS_iff.1 hyi2
    have hyi1 : inS s (y.n + 1) = true := inS_iff.2 ⟨by omega, by omega⟩
    have hby : ∀ c, gRBnd [eS s, .i y.n, eC c] = some [eS { (setP s y.n c).2 with wk := s.wk ++ [wkO s y c] }] := fun c => by
      simp only [gRBnd, dS_eS, dC_eC, int_i]
      rw [hv, hr, hyi, hyi2]
      rfl
    have hbe : ∀ {u v : Ce}, vcR s u = true → u.t = 5 → vcR s v = true → v.t ≠ 0 → v ≠ u → { (setP s u.n v).2 with wk := s.wk ++ [wkO s u v] } = (bndP s u v).2 := fun h1 h2 h3 h4 h5 => by
      rw [bnd_eq hv h1 h2 h3 h4 h5, setP, if_pos (att_set hv h1 h2 h3 h4 h5)]
    have e1 := hbe hxv hx5 hyv hy0 hne
    have e2 := hbe hyv hy5 hxv (by omega) (Ne.symm hne)
    simp only [q00, go_br, q01, q02, allSay, X.says, X.ev, X.evs, evl, tblS, List.getD_cons_zero, List.getD_cons_succ, List.getElem?_cons_zero, List.getElem?_cons_succ, tt_b, int_i, str_s, rs_r, Option.isSome_some, Option.getD_some, decide_eq_true_eq, decide_eq_false_iff_not, dS_eS, dC_eC, dU_eU, dW_eW, dY_eY, eC_0, eC_1, eU_0, eU_1, eW_0, eW_1, eW_2, eY_0, eY_1, eS_0, eS_1, eS_2, eS_3, eS_4, eS_5, List.length_map, i_inj, b_inj, s_inj, eC_eq, eU_eq, eW_eq, eY_eq, eS_eq, rng64, List.take_succ_cons, List.take_zero, List.nil_append, List.cons_append, decide_true, decide_false, Bool.or_true, true_and, and_true, hby, cell_get hxi1, cell_get hyi1, hy5, hne, e1, e2]
    have ho : (decide ((cellAt s (y.n + 1)).n < (cellAt s (x.n + 1)).n) || (decide ((cellAt s (x.n + 1)).n = (cellAt s (y.n + 1)).n) && decide (y.n < x.n))) = decide (older s x y) := by
      rw [Bool.eq_iff_iff]
      simp only [Bool.or_eq_true, Bool.and_eq_true, decide_eq_true_eq]
      rfl
    simp only [ho]
    by_cases hol : older s x y
    · simp [hol]
      repeat' apply And.intro
      all_goals first | omega | (simp only [rng64]; omega)
    · simp [hol, hy5]
      repeat' apply And.intro
      all_goals first | omega | (simp only [rng64]; omega)
  · have e1 : { (setP s x.n y).2 with wk := s.wk ++ [wkO s x y] } = (bndP s x y).2 := by
      rw [bnd_eq hv hxv hx5 hyv hy0 hne, setP, if_pos (att_set hv hxv hx5 hyv hy0 hne)]
    simp [hy5, hne, hy0, e1]
def bindQ (s : So) (x y : Ce) : Bool := validR s && (roomS s && (rd0 s x && (rd0 s y && !decide (x = y))))
def gRB : List D → Option (List D)
  | [s, x, y] => if bindQ (dS s) (dC x) (dC y) then some [.b (bindP (dS s) (dC x) (dC y)).1, eS (bindP (dS s) (dC x) (dC y)).2] else none
  | _ => none
theorem ok_ref33_bind : FOk q1x gRB := fok_ref33_bind ok_ref31_Set ok_ref32_Bind fun ds outs hw hg => by
  obtain ⟨d, r, rfl, hd, e, r', rfl, he, f, r2, rfl, hf, rfl⟩ := hw
  obtain ⟨s, rfl, hs⟩ := wfS hd
  obtain ⟨x, rfl, hx⟩ := wfC he
  obtain ⟨y, rfl, hy⟩ := wfC hf
  simp only [gRB, dS_eS, dC_eC, Option.ite_none_right_eq_some, Option.some.injEq] at hg
  obtain ⟨hq, rfl⟩ := hg
  simp only [bindQ, Bool.and_eq_true, Bool.not_eq_true', decide_eq_false_iff_not] at hq
  obtain ⟨hv, hr, hxr, hyr, hne⟩ := hq
  obtain ⟨hr1, hr2⟩ := room_iff.1 hr
  have hset := set_R hv hr1
  have hab : ∀ {u v : Ce}, rdB s u = true → u.t = 5 → rdB s v = true → v.t ≠ 0 → v ≠ u → gRBind [eS s, eC u, eC v] = some [.i (abndP s u v).1, eS (abndP s u v).2] := fun h1 h2 h3 h4 h5 => by
    simp only [gRBind, dS_eS, dC_eC]
    rw [if_pos, abnd_zero hv h1 h2 h3 h4 h5]
    simp [bndQ2, hv, hr, h1, h2, h3, h4, h5]
  unfold bindP okI
  simp only [q3q, q00, go_br, q01, q02, allSay, X.says, X.ev, X.evs, evl, tblS, List.getD_cons_zero, List.getD_cons_succ, List.getElem?_cons_zero, List.getElem?_cons_succ, tt_b, int_i, str_s, rs_r, Option.isSome_some, Option.getD_some, decide_eq_true_eq, decide_eq_false_iff_not, dS_eS, dC_eC, dU_eU, dW_eW, dY_eY, eC_0, eC_1, eU_0, eU_1, eW_0, eW_1, eW_2, eY_0, eY_1, eS_0, eS_1, eS_2, eS_3, eS_4, eS_5, List.length_map, i_inj, b_inj, s_inj, eC_eq, eU_eq, eW_eq, eY_eq, eS_eq, rng64, List.take_succ_cons, List.take_zero, List.nil_append, List.cons_append, decide_true, decide_false, Bool.or_true, true_and, and_true, hset]
  by_cases hx0 : x.t = 0
  · by_cases hy0 : y.t = 0
    · have hn : x.n ≠ y.n := fun e => hne (Ce.ext' (hx0.trans hy0.symm) e)
      by_cases hlt : y.n < x.n
      · have e1 : ¬ (y.t = 0 ∧ (x.t ≠ 0 ∨ x.n < y.n)) := by rintro ⟨-, q | q⟩ <;> omega
        rw [if_neg e1, if_pos hx0]
        simp [hx0, hy0, hlt]
      · have e1 : y.t = 0 ∧ (x.t ≠ 0 ∨ x.n < y.n) := ⟨hy0, .inr (by omega)⟩
        rw [if_pos e1]
        simp [hx0, hy0, hlt]
    · have e1 : ¬ (y.t = 0 ∧ (x.t ≠ 0 ∨ x.n < y.n)) := fun q => hy0 q.1
      rw [if_neg e1, if_pos hx0]
      simp [hx0, hy0]
  · by_cases hy0 : y.t = 0
    · have e1 : y.t = 0 ∧ (x.t ≠ 0 ∨ x.n < y.n) := ⟨hy0, .inl hx0⟩
      rw [if_pos e1]
      simp [hx0, hy0]
    · have e1 : ¬ (y.t = 0 ∧ (x.t ≠ 0 ∨ x.n < y.n)) := fun q => hy0 q.1
      rw [if_neg e1, if_neg hx0]
      by_cases hx5 : x.t = 5
      · rw [if_pos hx5]
        simp [hx0, hy0, hx5, hab (rd0_t hxr hx0) hx5 (rd0_t hyr hy0) hy0 (Ne.symm hne)]
      · rw [if_neg hx5]
        by_cases hy5 : y.t = 5
        · rw [if_pos hy5]
          simp [hx0, hy0, hx5, hy5, hab (rd0_t hyr hy0) hy5 (rd0_t hxr hx0) hx0 hne]
        · rw [if_neg hy5]
          simp [hx0, hy0, hx5, hy5]
theorem arg_valid {s : So} (hv : validR s = true) {x : Ce} (h : ¬ symP s x < 0) : (argP s x).length = (arS s (symP s x)).toNat ∧ 1 ≤ arS s (symP s x) ∧ arS s (symP s x) ≤ 8 ∧ 0 ≤ x.n ∧ x.n + arS s (symP s x) < s.cs.length ∧ ∀ j : Nat, j < (argP s x).length → (argP s x).getD j default = cellAt s (x.n + 1 + j) := by
  obtain ⟨h3, hi, h4, he⟩ := symP_in h
  obtain ⟨g1, g2, g3⟩ := vr_fun hv hi h4
  rw [← he] at g1 g2 g3
  obtain ⟨r1, r2, r3⟩ := ar_rng (s := s) (n := symP s x) (by omega)
  have hn := inS_iff.1 hi
  have hl := vr_len hv
  have hlast := inS_iff.1 (g3 ((arS s (symP s x)).toNat - 1) (by omega)).1
  have hto : toP s x = x.n + 1 + arS s (symP s x) := by
    unfold toP
    rw [← r3]
    exact wrap_in (by simp only [rng64]; omega)
  have hmin : minP s x = x.n + 1 + arS s (symP s x) := by
    unfold minP
    rw [hto, if_neg (by omega)]
  have hA : argP s x = (s.cs.take (minP s x).toNat).drop (x.n + 1).toNat := by
    unfold argP
    rw [if_neg (by omega), if_neg (by rw [hmin]; omega)]
  have hlen : (argP s x).length = (arS s (symP s x)).toNat := by
    rw [hA, hmin, List.length_drop, List.length_take]
    omega
  refine ⟨hlen, g1, g2, by omega, by omega, fun j hj => ?_⟩
  rw [hlen] at hj
  rw [hA, hmin, List.getD_eq_getElem?_getD, List.getElem?_drop, List.getElem?_take, if_pos (by omega), ← List.getD_eq_getElem?_getD]
  unfold cellAt
  congr 1
  omega
def gRArgs : List D → Option (List D)
  | [s, x, y] => if validR (dS s) && (!decide (symP (dS s) (dC x) < 0) && decide (symP (dS s) (dC x) = symP (dS s) (dC y))) then some [.r (((argP (dS s) (dC x)).zip (argP (dS s) (dC y))).reverse.map eP)] else none
  | _ => none
theorem ok_ref33_arguments : FOk q10 gRArgs := fok_ref33_arguments ok_ref33_functor fun ds outs hw hg => by
  obtain ⟨d, r, rfl, hd, e, r', rfl, he, f, r2, rfl, hf, rfl⟩ := hw
  obtain ⟨s, rfl, hs⟩ := wfS hd
  obtain ⟨x, rfl, hx⟩ := wfC he
  obtain ⟨y, rfl, hy⟩ := wfC hf
  simp only [gRArgs, dS_eS, dC_eC, Option.ite_none_right_eq_some, Option.some.injEq] at hg
  obtain ⟨hq, rfl⟩ := hg
  simp only [Bool.and_eq_true, Bool.not_eq_true', decide_eq_false_iff_not, decide_eq_true_eq] at hq
  obtain ⟨hv, hx0, hxy⟩ := hq
  obtain ⟨a1, a2, a3, a4, a5, a6⟩ := arg_valid hv hx0
  obtain ⟨b1, b2, b3, b4, b5, b6⟩ := arg_valid hv (x := y) (by rw [← hxy]; exact hx0)
  rw [← hxy] at b1 b2 b3 b5
  obtain ⟨r1, r2, r3⟩ := ar_rng (s := s) (n := symP s x) (by omega)
  have hl := vr_len hv
  have hgy : (D.r (s.ys.map eY)).get (symP s x) = eY (s.ys.getD (symP s x).toNat default) := get_r eY (by omega) (by omega)
  simp only [q2e, q00, go_br, q01, q02, allSay, X.says, X.ev, X.evs, evl, tblS, List.getD_cons_zero, List.getD_cons_succ, List.getElem?_cons_zero, List.getElem?_cons_succ, tt_b, int_i, str_s, rs_r, Option.isSome_some, Option.getD_some, decide_eq_true_eq, decide_eq_false_iff_not, dS_eS, dC_eC, dU_eU, dW_eW, dY_eY, eC_0, eC_1, eU_0, eU_1, eW_0, eW_1, eW_2, eY_0, eY_1, eS_0, eS_1, eS_2, eS_3, eS_4, eS_5, List.length_map, i_inj, b_inj, s_inj, eC_eq, eU_eq, eW_eq, eY_eq, eS_eq, rng64, List.take_succ_cons, List.take_zero, List.nil_append, List.cons_append, decide_true, decide_false, Bool.or_true, true_and, and_true, gSymP]
  have hc : (decide (0 ≤ symP s x) && decide (symP s x < (s.ys.length : Int))) = true := by simp; omega
  simp only [hc]
  refine ⟨fun _ => ⟨⟨r1, r2⟩, ?_⟩, fun h => by cases h⟩
  generalize hZ : (argP s x).zip (argP s y) = Z
  have hZl : Z.length = (arS s (symP s x)).toNat := by
    rw [← hZ, List.length_zip]
    omega
  rw [go_loop]
  refine ⟨fun st => ∃ i : Nat, i ≤ Z.length ∧ st = [.r ((Z.drop i).reverse.map eP), .i i], fun st => (st.getD 1 .u).int.toNat, ⟨Z.length, Nat.le_refl _, ?_⟩, ?_⟩
  · simp only [q00, go_br, q01, q02, allSay, X.says, X.ev, X.evs, evl, tblS, List.getD_cons_zero, List.getD_cons_succ, List.getElem?_cons_zero, List.getElem?_cons_succ, tt_b, int_i, str_s, rs_r, Option.isSome_some, Option.getD_some, decide_eq_true_eq, decide_eq_false_iff_not, dS_eS, dC_eC, dU_eU, dW_eW, dY_eY, eC_0, eC_1, eU_0, eU_1, eW_0, eW_1, eW_2, eY_0, eY_1, eS_0, eS_1, eS_2, eS_3, eS_4, eS_5, List.length_map, i_inj, b_inj, s_inj, eC_eq, eU_eq, eW_eq, eY_eq, eS_eq, rng64, List.take_succ_cons, List.take_zero, List.nil_append, List.cons_append, decide_true, decide_false, Bool.or_true, true_and, and_true, gSymP, hgy, eY_1, ← r3, hZl]
    have : (((arS s (symP s x)).toNat : Nat) : Int) = arS s (symP s x) := by omega
    rw [this, ← hZl]
    simp
  rintro st - ⟨i, hi, rfl⟩
  rw [go_br]
  refine ⟨fun hlt => ?_, fun hlt => ?_⟩
  · simp only [q00, go_br, q01, q02, allSay, X.says, X.ev, X.evs, evl, tblS, List.getD_cons_zero, List.getD_cons_succ, List.getElem?_cons_zero, List.getElem?_cons_succ, tt_b, int_i, str_s, rs_r, Option.isSome_some, Option.getD_some, decide_eq_true_eq, decide_eq_false_iff_not, dS_eS, dC_eC, dU_eU, dW_eW, dY_eY, eC_0, eC_1, eU_0, eU_1, eW_0, eW_1, eW_2, eY_0, eY_1, eS_0, eS_1, eS_2, eS_3, eS_4, eS_5, List.length_map, i_inj, b_inj, s_inj, eC_eq, eU_eq, eW_eq, eY_eq, eS_eq, rng64, List.take_succ_cons, List.take_zero, List.nil_append, List.cons_append, decide_true, decide_false, Bool.or_true, true_and, and_true] at hlt
    obtain ⟨j, rfl⟩ : ∃ j, i = j + 1 := ⟨i - 1, by omega⟩
    have hxi : inS s (x.n + ((j + 1 : Nat) : Int)) = true := inS_iff.2 ⟨by omega, by omega⟩
    have hyi : inS s (y.n + ((j + 1 : Nat) : Int)) = true := inS_iff.2 ⟨by omega, by omega⟩
    have c1 := inS_iff.1 hxi
    have c2 := inS_iff.1 hyi
    have ex : cellAt s (x.n + ((j + 1 : Nat) : Int)) = (argP s x).getD j default := by
      rw [a6 j (by omega)]
      congr 1
      omega
    have ey : cellAt s (y.n + ((j + 1 : Nat) : Int)) = (argP s y).getD j default := by
      rw [b6 j (by omega)]
      congr 1
      omega
    have hcc : (decide (x.n + ((j + 1 : Nat) : Int) < (s.cs.length : Int)) && decide (y.n + ((j + 1 : Nat) : Int) < (s.cs.length : Int))) = true := by simp; omega
    have hlz : ((Z.drop (j + 1)).reverse.map eP).length ≤ 8 := by
      simp
      omega
    simp only [q00, go_br, q01, q02, allSay, X.says, X.ev, X.evs, evl, tblS, List.getD_cons_zero, List.getD_cons_succ, List.getElem?_cons_zero, List.getElem?_cons_succ, tt_b, int_i, str_s, rs_r, Option.isSome_some, Option.getD_some, decide_eq_true_eq, decide_eq_false_iff_not, dS_eS, dC_eC, dU_eU, dW_eW, dY_eY, eC_0, eC_1, eU_0, eU_1, eW_0, eW_1, eW_2, eY_0, eY_1, eS_0, eS_1, eS_2, eS_3, eS_4, eS_5, List.length_map, i_inj, b_inj, s_inj, eC_eq, eU_eq, eW_eq, eY_eq, eS_eq, rng64, List.take_succ_cons, List.take_zero, List.nil_append, List.cons_append, decide_true, decide_false, Bool.or_true, true_and, and_true, cell_get hxi, cell_get hyi, ex, ey, hcc, eP_mk]
    have hrg : rngB IntKind.i64 (y.n + ((j + 1 : Nat) : Int)) = true := by simp only [rng64]; omega
    have hlz2 : ((Z.drop (j + 1)).reverse.length : Nat) ≤ 8 := by
      simp
      omega
    refine ⟨⟨⟨by omega, by omega⟩, by rw [hrg, Bool.or_true]⟩, fun _ => ⟨⟨by omega, by omega, by omega, ⟨by omega, by omega⟩, by omega, by omega, by omega, by omega⟩, ⟨by omega, by omega⟩, ?_⟩, fun h => by cases h⟩
    rw [updB, if_pos rfl]
    refine ⟨⟨j, by omega, ?_⟩, ?_⟩
    · subst hZ
      rw [drop_rev (j := j) (by omega), zip_get (by omega)]
      simp
    · simp [D.int]
  · simp only [q00, go_br, q01, q02, allSay, X.says, X.ev, X.evs, evl, tblS, List.getD_cons_zero, List.getD_cons_succ, List.getElem?_cons_zero, List.getElem?_cons_succ, tt_b, int_i, str_s, rs_r, Option.isSome_some, Option.getD_some, decide_eq_true_eq, decide_eq_false_iff_not, dS_eS, dC_eC, dU_eU, dW_eW, dY_eY, eC_0, eC_1, eU_0, eU_1, eW_0, eW_1, eW_2, eY_0, eY_1, eS_0, eS_1, eS_2, eS_3, eS_4, eS_5, List.length_map, i_inj, b_inj, s_inj, eC_eq, eU_eq, eW_eq, eY_eq, eS_eq, rng64, List.take_succ_cons, List.take_zero, List.nil_append, List.cons_append, decide_true, decide_false, Bool.or_true, true_and, and_true] at hlt ⊢
    have : i = 0 := by omega
    subst this
    rw [List.drop_zero]
end Go.Proofs.Ytaoamndcdjelnaa


namespace Go.Proofs.Ytaoamndcdjelnaa
open Go.ChangeShapes Go.WideShapes Go.ChangeAt Go.RowKit
set_option linter.unusedVariables false
set_option maxRecDepth 100000

theorem own_knobD : ownKnob Try.prog.godebug = none := by kernel_rfl
theorem laid_outD : laidOutB Try.prog = true := by kernel_rfl

section
variable {H : Type} {enc : TypeId × Value → H} {W : World} {base : Nat} {spare : Nat → Bool} {held : Bool}

def LightD (t : TypeId) (d : DataW H) : Prop := ∀ n ∈ d.weights Try.prog t, n ≤ reachBytes

theorem weightsAll_memD {e : TypeId} : ∀ {l : List (DataW H)} {d : DataW H}, d ∈ l → ∀ n ∈ d.weights Try.prog e, n ∈ DataW.weightsAll Try.prog e l
  | [], _, h, _, _ => by cases h
  | x :: l, d, h, n, hn => by
    simp only [DataW.weightsAll, List.mem_append]
    rcases List.mem_cons.1 h with rfl | h
    · exact .inl hn
    · exact .inr (weightsAll_memD h n hn)

theorem LightD.each {ts : List TypeId} {l : List (DataW H)} {k : Nat} {t : TypeId} {d : DataW H} (h : ∀ n ∈ DataW.weightsEach Try.prog ts l, n ≤ reachBytes) (ht : ts[k]? = some t) (hd : l[k]? = some d) : LightD t d := fun n hn =>
  h n (DataW.weights_mem_each ht hd n hn)

theorem reach_eqD : reachBytes = LIM := rfl

theorem cells_w {T : TypeId} {t : Ty} (h : tyOf T = some t) : Try.prog.cellsOf T = t.w := by
  obtain ⟨i, hi, h1, -⟩ := row_info h
  simp [Program.cellsOf, hi, h1]

theorem rng_wf {k : IntKind} {t : TypeId} (ht : tyOf t = some (.int k)) {n : Int} (h : (Lit.int k n).wf = true) : rngB k n = true := by
  have h0 := (row_int ht).2.1
  cases k <;> first | (simp [rngB] at h0; done) | (simp [Lit.wf, IntKind.min, IntKind.max, IntKind.signed, IntKind.bits] at h; simp [rngB]; omega)

theorem spot_noneD {a : Addr} {v : Value} (h : W.cell? a = some v) : a.spot = none := by
  unfold World.cell? at h
  split at h
  · split at h
    · cases h
    · rename_i hs; simpa using hs
  · cases h

end

def ArgsV (W : World) : List Ar → List Value → List D → Prop
  | [], vs, ds => vs = [] ∧ ds = []
  | .val t :: l, vs, ds => ∃ v r d ds', vs = v :: r ∧ ds = d :: ds' ∧ (∃ cs, Pack t cs v ∧ Rd W (FFD (fun _ => True) (fun _ => none) []) d t cs) ∧ ArgsV W l r ds'
  | _ :: _, _, _ => False
theorem ArgsV.ok {W : World} {V : List Value} : ∀ {i : Nat} {ar : List Ar} {vs : List Value} {ds : List D}, ArgsV W ar vs ds → ArgsOk V (fun _ => True) (fun _ => none) W (idx i ar) vs ds ∧ vs.length = ar.length
  | _, [], vs, ds, h => ⟨h, by rw [h.1]; rfl⟩
  | i, .val t :: l, vs, ds, ⟨v, r, d, ds', e1, e2, h1, h⟩ => by
    obtain ⟨h2, h3⟩ := ArgsV.ok (V := V) (i := i + 1) h
    exact ⟨⟨v, r, d, ds', e1, e2, h1, h2⟩, by rw [e1]; simp [h3]⟩
  | _, .ref _ :: _, _, _, h => h.elim
  | _, .rref _ :: _, _, _, h => h.elim
  | _, .own _ :: _, _, _, h => h.elim
  | _, .mref _ :: _, _, _, h => h.elim
  | _, .nils :: _, _, _, h => h.elim
  | _, .nilp :: _, _, _, h => h.elim
  | _, .fn _ _ :: _, _, _, h => h.elim
  | _, .cell _ _ :: _, _, _, h => h.elim
theorem law_calls {ct : Ct} {g : List D → Option (List D)} (h : FOk ct g) (hrs : ct.rs = [(.bool, false)]) (hvr : ct.vr = []) {W : World} {vs : List Value} {ds : List D} (ha : ArgsV W ct.ar vs ds) (hg : g ds = some [.b true]) :
    Calls Try.prog ct.f vs.toArray W fun e W' => e = .returned (.bool true) ∧ But Nil W W' := by
  obtain ⟨h1, h2⟩ := ArgsV.ok (V := vs ++ []) (i := 0) ha
  refine (h.call (fun _ => True) (fun _ => none) W vs [] ds _ hg (by constructor <;> simp) h2 (by simpa [Ct.all, hvr, idx] using h1)).mono ?_
  rintro e W' (⟨T, -, ho, -⟩ | ⟨rs, p', rfl, hb, hr, -⟩)
  · cases ho
  rw [hrs] at hr
  obtain ⟨v, r, d, ds', rfl, hd, ⟨cs, hp, hc⟩, rfl⟩ := hr
  simp at hd
  obtain ⟨rfl, rfl⟩ := hd
  obtain ⟨e1, e2⟩ : D.b true = .b true ∧ cs = [.bool true] := ⟨rfl, by
    have hc' : Rd W' (FFD (fun _ => True) p' []) (.b true) .bool cs := hc
    exact hc'.2⟩
  subst e2
  have hpv : [Value.bool true] = [v] := hp
  injection hpv with hpv
  subst hpv
  exact ⟨rfl, hb.but.mono fun i hi _ => by obtain ⟨x, hx⟩ := hi; cases hx⟩
end Go.Proofs.Ytaoamndcdjelnaa


namespace Go.Proofs.Ytaoamndcdjelnaa
open Go.ChangeShapes Go.WideShapes Go.ChangeAt Go.RowKit
set_option linter.unusedVariables false
set_option maxRecDepth 100000

mutual
/-- How many values and letters data holds. -/
def blk : D → Nat
  | .a l => blks l + 1
  | .r l => blks l + 1
  | .s x => x.size + 1
  | .mp l => blks l + 1
  | _ => 1
def blks : List D → Nat
  | [] => 0
  | d :: l => blk d + blks l
end
theorem blk_pos (d : D) : 1 ≤ blk d := by cases d <;> simp [blk]
theorem blks_len : ∀ l : List D, l.length ≤ blks l
  | [] => Nat.le_refl _
  | d :: l => by
    have := blks_len l
    have := blk_pos d
    rw [blks, List.length_cons]
    omega
theorem blks_app : ∀ l m : List D, blks (l ++ m) = blks l + blks m
  | [], m => by simp [blks]
  | d :: l, m => by rw [List.cons_append, blks, blks, blks_app l m]; omega
section
variable {H : Type} {enc : TypeId × Value → H} {W : World} {base : Nat} {spare : Nat → Bool} {held : Bool}
theorem upto_app (l r : List (DataW H)) : Rows.uptoBulkAll (l ++ r) = Rows.uptoBulkAll l + Rows.uptoBulkAll r := by
  induction l with
  | nil => simp [Rows.uptoBulkAll]
  | cons x l ih => simp only [List.cons_append, Rows.uptoBulkAll, ih]; omega
theorem upto_one (d : DataW H) : 1 ≤ Rows.uptoBulk d := by
  cases d with
  | lit l => cases l <;> simp [Rows.uptoBulk]
  | _ => simp [Rows.uptoBulk]
theorem upto_take (l : List (DataW H)) (n : Nat) : Rows.uptoBulkAll (l.take n) ≤ Rows.uptoBulkAll l := by
  conv => rhs; rw [← List.take_append_drop n l]
  rw [upto_app]
  omega

theorem rdF_ofU {F : Nat → Prop} {cs : List Value} : ∀ {fl : List Field} {fs : List Ty} {ps : List (DataW H)} {o : Nat}, fieldsB fl fs o = true → ps.length = fs.length → (∀ (j : Nat) (f : Field) (t : Ty) (q : DataW H), fl[j]? = some f → fs[j]? = some t → ps[j]? = some q → ∃ y, Rd W F y t ((cs.drop f.offset).take t.w) ∧ blk y ≤ Rows.uptoBulk q) → cs.length = o + widths fs → ∃ ds, RdF W F ds fs (cs.drop o) ∧ blks ds ≤ Rows.uptoBulkAll ps
  | [], [], ps, o, _, _, _, hl => by
    simp [widths] at hl
    exact ⟨[], ⟨rfl, by rw [List.drop_eq_nil_iff]; omega⟩, by simp [blks]⟩
  | f :: l, t :: ts, q :: ps, o, hb, hp, hf, hl => by
    simp only [fieldsB, Bool.and_eq_true] at hb
    obtain ⟨⟨⟨h1, -⟩, -⟩, h3⟩ := hb
    have ho := Nat.eq_of_beq_eq_true h1
    rw [widths_cons] at hl
    obtain ⟨ds, hds, hq⟩ := rdF_ofU h3 (by simpa using hp) (fun j f' t' q' hj ht hq => hf (j + 1) f' t' q' (by simpa using hj) (by simpa using ht) (by simpa using hq)) (by omega)
    obtain ⟨y, hy, hyq⟩ := hf 0 f t q rfl rfl rfl
    refine ⟨y :: ds, ⟨t, ts, (cs.drop o).take t.w, cs.drop (o + t.w), rfl, ?_, by rw [← ho]; exact hy, hds⟩, by rw [blks, Rows.uptoBulkAll]; omega⟩
    rw [← List.drop_drop, List.take_append_drop]
  | _ :: _, _ :: _, [], o, _, hp, _, _ => by simp at hp
  | [], _ :: _, _, o, hb, _, _, _ => by cases hb
  | _ :: _, [], _, o, hb, _, _, _ => by cases hb

theorem open_recU : ∀ (fuel : Nat) {T : TypeId} {t : Ty} (cs : List Value) (x : DataW H × List MemPlace), tyOf T = some t → isMp t = false → DataW.trod enc Try.prog W base spare held fuel T cs = some x → LightD T x.1 → ∃ y, Rd W (fun _ => True) y t cs ∧ blk y ≤ Rows.uptoBulk x.1 := by
  intro fuel
  induction fuel with
  | zero => intro T t cs x _ _ h; simp [DataW.trod] at h
  | succ fuel ih =>
    intro T t cs x hT hM h hL
    cases t with
    | map K V => cases hM
    | int k =>
      obtain ⟨n, rfl, -, hw⟩ := DataW.trod_int (row_int hT).1 h
      exact ⟨.i n, ⟨k, rfl, rfl, rng_wf hT hw⟩, by simp only [blk]; exact upto_one _⟩
    | bool =>
      obtain ⟨b, rfl, -⟩ := DataW.trod_bool (row_bool hT).1 h
      exact ⟨.b b, ⟨rfl, rfl⟩, by simp only [blk]; exact upto_one _⟩
    | str =>
      obtain ⟨s, rfl, rfl, -⟩ := DataW.trod_string (row_str hT).1 h
      have := hL s.data.toList.length (by simp [DataW.weights])
      exact ⟨.s s, ⟨rfl, rfl, by rw [reach_eqD] at this; simpa using this⟩, by
        rw [blk, Rows.uptoBulk, Array.length_toList]
        exact Nat.le_refl _⟩
    | st S =>
      obtain ⟨fields, fs, zc, i, hu, hfs, hfb, hi, hsz, -, -, -, -⟩ := row_st hT
      obtain ⟨xs, n, hn, hx, hlen, hxl, hf⟩ := DataW.trod_struct hu h
      obtain rfl : fuel = n := by omega
      have hw : ∀ n ∈ DataW.weightsEach Try.prog (fields.toList.map (·.type)) (xs.map (·.1)), n ≤ reachBytes := fun n hn => hL n (by rw [hx]; simp only [DataW.weights, hu]; exact hn)
      have hcl : cs.length = 0 + widths fs := by rw [hlen, cells_w hT, (fld_okD hfs).1]; omega
      have hfl : fs.length = fields.toList.length := by
        have key : ∀ (fl : List Field) (fs : List Ty) (o : Nat), fieldsB fl fs o = true → fs.length = fl.length := by
          intro fl
          induction fl with
          | nil => intro fs o h; cases fs with
            | nil => rfl
            | cons _ _ => cases h
          | cons f l ih => intro fs o h; cases fs with
            | nil => cases h
            | cons t ts =>
              simp only [fieldsB, Bool.and_eq_true] at h
              simp [ih ts _ h.2]
        exact key _ _ _ hfb
      obtain ⟨ds, hds, hbl⟩ := rdF_ofU (W := W) (F := fun _ => True) (ps := xs.map (·.1)) hfb (by rw [hfl, List.length_map, hxl]; simp) (fun j f t q hj ht hq => by
        obtain ⟨f', hf', ho, hty, -⟩ := fieldsB_get hfb ht
        obtain rfl := Option.some.inj (hj.symm.trans hf')
        have h5 := hf j f (by rw [← Array.getElem?_toList]; exact hj)
        have hjl : j < fields.toList.length := (List.getElem?_eq_some_iff.1 hj).1
        have hjx : j < xs.length := by rw [hxl]; simpa using hjl
        rw [cells_w hty, List.getElem?_eq_getElem hjx] at h5
        have hqe : q = xs[j].1 := by
          rw [List.getElem?_map, List.getElem?_eq_getElem hjx] at hq
          injection hq with hq
          exact hq.symm
        rw [hqe]
        refine ih _ _ hty (fld_noM hfs (List.mem_of_getElem? ht)) h5 (LightD.each (k := j) hw ?_ ?_)
        · rw [List.getElem?_map, hj]; rfl
        · rw [List.getElem?_map, List.getElem?_eq_getElem hjx]; rfl) hcl
      refine ⟨.a ds, ⟨S, fs, rfl, hfs, by simpa using hds⟩, ?_⟩
      rw [hx]
      simp only [blk, Rows.uptoBulk]
      omega
    | row E =>
      obtain ⟨hu, ⟨te, hte⟩, -⟩ := row_row hT
      rcases DataW.trod_slice hu h with ⟨rfl, hx⟩ | ⟨a, len, cap, elems, rest, n, hn, rfl, hx, hb, hl, hm, hlen, hel, -⟩
      · exact ⟨.r [], ⟨E, te, none, 0, rfl, hte, rfl, by simp, by simp, by simp [maxLen], by simp [RdE]⟩, by simp only [blk, blks]; exact upto_one _⟩
      · obtain rfl : fuel = n := by omega
        have hwd := tyOf_pos hte
        rw [cells_w hte] at hel
        have hw := hL
        rw [hx] at hw
        simp only [LightD, DataW.weights, hu, List.mem_cons, List.mem_append] at hw
        have hlen2 : len ≤ LM te := by
          have := hw _ (.inl rfl)
          rw [reach_eqD] at this
          have hbe : Try.prog.bytesOf E = te.by := by
            obtain ⟨i, hi, -⟩ := row_info hte
            simp [Program.bytesOf, hi, row_bytes hte hi]
          refine (Nat.le_div_iff_mul_le (by_pos hte).1).2 ?_
          simp [hbe] at this
          have h2 : len * te.by ≤ (elems.length + rest.length) * te.by := Nat.mul_le_mul_right _ (by omega)
          exact Nat.le_trans h2 this
        have spot : 0 < len → a.spot = none := fun h0 => by
          have h2 := hel 0 h0
          rw [List.getElem?_eq_getElem (by omega)] at h2
          cases hc0 : W.cells? base (a.add (0 * te.w)) te.w with
          | none => rw [hc0] at h2; cases h2
          | some cs0 =>
            obtain ⟨_, hcl0, hat0⟩ := World.cells?_some hc0
            have hp : 0 < cs0.length := by omega
            have := hat0 0 (by omega)
            rw [List.getElem?_eq_getElem hp] at this
            exact spot_noneD (a := a) (v := cs0[0]) (by simpa [Addr.add] using this)
        have each : ∀ i, (hi : i < len) → ∃ y, RdEl W (fun _ => True) y te (some a) i ∧ blk y ≤ Rows.uptoBulk (elems[i]'(by omega)).1 := fun i hi => by
          have h1 := hel i hi
          rw [List.getElem?_eq_getElem (by omega)] at h1
          cases hc : W.cells? base (a.add (i * te.w)) te.w with
          | none => rw [hc] at h1; cases h1
          | some cs' =>
            rw [hc] at h1
            obtain ⟨_, hcl, hat⟩ := World.cells?_some hc
            obtain ⟨y, hy, hyb⟩ := ih cs' _ hte (row_noM hT hte) h1 (fun n hn => hw n (.inr (.inl (weightsAll_memD (List.mem_map.2 ⟨_, List.getElem_mem (by omega), rfl⟩) n hn))))
            have hsp := spot (by omega)
            obtain ⟨b, o, sp⟩ := a
            obtain rfl : sp = none := hsp
            have add : ∀ k, (Addr.add ⟨b, o, none⟩ (i * te.w)).add k = ⟨b, o + i * te.w + k, none⟩ := fun k => by
              unfold Addr.add
              split <;> split <;> simp <;> omega
            refine ⟨y, ⟨b, o, cs', rfl, trivial, fun j v hj => ?_, hy⟩, hyb⟩
            have hj' := (List.getElem?_eq_some_iff.1 hj).1
            have := hat j (by omega)
            rw [add, hj] at this
            exact this
        have pick : ∀ n, n ≤ len → ∃ l : List D, l.length = n ∧ (∀ i (h : i < l.length), RdEl W (fun _ => True) l[i] te (some a) i) ∧ blks l ≤ Rows.uptoBulkAll ((elems.map (·.1)).take n) := by
          intro n
          induction n with
          | zero => exact fun _ => ⟨[], rfl, (fun i hi => by simp at hi), by simp [blks]⟩
          | succ n ihn =>
            intro hn
            obtain ⟨l, hl1, hl2, hl3⟩ := ihn (by omega)
            obtain ⟨t, ht, htb⟩ := each n (by omega)
            refine ⟨l ++ [t], by simp [hl1], (fun i hi => ?_), ?_⟩
            · by_cases hin : i < l.length
              · rw [List.getElem_append_left hin]; exact hl2 i hin
              · obtain rfl : i = l.length := by simp at hi; omega
                rw [List.getElem_append_right (by omega)]
                simp [hl1]
                exact ht
            · rw [List.take_add_one, upto_app, blks_app]
              rw [List.getElem?_map, List.getElem?_eq_getElem (by omega)]
              simp only [Option.map_some, Option.toList_some, Rows.uptoBulkAll, blks]
              omega
        obtain ⟨l, hl1, hl2, hl3⟩ := pick len (Nat.le_refl _)
        refine ⟨.r l, ⟨E, te, some a, cap, rfl, hte, by rw [hl1], by omega, by omega, hm, rdE_iff.2 fun j hj => by rw [Nat.zero_add]; exact hl2 j hj⟩, ?_⟩
        have := upto_take (elems.map (·.1)) len
        rw [hx]
        simp only [blk, Rows.uptoBulk]
        omega

theorem open_U {T : TypeId} {t : Ty} (hT : tyOf T = some t) (hM : isMp t = false) {v : Value} {d : DataW H} {p : List MemPlace} {b0 : Nat} {r : Reach} (hv : Value.okWide Try.prog W r b0 T v) (h : DataW.Trod enc Try.prog W base spare held T v d p) (hL : LightD T d) :
    ∃ x cs, Pack t cs v ∧ Rd W (fun b => b < W.heap.size) x t cs ∧ blk x ≤ Rows.uptoBulk d := by
  obtain ⟨fuel, hf⟩ := h
  obtain ⟨y, hy, hyb⟩ := open_recU fuel _ _ hT hM hf hL
  refine ⟨y, v.cells.toList, ?_, Rd.keeps (fun b o _ ho => ⟨ho, lt_of_heap ho⟩) _ hy, hyb⟩
  cases t with
  | int k => obtain ⟨n, rfl⟩ := okWide_int (row_int hT).1 hv; rfl
  | bool => obtain ⟨n, rfl⟩ := okWide_bool (row_bool hT).1 hv; rfl
  | str => obtain ⟨n, rfl⟩ := okWide_string (row_str hT).1 hv; rfl
  | map K V => cases hM
  | row E => obtain ⟨A, l, c, rfl⟩ := okWide_slice (row_row hT).1 hv; rfl
  | st S =>
    obtain ⟨fields, fs, zc, i, hu, -⟩ := row_st hT
    obtain ⟨cs, rfl, -⟩ := okWide_struct hu hv
    simp [Pack, Value.cells]
theorem upto_bound {l : List (DataW H)} (hk : Rows.uptoSmall H l = true) : Rows.uptoBulkAll l ≤ 1048576 := by
  have h := of_decide_eq_true hk
  exact h
end
def gUp : List D → Option (List D) := fun ds => if blks ds ≤ 1048576 then some [.b true] else none
end Go.Proofs.Ytaoamndcdjelnaa

