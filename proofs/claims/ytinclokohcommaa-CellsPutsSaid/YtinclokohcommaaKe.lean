/-
  Lemmas of the walk and plain laws, put together. No condition.
-/
import Derived.Deep.RegionLaw
import Derived.Lib.AppendZerosOnto
import Derived.Shelf.Spec.SlicesInsert
import Derived.StillTailTactics
import Derived.TacticsInMore
import Derived.Test.YtinclokohcommaaKd
namespace Go.Proofs.Ytinclokohcommaa
open Go.RowKit
set_option linter.unusedVariables false
set_option linter.unusedSimpArgs false

def cellAt (s : So) (i : Int) : Ce := s.cs.getD i.toNat default
def inS (s : So) (i : Int) : Bool := decide (0 ≤ i) && decide (i < s.cs.length)
def tagS (s : So) (i : Int) : Int := if inS s i then (cellAt s i).t else -1
def arS (s : So) (n : Int) : Int := if 0 ≤ n ∧ n < s.ys.length then (s.ys.getD n.toNat default).ar else -1
def vcR (s : So) (c : Ce) : Bool := if c.t = 0 then inS s c.n && !decide (tagS s c.n = 4) else if c.t = 1 then true else if c.t = 2 then decide (arS s c.n = 0) else if c.t = 3 then decide (tagS s c.n = 4) else if c.t = 5 then decide (tagS s c.n = 5) else false
def vcP (s : So) (c : Ce) : Bool := if c.t = 0 then decide (0 ≤ tagS s c.n) && !decide (tagS s c.n = 4) else if c.t = 1 then true else if c.t = 2 then decide (arS s c.n = 0) else if c.t = 3 then decide (tagS s c.n = 4) else if c.t = 5 then decide (tagS s c.n = 5) else false
def groupS (s : So) (i : Int) : Bool := decide (tagS s (i + 1) = 1) && (decide (1 ≤ (cellAt s (i + 1)).n) && (decide ((cellAt s (i + 1)).n ≤ s.ser) && (decide (0 ≤ tagS s (i + 2)) && (!decide (tagS s (i + 2) = 4) && !decide (tagS s (i + 2) = 5)))))

def gSIi (f : So → Int → Int) : List D → Option (List D)
  | [s, i] => some [.i (f (dS s) i.int)]
  | _ => none
def gSIb (f : So → Int → Bool) : List D → Option (List D)
  | [s, i] => some [.b (f (dS s) i.int)]
  | _ => none
def gSIbP (q : So → Int → Bool) (f : So → Int → Bool) : List D → Option (List D)
  | [s, i] => if q (dS s) i.int then some [.b (f (dS s) i.int)] else none
  | _ => none
def gSCb (f : So → Ce → Bool) : List D → Option (List D)
  | [s, c] => some [.b (f (dS s) (dC c))]
  | _ => none
def gSUb (f : So → Un → Bool) : List D → Option (List D)
  | [s, c] => some [.b (f (dS s) (dU c))]
  | _ => none
def gSb (f : So → Bool) : List D → Option (List D)
  | [s] => some [.b (f (dS s))]
  | _ => none
theorem inS_iff {s : So} {i : Int} : inS s i = true ↔ 0 ≤ i ∧ i < s.cs.length := by simp [inS]
theorem cell_get {s : So} {i : Int} (h : inS s i = true) : (D.r (s.cs.map eC)).get i = eC (cellAt s i) := get_r eC (inS_iff.1 h).1 (inS_iff.1 h).2
theorem So.ok.cell {s : So} (hs : s.ok) {i : Int} (h : inS s i = true) : (cellAt s i).ok := hs.cs.2 _ (getD_mem (by have := inS_iff.1 h; omega))
theorem tagS_in {s : So} {i : Int} (h : inS s i = true) : tagS s i = (cellAt s i).t := if_pos h
theorem tagS_out {s : So} {i : Int} (h : inS s i = false) : tagS s i = -1 := if_neg (by rw [h]; decide)

theorem q37 : FOk q0h (gSIb inS) := fok_ref30_ranged fun ds outs hw hg => by
  obtain ⟨d, r, rfl, hd, e, r', rfl, he, rfl⟩ := hw
  obtain ⟨s, rfl, hs⟩ := wfS hd
  obtain ⟨i, rfl, hi⟩ := wfI he
  simp only [gSIb, dS_eS, int_i, Option.some.injEq] at hg
  subst hg
  simp only [q3n, Tree.go, allSay, X.says, X.ev, X.evs, evl, tblS, List.getD_cons_zero, List.getD_cons_succ, List.getElem?_cons_zero, List.getElem?_cons_succ, tt_b, int_i, str_s, rs_r, Option.isSome_some, Option.getD_some, decide_eq_true_eq, decide_eq_false_iff_not, dS_eS, dC_eC, dU_eU, dW_eW, dY_eY, eC_0, eC_1, eU_0, eU_1, eW_0, eW_1, eW_2, eY_0, eY_1, eS_0, eS_1, eS_2, eS_3, eS_4, eS_5, List.length_map, i_inj, b_inj, s_inj, eC_eq, eU_eq, eW_eq, eY_eq, eS_eq, rng64, List.take_succ_cons, List.take_zero, List.nil_append, List.cons_append, decide_true, decide_false, Bool.or_true, true_and, and_true, inS]
theorem q3c : FOk q0m (gSIi tagS) := fok_ref30_tag q37 fun ds outs hw hg => by
  obtain ⟨d, r, rfl, hd, e, r', rfl, he, rfl⟩ := hw
  obtain ⟨s, rfl, hs⟩ := wfS hd
  obtain ⟨i, rfl, hi⟩ := wfI he
  simp only [gSIi, dS_eS, int_i, Option.some.injEq] at hg
  subst hg
  simp only [q4p, Tree.go, allSay, X.says, X.ev, X.evs, evl, tblS, List.getD_cons_zero, List.getD_cons_succ, List.getElem?_cons_zero, List.getElem?_cons_succ, tt_b, int_i, str_s, rs_r, Option.isSome_some, Option.getD_some, decide_eq_true_eq, decide_eq_false_iff_not, dS_eS, dC_eC, dU_eU, dW_eW, dY_eY, eC_0, eC_1, eU_0, eU_1, eW_0, eW_1, eW_2, eY_0, eY_1, eS_0, eS_1, eS_2, eS_3, eS_4, eS_5, List.length_map, i_inj, b_inj, s_inj, eC_eq, eU_eq, eW_eq, eY_eq, eS_eq, rng64, List.take_succ_cons, List.take_zero, List.nil_append, List.cons_append, decide_true, decide_false, Bool.or_true, true_and, and_true, gSIb, true_and]
  cases h : inS s i with
  | false => simp [tagS_out h]
  | true =>
    have h' := inS_iff.1 h
    simp [cell_get h, eC_0, tagS_in h, h']
theorem ok_cells_tag : FOk q0o (gSIi tagS) := fok_cells_tag fun ds outs hw hg => by
  obtain ⟨d, r, rfl, hd, e, r', rfl, he, rfl⟩ := hw
  obtain ⟨s, rfl, hs⟩ := wfS hd
  obtain ⟨i, rfl, hi⟩ := wfI he
  simp only [gSIi, dS_eS, int_i, Option.some.injEq] at hg
  subst hg
  simp only [q3l, Tree.go, allSay, X.says, X.ev, X.evs, evl, tblS, List.getD_cons_zero, List.getD_cons_succ, List.getElem?_cons_zero, List.getElem?_cons_succ, tt_b, int_i, str_s, rs_r, Option.isSome_some, Option.getD_some, decide_eq_true_eq, decide_eq_false_iff_not, dS_eS, dC_eC, dU_eU, dW_eW, dY_eY, eC_0, eC_1, eU_0, eU_1, eW_0, eW_1, eW_2, eY_0, eY_1, eS_0, eS_1, eS_2, eS_3, eS_4, eS_5, List.length_map, i_inj, b_inj, s_inj, eC_eq, eU_eq, eW_eq, eY_eq, eS_eq, rng64, List.take_succ_cons, List.take_zero, List.nil_append, List.cons_append, decide_true, decide_false, Bool.or_true, true_and, and_true, true_and]
  cases h : inS s i with
  | false =>
    have h' : ¬ (0 ≤ i ∧ i < s.cs.length) := fun q => by rw [inS_iff.2 q] at h; cases h
    have h2 : i < 0 ∨ (s.cs.length : Int) ≤ i := by omega
    simp [tagS_out h]
    omega
  | true =>
    have h' := inS_iff.1 h
    have h1 : ¬ i < 0 := by omega
    have h2 : ¬ (s.cs.length : Int) ≤ i := by omega
    simp [cell_get h, eC_0, tagS_in h, h', h1, h2]
theorem ar_get {s : So} {i : Int} (h : 0 ≤ i ∧ i < s.ys.length) : (D.r (s.ys.map eY)).get i = eY (s.ys.getD i.toNat default) := get_r eY h.1 h.2
theorem ok_ref30_arity : FOk q12 (gSIi arS) := fok_ref30_arity fun ds outs hw hg => by
  obtain ⟨d, r, rfl, hd, e, r', rfl, he, rfl⟩ := hw
  obtain ⟨s, rfl, hs⟩ := wfS hd
  obtain ⟨i, rfl, hi⟩ := wfI he
  simp only [gSIi, dS_eS, int_i, Option.some.injEq] at hg
  subst hg
  simp only [q3v, Tree.go, allSay, X.says, X.ev, X.evs, evl, tblS, List.getD_cons_zero, List.getD_cons_succ, List.getElem?_cons_zero, List.getElem?_cons_succ, tt_b, int_i, str_s, rs_r, Option.isSome_some, Option.getD_some, decide_eq_true_eq, decide_eq_false_iff_not, dS_eS, dC_eC, dU_eU, dW_eW, dY_eY, eC_0, eC_1, eU_0, eU_1, eW_0, eW_1, eW_2, eY_0, eY_1, eS_0, eS_1, eS_2, eS_3, eS_4, eS_5, List.length_map, i_inj, b_inj, s_inj, eC_eq, eU_eq, eW_eq, eY_eq, eS_eq, rng64, List.take_succ_cons, List.take_zero, List.nil_append, List.cons_append, decide_true, decide_false, Bool.or_true, true_and, and_true, true_and]
  by_cases h : 0 ≤ i ∧ i < s.ys.length
  · have h1 : ¬ i < 0 := by omega
    have h2 : ¬ (s.ys.length : Int) ≤ i := by omega
    simp [ar_get h, eY_1, arS, h, h1, h2]
  · simp [arS, h]
theorem ok_cells_arity : FOk q0q (gSIi arS) := fok_cells_arity fun ds outs hw hg => by
  obtain ⟨d, r, rfl, hd, e, r', rfl, he, rfl⟩ := hw
  obtain ⟨s, rfl, hs⟩ := wfS hd
  obtain ⟨i, rfl, hi⟩ := wfI he
  simp only [gSIi, dS_eS, int_i, Option.some.injEq] at hg
  subst hg
  simp only [q2w, Tree.go, allSay, X.says, X.ev, X.evs, evl, tblS, List.getD_cons_zero, List.getD_cons_succ, List.getElem?_cons_zero, List.getElem?_cons_succ, tt_b, int_i, str_s, rs_r, Option.isSome_some, Option.getD_some, decide_eq_true_eq, decide_eq_false_iff_not, dS_eS, dC_eC, dU_eU, dW_eW, dY_eY, eC_0, eC_1, eU_0, eU_1, eW_0, eW_1, eW_2, eY_0, eY_1, eS_0, eS_1, eS_2, eS_3, eS_4, eS_5, List.length_map, i_inj, b_inj, s_inj, eC_eq, eU_eq, eW_eq, eY_eq, eS_eq, rng64, List.take_succ_cons, List.take_zero, List.nil_append, List.cons_append, decide_true, decide_false, Bool.or_true, true_and, and_true, true_and]
  by_cases h : 0 ≤ i ∧ i < s.ys.length
  · have h1 : ¬ i < 0 := by omega
    have h2 : ¬ (s.ys.length : Int) ≤ i := by omega
    simp [ar_get h, eY_1, arS, h, h1, h2]
  · simp [arS, h]
theorem q2n : FOk q0b (gSCb vcR) := fok_ref30_ValidCell q37 q3c ok_ref30_arity fun ds outs hw hg => by
  obtain ⟨d, r, rfl, hd, e, r', rfl, he, rfl⟩ := hw
  obtain ⟨s, rfl, hs⟩ := wfS hd
  obtain ⟨c, rfl, hc⟩ := wfC he
  simp only [gSCb, dS_eS, dC_eC, Option.some.injEq] at hg
  subst hg
  simp only [q2y, Tree.go, allSay, X.says, X.ev, X.evs, evl, tblS, List.getD_cons_zero, List.getD_cons_succ, List.getElem?_cons_zero, List.getElem?_cons_succ, tt_b, int_i, str_s, rs_r, Option.isSome_some, Option.getD_some, decide_eq_true_eq, decide_eq_false_iff_not, dS_eS, dC_eC, dU_eU, dW_eW, dY_eY, eC_0, eC_1, eU_0, eU_1, eW_0, eW_1, eW_2, eY_0, eY_1, eS_0, eS_1, eS_2, eS_3, eS_4, eS_5, List.length_map, i_inj, b_inj, s_inj, eC_eq, eU_eq, eW_eq, eY_eq, eS_eq, rng64, List.take_succ_cons, List.take_zero, List.nil_append, List.cons_append, decide_true, decide_false, Bool.or_true, true_and, and_true, gSIb, gSIi, vcR, true_and]
  by_cases h0 : c.t = 0
  · simp [h0]
  · by_cases h1 : c.t = 1
    · simp [h1]
    · by_cases h2 : c.t = 2
      · simp [h2]
      · by_cases h3 : c.t = 3
        · simp [h3]
        · by_cases h5 : c.t = 5
          · simp [h5]
          · simp [h0, h1, h2, h3, h5]
theorem ok_cells_ValidCell : FOk q0c (gSCb vcP) := q4e ok_cells_arity ok_cells_tag fun ds outs hw hg => by
  obtain ⟨d, r, rfl, hd, e, r', rfl, he, rfl⟩ := hw
  obtain ⟨s, rfl, hs⟩ := wfS hd
  obtain ⟨c, rfl, hc⟩ := wfC he
  simp only [gSCb, dS_eS, dC_eC, Option.some.injEq] at hg
  subst hg
  simp only [q2l, Tree.go, allSay, X.says, X.ev, X.evs, evl, tblS, List.getD_cons_zero, List.getD_cons_succ, List.getElem?_cons_zero, List.getElem?_cons_succ, tt_b, int_i, str_s, rs_r, Option.isSome_some, Option.getD_some, decide_eq_true_eq, decide_eq_false_iff_not, dS_eS, dC_eC, dU_eU, dW_eW, dY_eY, eC_0, eC_1, eU_0, eU_1, eW_0, eW_1, eW_2, eY_0, eY_1, eS_0, eS_1, eS_2, eS_3, eS_4, eS_5, List.length_map, i_inj, b_inj, s_inj, eC_eq, eU_eq, eW_eq, eY_eq, eS_eq, rng64, List.take_succ_cons, List.take_zero, List.nil_append, List.cons_append, decide_true, decide_false, Bool.or_true, true_and, and_true, gSIi, vcP, true_and]
  by_cases h0 : c.t = 0
  · simp [h0]
  · by_cases h1 : c.t = 1
    · simp [h1]
    · by_cases h2 : c.t = 2
      · simp [h2]
      · by_cases h3 : c.t = 3
        · simp [h3]
        · by_cases h5 : c.t = 5
          · simp [h5]
          · simp [h0, h1, h2, h3, h5]
theorem tag_in {s : So} {i : Int} (h : tagS s i = 1) : inS s i = true := by
  cases hi : inS s i with
  | true => rfl
  | false => rw [tagS_out hi] at h; cases h
theorem ok_ref30_group : FOk q15 (gSIbP inS groupS) := fok_ref30_group q3c fun ds outs hw hg => by
  obtain ⟨d, r, rfl, hd, e, r', rfl, he, rfl⟩ := hw
  obtain ⟨s, rfl, hs⟩ := wfS hd
  obtain ⟨i, rfl, hi⟩ := wfI he
  simp only [gSIbP, dS_eS, int_i, Option.ite_none_right_eq_some, Option.some.injEq] at hg
  obtain ⟨hin, rfl⟩ := hg
  have h1 := inS_iff.1 hin
  have hl := hs.cs.1
  have r1 : i64 (i + 1) := ⟨by omega, by omega⟩
  have r2 : i64 (i + 2) := ⟨by omega, by omega⟩
  simp only [q3x, Tree.go, allSay, X.says, X.ev, X.evs, evl, tblS, List.getD_cons_zero, List.getD_cons_succ, List.getElem?_cons_zero, List.getElem?_cons_succ, tt_b, int_i, str_s, rs_r, Option.isSome_some, Option.getD_some, decide_eq_true_eq, decide_eq_false_iff_not, dS_eS, dC_eC, dU_eU, dW_eW, dY_eY, eC_0, eC_1, eU_0, eU_1, eW_0, eW_1, eW_2, eY_0, eY_1, eS_0, eS_1, eS_2, eS_3, eS_4, eS_5, List.length_map, i_inj, b_inj, s_inj, eC_eq, eU_eq, eW_eq, eY_eq, eS_eq, rng64, List.take_succ_cons, List.take_zero, List.nil_append, List.cons_append, decide_true, decide_false, Bool.or_true, true_and, and_true, gSIi, true_and, groupS, r1, r2]
  by_cases ht : tagS s (i + 1) = 1
  · have h2 := tag_in ht
    have h3 := inS_iff.1 h2
    simp [ht, cell_get h2, eC_1, h3.1, h3.2, int_i, Bool.and_assoc, rng64, r1.1, r1.2]
  · simp [ht]
end Go.Proofs.Ytinclokohcommaa


namespace Go.Proofs.Ytinclokohcommaa
open Go.RowKit
set_option linter.unusedVariables false
set_option linter.unusedSimpArgs false

theorem mfind_mset {k k' v : D} : ∀ {l : List D}, mfind k (mset k' v l) = if k' = k then some v else mfind k l
  | [] => by simp [mset, mfind, D.fld, D.fs]
  | p :: l => by
    unfold mset
    split
    · rename_i h
      by_cases hk : k' = k
      · simp [mfind, D.fld, D.fs, hk]
      · have : ¬ (p.fld 0 = k) := fun e => hk (h.symm.trans e)
        simp [mfind, D.fld, D.fs, hk, this]
        intro e
        exact absurd e this
    · rename_i h
      unfold mfind
      by_cases hk : p.fld 0 = k
      · have : ¬ (k' = k) := fun e => h (hk.trans e.symm)
        simp [hk, this]
      · simp only [if_neg hk]
        exact mfind_mset

def okY (y : Sy) : Bool := decide (y.name.size ≤ 100) && (decide (0 ≤ y.ar) && decide (y.ar ≤ 8))
def symAt (l : List Sy) (k : Nat) : Bool := okY (l.getD k default) && !decide (l.getD k default ∈ l.take k)
def symsB (l : List Sy) : Bool := decide (l.length ≤ 1048576) && (List.range l.length).all (symAt l)
def gYsb (f : List Sy → Bool) : List D → Option (List D)
  | [l] => some [.b (f (l.rs.map dY))]
  | _ => none

def SeenY (x : D) (l : List Sy) (k : Nat) (L : List D) : Prop := ∀ y, mfind (eY y) L = if y ∈ l.take k then some x else none
theorem SeenY.nil {x : D} {l : List Sy} : SeenY x l 0 [] := fun y => by simp [mfind]
theorem SeenY.put {x : D} {l : List Sy} {k : Nat} {L : List D} (h : SeenY x l k L) (hk : k < l.length) : SeenY x l (k + 1) (mset (eY (l.getD k default)) x L) := fun y => by
  rw [mfind_mset, take_snoc hk, h y]
  generalize l.getD k default = z
  by_cases hy : y = z
  · subst hy; simp
  · have : ¬ (z = y) := fun e => hy e.symm
    simp [eY_eq, this, hy]

theorem ok_ref30_symbols : FOk q19 (gYsb symsB) := fok_ref30_symbols fun ds outs hw hg => by
  obtain ⟨d, r, rfl, hd, rfl⟩ := hw
  obtain ⟨l, rfl, hl, hok⟩ := wfYs hd
  simp only [gYsb, rs_r, map_id' dY_eY, Option.some.injEq] at hg
  subst hg
  simp only [q3e, Tree.go, allSay, X.says, X.ev, X.evs, evl, tblS, List.getD_cons_zero, List.getD_cons_succ, List.getElem?_cons_zero, List.getElem?_cons_succ, tt_b, int_i, str_s, rs_r, Option.isSome_some, Option.getD_some, decide_eq_true_eq, decide_eq_false_iff_not, dS_eS, dC_eC, dU_eU, dW_eW, dY_eY, eC_0, eC_1, eU_0, eU_1, eW_0, eW_1, eW_2, eY_0, eY_1, eS_0, eS_1, eS_2, eS_3, eS_4, eS_5, List.length_map, i_inj, b_inj, s_inj, eC_eq, eU_eq, eW_eq, eY_eq, eS_eq, rng64, List.take_succ_cons, List.take_zero, List.nil_append, List.cons_append, decide_true, decide_false, Bool.or_true, true_and, and_true, symsB]
  refine ⟨fun h => ?_, fun h => ?_⟩
  · have : ¬ (l.length ≤ 1048576) := by omega
    simp [this]
  · have h0 : l.length ≤ 1048576 := by omega
    refine ⟨fun st => ∃ (k : Nat) (L : List D), k ≤ l.length ∧ st = [.b false, .i k, .mp L] ∧ (∀ j, j < k → symAt l j = true) ∧ SeenY (.i 1) l k L, fun st => l.length - (st.getD 1 .u).int.toNat, ⟨0, [], Nat.zero_le _, rfl, (fun j hj => absurd hj (Nat.not_lt_zero _)), SeenY.nil⟩, ?_⟩
    rintro st - ⟨k, L, hk, rfl, hP, hL⟩
    simp only [Tree.go, allSay, X.says, X.ev, X.evs, evl, tblS, List.getD_cons_zero, List.getD_cons_succ, List.getElem?_cons_zero, List.getElem?_cons_succ, tt_b, int_i, str_s, rs_r, Option.isSome_some, Option.getD_some, decide_eq_true_eq, decide_eq_false_iff_not, dS_eS, dC_eC, dU_eU, dW_eW, dY_eY, eC_0, eC_1, eU_0, eU_1, eW_0, eW_1, eW_2, eY_0, eY_1, eS_0, eS_1, eS_2, eS_3, eS_4, eS_5, List.length_map, i_inj, b_inj, s_inj, eC_eq, eU_eq, eW_eq, eY_eq, eS_eq, rng64, List.take_succ_cons, List.take_zero, List.nil_append, List.cons_append, decide_true, decide_false, Bool.or_true, true_and, and_true]
    refine ⟨fun hlt => ?_, fun hlt => ?_⟩
    · have hkl : k < l.length := by omega
      have hp : (0 : Int) ≤ k := by omega
      simp only [hlt, hp, get_n eY hkl, eY_0, eY_1, str_s, int_i, true_and, Bool.or_true, decide_true, and_true, Int.toNat_natCast, fnD, ms_mp, hL (l.getD k default)]
      have hr : i64 ((k : Int) + 1) := ⟨by omega, by omega⟩
      have e : (if l.getD k default ∈ l.take k then some (D.i 1) else none).getD (.i 0) = .i (if l.getD k default ∈ l.take k then 1 else 0) := by split <;> rfl
      rw [e]
      refine ⟨fun hb => ?_, fun hb => ⟨hr, ?_⟩⟩
      · have : symAt l k = false := by
          simp only [symAt, okY]
          generalize l.getD k default = z at hb ⊢
          by_cases hm : z ∈ l.take k
          · simp [hm]
          · simp [hm] at hb ⊢
            intro h1 h2
            omega
        rw [all_not hkl this]
        simp
      · have hs : symAt l k = true := by
          simp only [symAt, okY]
          generalize l.getD k default = z at hb ⊢
          by_cases hm : z ∈ l.take k
          · simp [hm] at hb
          · simp [hm] at hb ⊢
            omega
        rw [updB, if_pos rfl]
        refine ⟨⟨k + 1, _, hkl, ?_, upto_succ hP hs, hL.put hkl⟩, ?_⟩
        · simp
        · simp [D.int]
          omega
    · have : k = l.length := by omega
      subst this
      rw [all_yes hP]
      simp [h0]
end Go.Proofs.Ytinclokohcommaa


namespace Go.Proofs.Ytinclokohcommaa
open Go.RowKit
set_option linter.unusedVariables false
set_option linter.unusedSimpArgs false

theorem symsB_ar {s : So} (h : symsB s.ys = true) (n : Int) : -1 ≤ arS s n ∧ arS s n ≤ 8 := by
  unfold arS
  split
  · rename_i hn
    simp only [symsB, Bool.and_eq_true] at h
    have := all_of h.2 (k := n.toNat) (by omega)
    simp only [symAt, okY, Bool.and_eq_true, decide_eq_true_eq] at this
    omega
  · omega
def endsN (s : So) : Nat → Int → Bool
  | 0, _ => false
  | k + 1, n => if tagS s n = 0 ∧ ¬ (cellAt s n).n = n then endsN s k (cellAt s n).n else true
def endsB (s : So) (n : Int) : Bool := endsN s (s.cs.length + 1) n

theorem tag_in' {s : So} {i : Int} {t : Int} (ht : t ≠ -1) (h : tagS s i = t) : inS s i = true := by
  cases hi : inS s i with
  | true => rfl
  | false => rw [tagS_out hi] at h; exact absurd h.symm ht

theorem ok_ref30_ends : FOk q1s (gSIb endsB) := fok_ref30_ends q3c fun ds outs hw hg => by
  obtain ⟨d, r, rfl, hd, e, r', rfl, he, rfl⟩ := hw
  obtain ⟨s, rfl, hs⟩ := wfS hd
  obtain ⟨i, rfl, hi⟩ := wfI he
  simp only [gSIb, dS_eS, int_i, Option.some.injEq] at hg
  subst hg
  have hl := hs.cs.1
  simp only [q44, Tree.go, allSay, X.says, X.ev, X.evs, evl, tblS, List.getD_cons_zero, List.getD_cons_succ, List.getElem?_cons_zero, List.getElem?_cons_succ, tt_b, int_i, str_s, rs_r, Option.isSome_some, Option.getD_some, decide_eq_true_eq, decide_eq_false_iff_not, dS_eS, dC_eC, dU_eU, dW_eW, dY_eY, eC_0, eC_1, eU_0, eU_1, eW_0, eW_1, eW_2, eY_0, eY_1, eS_0, eS_1, eS_2, eS_3, eS_4, eS_5, List.length_map, i_inj, b_inj, s_inj, eC_eq, eU_eq, eW_eq, eY_eq, eS_eq, rng64, List.take_succ_cons, List.take_zero, List.nil_append, List.cons_append, decide_true, decide_false, Bool.or_true, true_and, and_true, gSIi]
  refine ⟨fun st => ∃ (k : Nat) (m : Int), k ≤ s.cs.length + 1 ∧ st = [.b false, .i m, .i k] ∧ endsN s (s.cs.length + 1 - k) m = endsB s i, fun st => s.cs.length + 1 - (st.getD 2 .u).int.toNat, ⟨0, i, Nat.zero_le _, rfl, rfl⟩, ?_⟩
  rintro st - ⟨k, m, hk, rfl, hP⟩
  simp only [Tree.go, allSay, X.says, X.ev, X.evs, evl, tblS, List.getD_cons_zero, List.getD_cons_succ, List.getElem?_cons_zero, List.getElem?_cons_succ, tt_b, int_i, str_s, rs_r, Option.isSome_some, Option.getD_some, decide_eq_true_eq, decide_eq_false_iff_not, dS_eS, dC_eC, dU_eU, dW_eW, dY_eY, eC_0, eC_1, eU_0, eU_1, eW_0, eW_1, eW_2, eY_0, eY_1, eS_0, eS_1, eS_2, eS_3, eS_4, eS_5, List.length_map, i_inj, b_inj, s_inj, eC_eq, eU_eq, eW_eq, eY_eq, eS_eq, rng64, List.take_succ_cons, List.take_zero, List.nil_append, List.cons_append, decide_true, decide_false, Bool.or_true, true_and, and_true, gSIi]
  refine ⟨fun hlt => ?_, fun hlt => ?_⟩
  · have hkl : k ≤ s.cs.length := by omega
    have hr : i64 ((k : Int) + 1) := ⟨by omega, by omega⟩
    obtain ⟨n, hn⟩ : ∃ n, s.cs.length + 1 - k = n + 1 := ⟨s.cs.length - k, by omega⟩
    rw [hn] at hP
    unfold endsN at hP
    have hn2 : s.cs.length + 1 - (k + 1) = n := by omega
    by_cases ht : tagS s m = 0
    · have hin := tag_in' (by decide) ht
      have h3 := inS_iff.1 hin
      simp only [ht, cell_get hin, eC_1, h3.1, h3.2, int_i, i_inj, hr] at hP ⊢
      refine ⟨by simp, fun hx => ?_, fun hx => ?_⟩
      · have : (cellAt s m).n = m := by simpa using hx
        rw [if_neg (by simp [this])] at hP
        simp [← hP]
      · have hx' : ¬ (cellAt s m).n = m := by simpa using hx
        rw [if_pos ⟨trivial, hx'⟩] at hP
        refine ⟨⟨trivial, trivial⟩, ⟨trivial, trivial⟩, ?_⟩
        rw [updB, if_pos rfl]
        refine ⟨⟨k + 1, (cellAt s m).n, by omega, by simp, by rw [hn2]; exact hP⟩, ?_⟩
        simp [D.int]
        omega
    · rw [if_neg (by simp [ht])] at hP
      simp [ht, ← hP]
  · have : k = s.cs.length + 1 := by omega
    subst this
    rw [Nat.sub_self] at hP
    simp [← hP, endsN]

def cellR (s : So) (i : Int) : Bool :=
  if (cellAt s i).t = 4 then decide (1 ≤ arS s (cellAt s i).n) && (inS s (i + arS s (cellAt s i).n) && (List.range (arS s (cellAt s i).n).toNat).all fun j => !decide (tagS s (i + ((j : Int) + 1)) = 4))
  else vcR s (cellAt s i) && (endsB s i && (!decide ((cellAt s i).t = 5) || (decide ((cellAt s i).n = i) && groupS s i)))
def cellQ (s : So) (i : Int) : Bool := inS s i && symsB s.ys

theorem ok_ref30_cell : FOk q1k (gSIbP cellQ cellR) := fok_ref30_cell ok_ref30_arity q37 q3c q2n ok_ref30_ends ok_ref30_group fun ds outs hw hg => by
  obtain ⟨d, r, rfl, hd, e, r', rfl, he, rfl⟩ := hw
  obtain ⟨s, rfl, hs⟩ := wfS hd
  obtain ⟨i, rfl, hi⟩ := wfI he
  simp only [gSIbP, dS_eS, int_i, Option.ite_none_right_eq_some, Option.some.injEq, cellQ, Bool.and_eq_true] at hg
  obtain ⟨⟨hin, hy⟩, rfl⟩ := hg
  have h1 := inS_iff.1 hin
  have hl := hs.cs.1
  obtain ⟨ha, hb⟩ := symsB_ar hy (cellAt s i).n
  simp only [q43, Tree.go, allSay, X.says, X.ev, X.evs, evl, tblS, List.getD_cons_zero, List.getD_cons_succ, List.getElem?_cons_zero, List.getElem?_cons_succ, tt_b, int_i, str_s, rs_r, Option.isSome_some, Option.getD_some, decide_eq_true_eq, decide_eq_false_iff_not, dS_eS, dC_eC, dU_eU, dW_eW, dY_eY, eC_0, eC_1, eU_0, eU_1, eW_0, eW_1, eW_2, eY_0, eY_1, eS_0, eS_1, eS_2, eS_3, eS_4, eS_5, List.length_map, i_inj, b_inj, s_inj, eC_eq, eU_eq, eW_eq, eY_eq, eS_eq, rng64, List.take_succ_cons, List.take_zero, List.nil_append, List.cons_append, decide_true, decide_false, Bool.or_true, true_and, and_true, gSIi, gSIb, gSCb, gSIbP, cell_get hin, h1.1, h1.2, hin, if_true]
  unfold cellR
  generalize arS s (cellAt s i).n = K at ha hb ⊢
  refine ⟨fun h4 => ?_, fun h4 => ?_⟩
  · have hr : i64 (i + K) := ⟨by omega, by omega⟩
    simp only [h4, hr, if_true]
    refine ⟨by simp [rng64, hr.1, hr.2], fun hx => ?_, fun hx => ?_⟩
    · have hx' : K < 1 ∨ inS s (i + K) = false := by simpa using hx
      rcases hx' with hx | hx
      · have : ¬ (1 ≤ K) := by omega
        simp [this]
      · simp [hx]
    · have hx' : 1 ≤ K ∧ inS s (i + K) = true := by simpa using hx
      obtain ⟨hk, hin2⟩ := hx'
      simp only [hk, hin2]
      refine ⟨fun st => ∃ (j : Nat), (j : Int) ≤ K ∧ st = [.b false, .i ((j : Int) + 1)] ∧ ∀ m : Nat, m < j → (!decide (tagS s (i + ((m : Int) + 1)) = 4)) = true, fun st => K.toNat + 1 - (st.getD 1 .u).int.toNat, ⟨0, by omega, by simp, fun m hm => absurd hm (Nat.not_lt_zero _)⟩, ?_⟩
      rintro st - ⟨j, hj, rfl, hP⟩
      simp only [Tree.go, allSay, X.says, X.ev, X.evs, evl, tblS, List.getD_cons_zero, List.getD_cons_succ, List.getElem?_cons_zero, List.getElem?_cons_succ, tt_b, int_i, str_s, rs_r, Option.isSome_some, Option.getD_some, decide_eq_true_eq, decide_eq_false_iff_not, dS_eS, dC_eC, dU_eU, dW_eW, dY_eY, eC_0, eC_1, eU_0, eU_1, eW_0, eW_1, eW_2, eY_0, eY_1, eS_0, eS_1, eS_2, eS_3, eS_4, eS_5, List.length_map, i_inj, b_inj, s_inj, eC_eq, eU_eq, eW_eq, eY_eq, eS_eq, rng64, List.take_succ_cons, List.take_zero, List.nil_append, List.cons_append, decide_true, decide_false, Bool.or_true, true_and, and_true, gSIi]
      refine ⟨fun hlt => ?_, fun hlt => ?_⟩
      · have hr2 : i64 (i + ((j : Int) + 1)) := ⟨by omega, by omega⟩
        have hr3 : i64 (((j : Int) + 1) + 1) := ⟨by omega, by omega⟩
        refine ⟨hr2, fun hx => ?_, fun hx => ⟨hr3, ?_⟩⟩
        · rw [all_not (k := j) (by omega) (by simp [hx])]
          simp
        · rw [updB, if_pos rfl]
          refine ⟨⟨j + 1, by omega, by simp, upto_succ hP (by simp [hx])⟩, ?_⟩
          simp [D.int]
          omega
      · have : j = K.toNat := by omega
        subst this
        rw [all_yes hP]
        simp
  · simp only [h4, if_false]
    refine ⟨fun hx => ?_, fun hx => ?_⟩
    · have hx' : vcR s (cellAt s i) = false ∨ endsB s i = false := by simpa using hx
      rcases hx' with hx | hx <;> simp [hx]
    · have hx' : vcR s (cellAt s i) = true ∧ endsB s i = true := by simpa using hx
      simp [hx'.1, hx'.2]

def fitsP (s : So) (i : Int) : Bool :=
  if (cellAt s i).t = 4 then decide (1 ≤ arS s (cellAt s i).n) && (List.range (arS s (cellAt s i).n).toNat).all fun j => decide (0 ≤ tagS s (i + ((j : Int) + 1))) && !decide (tagS s (i + ((j : Int) + 1)) = 4)
  else if (cellAt s i).t = 5 then decide ((cellAt s i).n = i) && groupS s i else vcP s (cellAt s i)
def oldB (vc : So → Ce → Bool) (rg : So → Int → Bool) (s : So) (u : Un) : Bool :=
  rg s u.at' && if u.old.t = 0 then decide (u.old.n = u.at') else if u.old.t = 5 then decide (u.old.n = u.at') && (groupS s u.at' && !decide (tagS s (u.at' - 1) = 5)) else if u.old.t = 1 ∨ u.old.t = 2 ∨ u.old.t = 3 then vc s u.old else false
def oldR : So → Un → Bool := oldB vcR inS
def oldP : So → Un → Bool := oldB vcP fun s i => decide (0 ≤ tagS s i)
theorem ok_ref30_old : FOk q1q (gSUb oldR) := fok_ref30_old q37 ok_ref30_group q3c q2n fun ds outs hw hg => by
  obtain ⟨d, r, rfl, hd, e, r', rfl, he, rfl⟩ := hw
  obtain ⟨s, rfl, hs⟩ := wfS hd
  obtain ⟨u, rfl, hu⟩ := wfU he
  simp only [gSUb, dS_eS, dU_eU, Option.some.injEq] at hg
  subst hg
  have hl := hs.cs.1
  simp only [q4m, Tree.go, allSay, X.says, X.ev, X.evs, evl, tblS, List.getD_cons_zero, List.getD_cons_succ, List.getElem?_cons_zero, List.getElem?_cons_succ, tt_b, int_i, str_s, rs_r, Option.isSome_some, Option.getD_some, decide_eq_true_eq, decide_eq_false_iff_not, dS_eS, dC_eC, dU_eU, dW_eW, dY_eY, eC_0, eC_1, eU_0, eU_1, eW_0, eW_1, eW_2, eY_0, eY_1, eS_0, eS_1, eS_2, eS_3, eS_4, eS_5, List.length_map, i_inj, b_inj, s_inj, eC_eq, eU_eq, eW_eq, eY_eq, eS_eq, rng64, List.take_succ_cons, List.take_zero, List.nil_append, List.cons_append, decide_true, decide_false, Bool.or_true, true_and, and_true, gSIi, gSIb, gSCb, gSIbP, oldR, oldB]
  cases hin : inS s u.at' with
  | false => simp
  | true =>
    have h1 := inS_iff.1 hin
    have hr : i64 (u.at' - 1) := ⟨by omega, by omega⟩
    simp only [hr, if_true]
    by_cases h0 : u.old.t = 0
    · simp [h0]
    · by_cases h5 : u.old.t = 5
      · simp [h5, Bool.and_assoc, tt_b, rng64, hr.1, hr.2]
      · by_cases h2 : u.old.t = 1
        · simp [h2]
        · by_cases h3 : u.old.t = 2
          · simp [h3]
          · by_cases h4 : u.old.t = 3
            · simp [h4]
            · simp [h0, h5, h2, h3, h4]
end Go.Proofs.Ytinclokohcommaa


namespace Go.Proofs.Ytinclokohcommaa
open Go.RowKit
set_option linter.unusedVariables false
set_option linter.unusedSimpArgs false

section
variable {s : So}

def Ns (s : So) (n : Int) : Prop := tagS s n = 0 ∧ ¬ (cellAt s n).n = n
abbrev nx (s : So) (n : Int) : Int := (cellAt s n).n
theorem endsN_ns {k : Nat} {n : Int} (h : Ns s n) : endsN s (k + 1) n = endsN s k (nx s n) := if_pos h
theorem endsN_st {k : Nat} {n : Int} (h : ¬ Ns s n) : endsN s (k + 1) n = true := if_neg h
theorem Ns.inS {n : Int} (h : Ns s n) : inS s n = true := tag_in' (by decide) h.1
theorem endsN_up {k : Nat} : ∀ {n : Int}, endsN s k n = true → endsN s (k + 1) n = true := by
  induction k with
  | zero => intro n h; cases h
  | succ k ih =>
    intro n h
    by_cases hn : Ns s n
    · rw [endsN_ns hn] at h ⊢
      exact ih h
    · exact endsN_st hn
theorem endsN_le {k j : Nat} (hk : k ≤ j) {n : Int} (h : endsN s k n = true) : endsN s j n = true := by
  obtain ⟨d, rfl⟩ := Nat.exists_eq_add_of_le hk
  clear hk
  induction d with
  | zero => exact h
  | succ d ih => exact endsN_up ih
def En (s : So) (n : Int) : Prop := ∃ k, endsN s k n = true
theorem En.st {n : Int} (h : ¬ Ns s n) : En s n := ⟨1, endsN_st h⟩
theorem En.ns {n : Int} (h : Ns s n) (he : En s (nx s n)) : En s n := let ⟨k, hk⟩ := he; ⟨k + 1, (endsN_ns h).trans hk⟩

theorem nodup_lt : ∀ (n : Nat) (l : List Nat), l.Nodup → (∀ x ∈ l, x < n) → l.length ≤ n
  | 0, [], _, _ => Nat.le_refl _
  | 0, x :: l, _, h => absurd (h x List.mem_cons_self) (Nat.not_lt_zero _)
  | n + 1, l, hn, h => by
    have h1 := nodup_lt n (l.erase n) (hn.erase n) fun x hx => by
      have h2 := (hn.mem_erase_iff).1 hx
      have := h x h2.2
      have := h2.1
      omega
    have h2 := List.length_erase (a := n) (l := l)
    split at h2 <;> omega

theorem rank_list : ∀ (k : Nat) (n : Int), endsN s (k + 1) n = true → endsN s k n = false → ∃ l : List Int, l.length = k ∧ l.Nodup ∧ (∀ x ∈ l, inS s x = true) ∧ ∀ x ∈ l, ∃ j, j ≤ k ∧ endsN s (j + 1) x = true
  | 0, n, _, _ => ⟨[], rfl, List.nodup_nil, (fun x hx => by cases hx), fun x hx => by cases hx⟩
  | k + 1, n, h1, h2 => by
    have hn : Ns s n := Classical.byContradiction fun hn => by rw [endsN_st hn] at h2; cases h2
    rw [endsN_ns hn] at h1 h2
    obtain ⟨l, e1, e2, e3, e4⟩ := rank_list k _ h1 h2
    refine ⟨n :: l, by simp [e1], ?_, fun x hx => ?_, fun x hx => ?_⟩
    · refine List.nodup_cons.2 ⟨fun hm => ?_, e2⟩
      obtain ⟨j, hj, he⟩ := e4 n hm
      rw [endsN_ns hn] at he
      rw [endsN_le hj he] at h2
      cases h2
    · rcases List.mem_cons.1 hx with rfl | hx
      · exact hn.inS
      · exact e3 x hx
    · rcases List.mem_cons.1 hx with rfl | hx
      · exact ⟨k + 1, Nat.le_refl _, by rw [endsN_ns hn]; exact h1⟩
      · obtain ⟨j, hj, he⟩ := e4 x hx
        exact ⟨j, by omega, he⟩
theorem En.ends {n : Int} (h : En s n) : endsB s n = true := by
  obtain ⟨k, hk⟩ := h
  induction k with
  | zero => cases hk
  | succ k ih =>
    cases hk' : endsN s k n with
    | true => exact ih hk'
    | false =>
      obtain ⟨l, e1, e2, e3, -⟩ := rank_list k n hk hk'
      have h1 := nodup_lt s.cs.length (l.map Int.toNat) ?_ ?_
      · rw [List.length_map, e1] at h1
        exact endsN_le (by omega) hk
      · refine List.Pairwise.map _ (fun a b h => h) ?_
        refine List.Pairwise.imp_of_mem (R := fun a b => a ≠ b) (fun {a b} ha hb hab e => hab ?_) e2
        have h1 := inS_iff.1 (e3 a ha)
        have h2 := inS_iff.1 (e3 b hb)
        omega
      · intro x hx
        obtain ⟨a, ha, rfl⟩ := List.mem_map.1 hx
        have h1 := inS_iff.1 (e3 a ha)
        omega

def Ch (s : So) : List Int → Int → Prop
  | [], _ => True
  | q :: l, a => Ns s q ∧ nx s q = l.headD a ∧ Ch s l a
theorem Ch.en : ∀ {l : List Int} {a : Int}, Ch s l a → En s a → ∀ q ∈ l, En s q
  | [], a, _, _, q, hq => by cases hq
  | q :: l, a, ⟨g1, g2, g3⟩, he, x, hx => by
    have ih := Ch.en g3 he
    rcases List.mem_cons.1 hx with rfl | hx
    · refine En.ns g1 ?_
      rw [g2]
      cases l with
      | nil => exact he
      | cons y l => exact ih y List.mem_cons_self
    · exact ih x hx
theorem Ch.next : ∀ {l : List Int} {a : Int}, Ch s l a → ∀ q ∈ l, Ns s q ∧ (nx s q ∈ l ∨ nx s q = a)
  | [], a, _, q, hq => by cases hq
  | q :: l, a, ⟨g1, g2, g3⟩, x, hx => by
    rcases List.mem_cons.1 hx with rfl | hx
    · refine ⟨g1, ?_⟩
      rw [g2]
      cases l with
      | nil => exact .inr rfl
      | cons y l => exact .inl (by simp)
    · obtain ⟨h1, h2⟩ := Ch.next g3 x hx
      exact ⟨h1, h2.imp (List.mem_cons_of_mem _) id⟩
structure Mk0 (s : So) (m : List Int) : Prop where
  len : m.length = s.cs.length
  en : ∀ j : Nat, m.getD j 0 = 2 → En s j
end
end Go.Proofs.Ytinclokohcommaa


namespace Go.Proofs.Ytinclokohcommaa
open Go.RowKit
set_option linter.unusedVariables false
set_option linter.unusedSimpArgs false

instance {s : So} {n : Int} : Decidable (Ns s n) := inferInstanceAs (Decidable (_ ∧ _))

end Go.Proofs.Ytinclokohcommaa


namespace Go.Proofs.Ytinclokohcommaa
open Go.RowKit
set_option linter.unusedVariables false
set_option linter.unusedSimpArgs false

theorem scan_ok {S : Nat → List D → Option (List D)} {R : List D → Prop} {id n : Nat} {x0 : X} {body : Tree} {l : List D} {B : Nat → List D → Prop} {v0 : D} (N : Nat) (P : Nat → Bool) (h0 : x0.ev (evl S l) = v0)
    (h : ∀ (k : Nat) (B' : Nat → List D → Prop), k ≤ N → (∀ j, j < k → P j = true) → (k < N → P k = true → B' id [v0, .i ((k : Int) + 1)]) → (∀ j, j ≠ id → B' j = B j) → body.go S R (l.take n ++ [v0, .i k]) B') : (Tree.loop id n [x0, .lit (.i 0)] body).go S R l B := by
  rw [q1y]
  refine ⟨fun st => ∃ k : Nat, k ≤ N ∧ st = [v0, .i k] ∧ ∀ j, j < k → P j = true, fun st => N - (st.getD 1 .u).int.toNat, ⟨0, Nat.zero_le _, by simp [X.evs, X.ev, h0], fun j hj => absurd hj (Nat.not_lt_zero _)⟩, ?_⟩
  rintro st - ⟨k, hk, rfl, hP⟩
  refine h k _ hk hP (fun hlt hp => ?_) fun j hj => by rw [updB, if_neg hj]
  rw [updB, if_pos rfl]
  refine ⟨⟨k + 1, hlt, by simp, upto_succ hP hp⟩, ?_⟩
  simp [D.int]
  omega

def wkB (vc : So → Ce → Bool) (s : So) (w : Wk) : Bool := decide (1 ≤ w.ser) && (decide (w.ser ≤ s.ser) && (vc s w.att && vc s w.val))
def headB (s : So) : Bool := decide (1 ≤ s.mx) && (decide (s.mx ≤ 1048576) && (decide ((s.cs.length : Int) ≤ s.mx) && (decide (0 ≤ s.ser) && symsB s.ys)))
def validR (s : So) : Bool := headB s && ((List.range s.cs.length).all (fun i => cellR s (i : Nat)) && ((List.range s.tr.length).all (fun i => oldR s (s.tr.getD i default)) && (List.range s.wk.length).all fun i => wkB vcR s (s.wk.getD i default)))
theorem ok_ref30_Valid : FOk q1o (gSb validR) := fok_ref30_Valid ok_ref30_symbols ok_ref30_cell ok_ref30_old q2n fun ds outs hw hg => by
  obtain ⟨d, r, rfl, hd, rfl⟩ := hw
  obtain ⟨s, rfl, hs⟩ := wfS hd
  simp only [gSb, dS_eS, Option.some.injEq] at hg
  subst hg
  have hl := hs.cs.1
  have hl2 := hs.tr.1
  have hl3 := hs.wk.1
  have hsy : gYsb symsB [D.r (s.ys.map eY)] = some [.b (symsB s.ys)] := by simp [gYsb, rs_r, map_id' dY_eY]
  rw [q3w, q02]
  refine ⟨by simp only [q02, go_br, q01, q03, allSay, X.says, X.ev, X.evs, evl, tblS, List.getD_cons_zero, List.getD_cons_succ, List.getElem?_cons_zero, List.getElem?_cons_succ, tt_b, int_i, str_s, rs_r, Option.isSome_some, Option.getD_some, decide_eq_true_eq, decide_eq_false_iff_not, dS_eS, dC_eC, dU_eU, dW_eW, dY_eY, eC_0, eC_1, eU_0, eU_1, eW_0, eW_1, eW_2, eY_0, eY_1, eS_0, eS_1, eS_2, eS_3, eS_4, eS_5, List.length_map, i_inj, b_inj, s_inj, eC_eq, eU_eq, eW_eq, eY_eq, eS_eq, rng64, List.take_succ_cons, List.take_zero, List.nil_append, List.cons_append, decide_true, decide_false, Bool.or_true, true_and, and_true, hsy], ?_⟩
  rw [go_br]
  have hcond : (X.ev (evl (tblS [(q19, gYsb symsB), (q1k, gSIbP cellQ cellR), (q1q, gSUb oldR), (q0b, gSCb vcR)]) [eS s]) (.or (.or (.or (.or (.lt (.fld (.tok 0) 5) (.lit (.i 1))) (.lt (.lit (.i 1048576)) (.fld (.tok 0) 5))) (.lt (.fld (.tok 0) 5) (.len (.fld (.tok 0) 0)))) (.lt (.fld (.tok 0) 4) (.lit (.i 0)))) (.not (.call 0 0 [(.fld (.tok 0) 1)])))).tt = !headB s := by
    simp only [q02, go_br, q01, q03, allSay, X.says, X.ev, X.evs, evl, tblS, List.getD_cons_zero, List.getD_cons_succ, List.getElem?_cons_zero, List.getElem?_cons_succ, tt_b, int_i, str_s, rs_r, Option.isSome_some, Option.getD_some, decide_eq_true_eq, decide_eq_false_iff_not, dS_eS, dC_eC, dU_eU, dW_eW, dY_eY, eC_0, eC_1, eU_0, eU_1, eW_0, eW_1, eW_2, eY_0, eY_1, eS_0, eS_1, eS_2, eS_3, eS_4, eS_5, List.length_map, i_inj, b_inj, s_inj, eC_eq, eU_eq, eW_eq, eY_eq, eS_eq, rng64, List.take_succ_cons, List.take_zero, List.nil_append, List.cons_append, decide_true, decide_false, Bool.or_true, true_and, and_true, hsy, headB]
    by_cases h1 : s.mx < 1
    · have : ¬ 1 ≤ s.mx := by omega
      simp [h1, this]
    · by_cases h2 : 1048576 < s.mx
      · have : ¬ s.mx ≤ 1048576 := by omega
        simp [h2, this]
      · by_cases h3 : s.mx < s.cs.length
        · have : ¬ (s.cs.length : Int) ≤ s.mx := by omega
          simp [h3, this]
        · by_cases h4 : s.ser < 0
          · have : ¬ 0 ≤ s.ser := by omega
            simp [h4, this]
          · have a1 : 1 ≤ s.mx := by omega
            have a2 : s.mx ≤ 1048576 := by omega
            have a3 : (s.cs.length : Int) ≤ s.mx := by omega
            have a4 : 0 ≤ s.ser := by omega
            simp [h1, h2, h3, h4, a1, a2, a3, a4]
  refine ⟨fun hx => ?_, fun hx => ?_⟩
  · have hh : headB s = false := by
      have := hcond.symm.trans hx
      simpa using this
    simp [q01, X.evs, X.ev, validR, hh]
  have hh : headB s = true := by
    have := hcond.symm.trans hx
    simpa using this
  have hsy2 : symsB s.ys = true := by
    simp only [headB, Bool.and_eq_true] at hh
    exact hh.2.2.2.2
  refine scan_ok s.cs.length (fun i => cellR s (i : Nat)) (v0 := .b false) rfl fun k B' hk hP hB _ => ?_
  rw [go_br]
  refine ⟨fun hlt => ?_, fun hlt => ?_⟩
  · have hkl : k < s.cs.length := by simpa [X.ev, evl, eS_0, D.int, D.rs, D.tt] using hlt
    have hin : inS s (k : Nat) = true := inS_iff.2 ⟨by omega, by omega⟩
    have hQ : cellQ s (k : Nat) = true := by simp [cellQ, hin, hsy2]
    simp only [q02, go_br, q01, q03, allSay, X.says, X.ev, X.evs, evl, tblS, List.getD_cons_zero, List.getD_cons_succ, List.getElem?_cons_zero, List.getElem?_cons_succ, tt_b, int_i, str_s, rs_r, Option.isSome_some, Option.getD_some, decide_eq_true_eq, decide_eq_false_iff_not, dS_eS, dC_eC, dU_eU, dW_eW, dY_eY, eC_0, eC_1, eU_0, eU_1, eW_0, eW_1, eW_2, eY_0, eY_1, eS_0, eS_1, eS_2, eS_3, eS_4, eS_5, List.length_map, i_inj, b_inj, s_inj, eC_eq, eU_eq, eW_eq, eY_eq, eS_eq, rng64, List.take_succ_cons, List.take_zero, List.nil_append, List.cons_append, decide_true, decide_false, Bool.or_true, true_and, and_true, gSIbP, hQ, if_true]
    refine ⟨fun hb => ?_, fun hb => ⟨⟨by omega, by omega⟩, ?_⟩⟩
    · have : cellR s (k : Nat) = false := by simpa using hb
      have := all_not (P := fun i => cellR s (i : Nat)) hkl this
      simp [validR, this]
    · exact hB hkl (by simpa using hb)
  have hc : (List.range s.cs.length).all (fun i => cellR s (i : Nat)) = true := by
    have : k = s.cs.length := by
      have : ¬ (k < s.cs.length) := by simpa [X.ev, evl, eS_0, D.int, D.rs, D.tt] using hlt
      omega
    subst this
    exact all_yes hP
  refine scan_ok s.tr.length (fun i => oldR s (s.tr.getD i default)) (v0 := .b false) rfl fun k B' hk hP hB _ => ?_
  rw [go_br]
  refine ⟨fun hlt => ?_, fun hlt => ?_⟩
  · have hkl : k < s.tr.length := by simpa [X.ev, evl, eS_2, D.int, D.rs, D.tt] using hlt
    simp only [q02, go_br, q01, q03, allSay, X.says, X.ev, X.evs, evl, tblS, List.getD_cons_zero, List.getD_cons_succ, List.getElem?_cons_zero, List.getElem?_cons_succ, tt_b, int_i, str_s, rs_r, Option.isSome_some, Option.getD_some, decide_eq_true_eq, decide_eq_false_iff_not, dS_eS, dC_eC, dU_eU, dW_eW, dY_eY, eC_0, eC_1, eU_0, eU_1, eW_0, eW_1, eW_2, eY_0, eY_1, eS_0, eS_1, eS_2, eS_3, eS_4, eS_5, List.length_map, i_inj, b_inj, s_inj, eC_eq, eU_eq, eW_eq, eY_eq, eS_eq, rng64, List.take_succ_cons, List.take_zero, List.nil_append, List.cons_append, decide_true, decide_false, Bool.or_true, true_and, and_true, gSUb, get_n eU hkl]
    refine ⟨⟨by omega, by omega⟩, fun hb => ?_, fun hb => ⟨⟨by omega, by omega⟩, ?_⟩⟩
    · have : oldR s (s.tr.getD k default) = false := by simpa only [Bool.not_eq_true'] using hb
      have := all_not (P := fun i => oldR s (s.tr.getD i default)) hkl this
      simp only [validR, this, Bool.false_and, Bool.and_false]
    · exact hB hkl (by simpa only [Bool.not_eq_false'] using hb)
  have hc2 : (List.range s.tr.length).all (fun i => oldR s (s.tr.getD i default)) = true := by
    have : k = s.tr.length := by
      have : ¬ (k < s.tr.length) := by simpa [X.ev, evl, eS_2, D.int, D.rs, D.tt] using hlt
      omega
    subst this
    exact all_yes hP
  refine scan_ok s.wk.length (fun i => wkB vcR s (s.wk.getD i default)) (v0 := .b false) rfl fun k B' hk hP hB _ => ?_
  rw [go_br]
  refine ⟨fun hlt => ?_, fun hlt => ?_⟩
  · have hkl : k < s.wk.length := by simpa [X.ev, evl, eS_3, D.int, D.rs, D.tt] using hlt
    simp only [q02, go_br, q01, q03, allSay, X.says, X.ev, X.evs, evl, tblS, List.getD_cons_zero, List.getD_cons_succ, List.getElem?_cons_zero, List.getElem?_cons_succ, tt_b, int_i, str_s, rs_r, Option.isSome_some, Option.getD_some, decide_eq_true_eq, decide_eq_false_iff_not, dS_eS, dC_eC, dU_eU, dW_eW, dY_eY, eC_0, eC_1, eU_0, eU_1, eW_0, eW_1, eW_2, eY_0, eY_1, eS_0, eS_1, eS_2, eS_3, eS_4, eS_5, List.length_map, i_inj, b_inj, s_inj, eC_eq, eU_eq, eW_eq, eY_eq, eS_eq, rng64, List.take_succ_cons, List.take_zero, List.nil_append, List.cons_append, decide_true, decide_false, Bool.or_true, true_and, and_true, gSCb, get_n eW hkl]
    have hw : ((decide ((s.wk.getD k default).ser < 1) || decide (s.ser < (s.wk.getD k default).ser) || !vcR s (s.wk.getD k default).att || !vcR s (s.wk.getD k default).val)) = !wkB vcR s (s.wk.getD k default) := by
      generalize s.wk.getD k default = w
      simp only [wkB]
      by_cases h1 : w.ser < 1
      · have : ¬ 1 ≤ w.ser := by omega
        simp [h1, this]
      · by_cases h2 : s.ser < w.ser
        · have : ¬ w.ser ≤ s.ser := by omega
          simp [h2, this]
        · have a1 : 1 ≤ w.ser := by omega
          have a2 : w.ser ≤ s.ser := by omega
          simp [h1, h2, a1, a2]
    refine ⟨⟨by omega, by omega⟩, fun hb => ?_, fun hb => ⟨⟨by omega, by omega⟩, ?_⟩⟩
    · rw [hw] at hb
      have := all_not (P := fun i => wkB vcR s (s.wk.getD i default)) hkl (by simpa only [Bool.not_eq_true'] using hb)
      simp only [validR, this, Bool.and_false]
    · rw [hw] at hb
      exact hB hkl (by simpa only [Bool.not_eq_false'] using hb)
  have hc3 : (List.range s.wk.length).all (fun i => wkB vcR s (s.wk.getD i default)) = true := by
    have : k = s.wk.length := by
      have : ¬ (k < s.wk.length) := by simpa [X.ev, evl, eS_3, D.int, D.rs, D.tt] using hlt
      omega
    subst this
    exact all_yes hP
  simp only [q01, X.evs, X.ev, validR, hh, hc, hc2, hc3, Bool.and_true]
end Go.Proofs.Ytinclokohcommaa


namespace Go.Proofs.Ytinclokohcommaa
open Go.RowKit
set_option linter.unusedVariables false
set_option linter.unusedSimpArgs false

theorem rows_eq {l m : List D} (hl : l.length = m.length) (h : ∀ j, j < l.length → l.getD j .u = m.getD j .u) : l = m := by
  refine List.ext_getElem hl fun j h1 h2 => ?_
  have := h j h1
  simpa [List.getD_eq_getElem?_getD, h1, h2] using this
theorem get_k (l : List D) (k : Nat) : (D.r l).get (k : Int) = l.getD k .u := rfl

def rowQ (n : Nat) (d : D) : Bool := decide (d.rs.length ≤ n)
theorem rowQ_r (n : Nat) (l : List D) : (rowQ n (.r l) = true) = (l.length ≤ n) := by simp only [rowQ, decide_eq_true_eq]; rfl
def gCl (n : Nat) : List D → Option (List D)
  | [a] => if rowQ n a then some [a] else none
  | _ => none
def clT (n : Nat) : Tree := (.amb (.tok 0) .false (.leaf [(.lit (.r []))]) (.need [(.le (.add (.lit (.i 0)) (.len (.tok 0))) (.lit (.i (n : Nat))))] (.leaf [(.app (.row []) (.tok 0))])))
theorem clT_ok {S : Nat → List D → Option (List D)} {l : List D} {R : List D → Prop} {B : Nat → List D → Prop} {n : Nat} (hl : l.length ≤ n) (hR : R [.r l]) : (clT n).go S R [.r l] B := by
  refine ⟨fun h => ?_, fun _ => ?_⟩
  · have : l = [] := h rfl
    subst this
    exact hR
  · rw [q02]
    refine ⟨by simp only [q02, go_br, q01, q03, allSay, X.says, X.ev, X.evs, evl, tblS, List.getD_cons_zero, List.getD_cons_succ, List.getElem?_cons_zero, List.getElem?_cons_succ, tt_b, int_i, str_s, rs_r, Option.isSome_some, Option.getD_some, decide_eq_true_eq, decide_eq_false_iff_not, dS_eS, dC_eC, dU_eU, dW_eW, dY_eY, eC_0, eC_1, eU_0, eU_1, eW_0, eW_1, eW_2, eY_0, eY_1, eS_0, eS_1, eS_2, eS_3, eS_4, eS_5, List.length_map, i_inj, b_inj, s_inj, eC_eq, eU_eq, eW_eq, eY_eq, eS_eq, rng64, List.take_succ_cons, List.take_zero, List.nil_append, List.cons_append, decide_true, decide_false, Bool.or_true, true_and, and_true]; omega, ?_⟩
    simpa [q01, X.evs, X.ev, evl, D.rs] using hR
def clQ (s : So) : Bool := decide (s.cs.length ≤ 8796093021952) && (decide (s.ys.length ≤ 5864062014634) && (decide (s.tr.length ≤ 5864062014634) && decide (s.wk.length ≤ 3518437208780)))
def gClone : List D → Option (List D)
  | [s] => if clQ (dS s) then some [eS (dS s)] else none
  | _ => none
theorem clQ_of {s : So} (hs : s.ok) : clQ s = true := by
  simp only [clQ, Bool.and_eq_true, decide_eq_true_eq]
  exact ⟨hs.cs.1, hs.ys.1, hs.tr.1, hs.wk.1⟩
theorem ok_ref30_Clone : FOk q13 gClone := fok_ref30_Clone fun ds outs hw hg => by
  obtain ⟨d, r, rfl, hd, rfl⟩ := hw
  obtain ⟨s, rfl, hs⟩ := wfS hd
  simp only [gClone, dS_eS, Option.ite_none_right_eq_some, Option.some.injEq] at hg
  obtain ⟨hq, rfl⟩ := hg
  simp only [clQ, Bool.and_eq_true, decide_eq_true_eq] at hq
  simp only [q3u, q02, go_br, q01, q03, allSay, X.says, X.ev, X.evs, evl, tblS, List.getD_cons_zero, List.getD_cons_succ, List.getElem?_cons_zero, List.getElem?_cons_succ, tt_b, int_i, str_s, rs_r, Option.isSome_some, Option.getD_some, decide_eq_true_eq, decide_eq_false_iff_not, dS_eS, dC_eC, dU_eU, dW_eW, dY_eY, eC_0, eC_1, eU_0, eU_1, eW_0, eW_1, eW_2, eY_0, eY_1, eS_0, eS_1, eS_2, eS_3, eS_4, eS_5, List.length_map, i_inj, b_inj, s_inj, eC_eq, eU_eq, eW_eq, eY_eq, eS_eq, rng64, List.take_succ_cons, List.take_zero, List.nil_append, List.cons_append, decide_true, decide_false, Bool.or_true, true_and, and_true, eS, D.fs, D.fld]
  simp
  omega
def gSame : List D → Option (List D)
  | [a, b] => some [.b (decide (a = b))]
  | _ => none
theorem ok_ref30_Same : FOk q1r gSame := fok_ref30_Same fun ds outs hw hg => by
  obtain ⟨d, r, rfl, hd, e, r', rfl, he, rfl⟩ := hw
  obtain ⟨s, rfl, hs⟩ := wfS hd
  obtain ⟨t, rfl, ht⟩ := wfS he
  simp only [gSame, Option.some.injEq] at hg
  subst hg
  have hl := hs.cs.1
  have hl1 := hs.ys.1
  have hl2 := hs.tr.1
  have hl3 := hs.wk.1
  have e0 : decide (eS s = eS t) = decide (s = t) := by simp [eS_eq]
  rw [e0]
  have no : ¬ s = t → [D.b false] = [D.b (decide (s = t))] := fun h => by rw [decide_eq_false h]
  rw [q46, go_br]
  refine ⟨fun hx => ?_, fun hx => ?_⟩
  · refine no fun e => ?_
    subst e
    simp [X.ev, evl, D.tt] at hx
  simp only [q02, go_br, q01, q03, allSay, X.says, X.ev, X.evs, evl, tblS, List.getD_cons_zero, List.getD_cons_succ, List.getElem?_cons_zero, List.getElem?_cons_succ, tt_b, int_i, str_s, rs_r, Option.isSome_some, Option.getD_some, decide_eq_true_eq, decide_eq_false_iff_not, dS_eS, dC_eC, dU_eU, dW_eW, dY_eY, eC_0, eC_1, eU_0, eU_1, eW_0, eW_1, eW_2, eY_0, eY_1, eS_0, eS_1, eS_2, eS_3, eS_4, eS_5, List.length_map, i_inj, b_inj, s_inj, eC_eq, eU_eq, eW_eq, eY_eq, eS_eq, rng64, List.take_succ_cons, List.take_zero, List.nil_append, List.cons_append, decide_true, decide_false, Bool.or_true, true_and, and_true] at hx
  have hx' : s.cs.length = t.cs.length ∧ s.ys.length = t.ys.length ∧ s.tr.length = t.tr.length ∧ s.wk.length = t.wk.length ∧ s.ser = t.ser ∧ s.mx = t.mx := by
    simp at hx
    omega
  obtain ⟨q1, q2, q3, q4, q5, q6⟩ := hx'
  refine scan_ok s.cs.length (fun j => decide ((s.cs.map eC).getD j .u = (t.cs.map eC).getD j .u)) (v0 := .b false) rfl fun k B' hk hP hB _ => ?_
  rw [go_br]
  refine ⟨fun hlt => ?_, fun hlt => ?_⟩
  · have hkl : k < s.cs.length := by simpa [X.ev, evl, eS_0, D.int, D.rs, D.tt] using hlt
    simp only [q02, go_br, q01, q03, allSay, X.says, X.ev, X.evs, evl, tblS, List.getD_cons_zero, List.getD_cons_succ, List.getElem?_cons_zero, List.getElem?_cons_succ, tt_b, int_i, str_s, rs_r, Option.isSome_some, Option.getD_some, decide_eq_true_eq, decide_eq_false_iff_not, dS_eS, dC_eC, dU_eU, dW_eW, dY_eY, eC_0, eC_1, eU_0, eU_1, eW_0, eW_1, eW_2, eY_0, eY_1, eS_0, eS_1, eS_2, eS_3, eS_4, eS_5, List.length_map, i_inj, b_inj, s_inj, eC_eq, eU_eq, eW_eq, eY_eq, eS_eq, rng64, List.take_succ_cons, List.take_zero, List.nil_append, List.cons_append, decide_true, decide_false, Bool.or_true, true_and, and_true, get_k]
    refine ⟨⟨by omega, by omega, by omega, by omega⟩, fun hb => ?_, fun hb => ⟨⟨by omega, by omega⟩, ?_⟩⟩
    · refine no fun e => ?_
      subst e
      simp at hb
    · exact hB hkl (by simpa only [Bool.not_eq_false'] using hb)
  have hc0 : ∀ j, j < (s.cs.map eC).length → (s.cs.map eC).getD j .u = (t.cs.map eC).getD j .u := by
    have : k = s.cs.length := by
      have : ¬ (k < s.cs.length) := by simpa [X.ev, evl, eS_0, D.int, D.rs, D.tt] using hlt
      omega
    subst this
    exact fun j hj => by simpa only [decide_eq_true_eq] using hP j (by simpa using hj)
  refine scan_ok s.ys.length (fun j => decide ((s.ys.map eY).getD j .u = (t.ys.map eY).getD j .u)) (v0 := .b false) rfl fun k B' hk hP hB _ => ?_
  rw [go_br]
  refine ⟨fun hlt => ?_, fun hlt => ?_⟩
  · have hkl : k < s.ys.length := by simpa [X.ev, evl, eS_1, D.int, D.rs, D.tt] using hlt
    simp only [q02, go_br, q01, q03, allSay, X.says, X.ev, X.evs, evl, tblS, List.getD_cons_zero, List.getD_cons_succ, List.getElem?_cons_zero, List.getElem?_cons_succ, tt_b, int_i, str_s, rs_r, Option.isSome_some, Option.getD_some, decide_eq_true_eq, decide_eq_false_iff_not, dS_eS, dC_eC, dU_eU, dW_eW, dY_eY, eC_0, eC_1, eU_0, eU_1, eW_0, eW_1, eW_2, eY_0, eY_1, eS_0, eS_1, eS_2, eS_3, eS_4, eS_5, List.length_map, i_inj, b_inj, s_inj, eC_eq, eU_eq, eW_eq, eY_eq, eS_eq, rng64, List.take_succ_cons, List.take_zero, List.nil_append, List.cons_append, decide_true, decide_false, Bool.or_true, true_and, and_true, get_k]
    refine ⟨⟨by omega, by omega, by omega, by omega⟩, fun hb => ?_, fun hb => ⟨⟨by omega, by omega⟩, ?_⟩⟩
    · refine no fun e => ?_
      subst e
      simp at hb
    · exact hB hkl (by simpa only [Bool.not_eq_false'] using hb)
  have hc1 : ∀ j, j < (s.ys.map eY).length → (s.ys.map eY).getD j .u = (t.ys.map eY).getD j .u := by
    have : k = s.ys.length := by
      have : ¬ (k < s.ys.length) := by simpa [X.ev, evl, eS_1, D.int, D.rs, D.tt] using hlt
      omega
    subst this
    exact fun j hj => by simpa only [decide_eq_true_eq] using hP j (by simpa using hj)
  refine scan_ok s.tr.length (fun j => decide ((s.tr.map eU).getD j .u = (t.tr.map eU).getD j .u)) (v0 := .b false) rfl fun k B' hk hP hB _ => ?_
  rw [go_br]
  refine ⟨fun hlt => ?_, fun hlt => ?_⟩
  · have hkl : k < s.tr.length := by simpa [X.ev, evl, eS_2, D.int, D.rs, D.tt] using hlt
    simp only [q02, go_br, q01, q03, allSay, X.says, X.ev, X.evs, evl, tblS, List.getD_cons_zero, List.getD_cons_succ, List.getElem?_cons_zero, List.getElem?_cons_succ, tt_b, int_i, str_s, rs_r, Option.isSome_some, Option.getD_some, decide_eq_true_eq, decide_eq_false_iff_not, dS_eS, dC_eC, dU_eU, dW_eW, dY_eY, eC_0, eC_1, eU_0, eU_1, eW_0, eW_1, eW_2, eY_0, eY_1, eS_0, eS_1, eS_2, eS_3, eS_4, eS_5, List.length_map, i_inj, b_inj, s_inj, eC_eq, eU_eq, eW_eq, eY_eq, eS_eq, rng64, List.take_succ_cons, List.take_zero, List.nil_append, List.cons_append, decide_true, decide_false, Bool.or_true, true_and, and_true, get_k]
    refine ⟨⟨by omega, by omega, by omega, by omega⟩, fun hb => ?_, fun hb => ⟨⟨by omega, by omega⟩, ?_⟩⟩
    · refine no fun e => ?_
      subst e
      simp at hb
    · exact hB hkl (by simpa only [Bool.not_eq_false'] using hb)
  have hc2 : ∀ j, j < (s.tr.map eU).length → (s.tr.map eU).getD j .u = (t.tr.map eU).getD j .u := by
    have : k = s.tr.length := by
      have : ¬ (k < s.tr.length) := by simpa [X.ev, evl, eS_2, D.int, D.rs, D.tt] using hlt
      omega
    subst this
    exact fun j hj => by simpa only [decide_eq_true_eq] using hP j (by simpa using hj)
  refine scan_ok s.wk.length (fun j => decide ((s.wk.map eW).getD j .u = (t.wk.map eW).getD j .u)) (v0 := .b false) rfl fun k B' hk hP hB _ => ?_
  rw [go_br]
  refine ⟨fun hlt => ?_, fun hlt => ?_⟩
  · have hkl : k < s.wk.length := by simpa [X.ev, evl, eS_3, D.int, D.rs, D.tt] using hlt
    simp only [q02, go_br, q01, q03, allSay, X.says, X.ev, X.evs, evl, tblS, List.getD_cons_zero, List.getD_cons_succ, List.getElem?_cons_zero, List.getElem?_cons_succ, tt_b, int_i, str_s, rs_r, Option.isSome_some, Option.getD_some, decide_eq_true_eq, decide_eq_false_iff_not, dS_eS, dC_eC, dU_eU, dW_eW, dY_eY, eC_0, eC_1, eU_0, eU_1, eW_0, eW_1, eW_2, eY_0, eY_1, eS_0, eS_1, eS_2, eS_3, eS_4, eS_5, List.length_map, i_inj, b_inj, s_inj, eC_eq, eU_eq, eW_eq, eY_eq, eS_eq, rng64, List.take_succ_cons, List.take_zero, List.nil_append, List.cons_append, decide_true, decide_false, Bool.or_true, true_and, and_true, get_k]
    refine ⟨⟨by omega, by omega, by omega, by omega⟩, fun hb => ?_, fun hb => ⟨⟨by omega, by omega⟩, ?_⟩⟩
    · refine no fun e => ?_
      subst e
      simp at hb
    · exact hB hkl (by simpa only [Bool.not_eq_false'] using hb)
  have hc3 : ∀ j, j < (s.wk.map eW).length → (s.wk.map eW).getD j .u = (t.wk.map eW).getD j .u := by
    have : k = s.wk.length := by
      have : ¬ (k < s.wk.length) := by simpa [X.ev, evl, eS_3, D.int, D.rs, D.tt] using hlt
      omega
    subst this
    exact fun j hj => by simpa only [decide_eq_true_eq] using hP j (by simpa using hj)
  have e1 := map_inj (fun _ _ => eC_inj) (rows_eq (by simpa using q1) hc0)
  have e2 := map_inj (fun _ _ => eY_inj) (rows_eq (by simpa using q2) hc1)
  have e3 := map_inj (fun _ _ => eU_inj) (rows_eq (by simpa using q3) hc2)
  have e4 := map_inj (fun _ _ => eW_inj) (rows_eq (by simpa using q4) hc3)
  have : s = t := by cases s; cases t; simp_all
  subst this
  simp [q01, X.evs, X.ev]
end Go.Proofs.Ytinclokohcommaa


namespace Go.Proofs.Ytinclokohcommaa
open Go.RowKit
set_option linter.unusedVariables false
set_option maxRecDepth 100000

def g_cells_New : List D → Option (List D) := denF [] 12 q4t
theorem ok_cells_New_c : FOk q22 g_cells_New := fok_cells_New  fun ds outs hw hg => q0e hg
def g_law30_x : List D → Option (List D) := denF [] 12 tree_law30_x
theorem ok_law30_x_c : FOk q2h g_law30_x := fok_law30_x  fun ds outs hw hg => q0e hg
def g_law30_f : List D → Option (List D) := denF [] 12 tree_law30_f
theorem ok_law30_f_c : FOk q2g g_law30_f := fok_law30_f  fun ds outs hw hg => q0e hg
def g_cells_find : List D → Option (List D) := denF [] 12 q33
theorem ok_cells_find_c : FOk q0k g_cells_find := fok_cells_find  fun ds outs hw hg => q0e hg
def g_cells_Symbol : List D → Option (List D) := denF [(q0k, g_cells_find)] 12 q2p
theorem ok_cells_Symbol_c : FOk q16 g_cells_Symbol := fok_cells_Symbol ok_cells_find_c fun ds outs hw hg => q0e hg
def g_cmp_isNaN_int64 : List D → Option (List D) := denF [] 12 q2i
theorem ok_cmp_isNaN_int64_c : FOk q0v g_cmp_isNaN_int64 := q4d  fun ds outs hw hg => q0e hg
def g_cmp_Compare_int64 : List D → Option (List D) := denF [(q0v, g_cmp_isNaN_int64)] 12 q29
theorem ok_cmp_Compare_int64_c : FOk q0n g_cmp_Compare_int64 := q3y ok_cmp_isNaN_int64_c fun ds outs hw hg => q0e hg
def g_cells_byVar : List D → Option (List D) := denF [(q0n, g_cmp_Compare_int64)] 12 q2z
theorem ok_cells_byVar_c : FOk q1b g_cells_byVar := fok_cells_byVar ok_cmp_Compare_int64_c fun ds outs hw hg => q0e hg
def g_slices_BinarySearchFunc_VarCell : List D → Option (List D) := denF [(q1b, g_cells_byVar)] 12 q18
theorem q2a : FOk q05 g_slices_BinarySearchFunc_VarCell := q2c ok_cells_byVar_c fun ds outs hw hg => q0e hg
def g_cells_kept : List D → Option (List D) := denF [] 12 q36
theorem ok_cells_kept_c : FOk q1e g_cells_kept := fok_cells_kept  fun ds outs hw hg => q0e hg
def g_cells_Fresh : List D → Option (List D) := denF [] 12 q2s
theorem ok_cells_Fresh_c : FOk q1a g_cells_Fresh := fok_cells_Fresh  fun ds outs hw hg => q0e hg
def g_slices_Insert_VarCell : List D → Option (List D) := denF [] 12 q1v
theorem q4v : FOk q08 g_slices_Insert_VarCell := q4y  fun ds outs hw hg => q0e hg
def G_cells_Put_1 (r : List D → Option (List D)) : List D → Option (List D) := denF [(q0u, r), (q16, g_cells_Symbol), (q05, g_slices_BinarySearchFunc_VarCell), (q1e, g_cells_kept), (q1a, g_cells_Fresh), (q08, g_slices_Insert_VarCell)] 12 q1x
def g_cells_Put_1 : List D → Option (List D) := upN G_cells_Put_1 6
theorem ok_cells_Put_1_c : FOk q0u g_cells_Put_1 := fok_up q3m (fun r hr => fok_cells_Put_1 hr ok_cells_Symbol_c q2a ok_cells_kept_c ok_cells_Fresh_c q4v fun ds outs hw hg => q0e hg) 6
def G_term_Size_1 (r : List D → Option (List D)) : List D → Option (List D) := denF [(q0r, r)] 12 q30
def g_term_Size_1 : List D → Option (List D) := upN G_term_Size_1 6
theorem ok_term_Size_1_c : FOk q0r g_term_Size_1 := fok_up q3p (fun r hr => fok_term_Size_1 hr fun ds outs hw hg => q0e hg) 6
def g_term_Size : List D → Option (List D) := denF [(q0r, g_term_Size_1)] 12 q3j
theorem ok_term_Size_c : FOk q1j g_term_Size := fok_term_Size ok_term_Size_1_c fun ds outs hw hg => q0e hg
def G_term_fits (r : List D → Option (List D)) : List D → Option (List D) := denF [(q0p, r)] 12 q3k
def g_term_fits : List D → Option (List D) := upN G_term_fits 6
theorem ok_term_fits_c : FOk q0p g_term_fits := fok_up q45 (fun r hr => fok_term_fits hr fun ds outs hw hg => q0e hg) 6
def g_term_Valid : List D → Option (List D) := denF [(q1j, g_term_Size), (q0p, g_term_fits)] 12 q35
theorem ok_term_Valid_c : FOk q0z g_term_Valid := fok_term_Valid ok_term_Size_c ok_term_fits_c fun ds outs hw hg => q0e hg
def g_cells_arity : List D → Option (List D) := denF [] 12 q2w
theorem ok_cells_arity_c : FOk q0q g_cells_arity := fok_cells_arity  fun ds outs hw hg => q0e hg
def g_cells_tag : List D → Option (List D) := denF [] 12 q3l
theorem q4n : FOk q0o g_cells_tag := fok_cells_tag  fun ds outs hw hg => q0e hg
def g_cells_ValidCell : List D → Option (List D) := denF [(q0q, g_cells_arity), (q0o, g_cells_tag)] 12 q2l
theorem q2t : FOk q0c g_cells_ValidCell := q4e ok_cells_arity_c q4n fun ds outs hw hg => q0e hg
def g_cells_validVars : List D → Option (List D) := denF [(q0c, g_cells_ValidCell)] 12 q2e
theorem ok_cells_validVars_c : FOk q0w g_cells_validVars := q4i q2t fun ds outs hw hg => q0e hg
def G_cells_room_1 (r : List D → Option (List D)) : List D → Option (List D) := denF [(q0d, r), (q0k, g_cells_find)] 12 q2o
def g_cells_room_1 : List D → Option (List D) := upN G_cells_room_1 6
theorem ok_cells_room_1_c : FOk q0d g_cells_room_1 := fok_up q3d (fun r hr => fok_cells_room_1 hr ok_cells_find_c fun ds outs hw hg => q0e hg) 6
def g_cells_room : List D → Option (List D) := denF [(q0d, g_cells_room_1), (q05, g_slices_BinarySearchFunc_VarCell)] 12 q34
theorem ok_cells_room_c : FOk q1f g_cells_room := fok_cells_room ok_cells_room_1_c q2a fun ds outs hw hg => q0e hg
def g_slices_Clone_VarCell : List D → Option (List D) := denF [] 12 q2k
theorem q4w : FOk q0j g_slices_Clone_VarCell := q3g  fun ds outs hw hg => q0e hg
def g_cells_Put : List D → Option (List D) := denF [(q0u, g_cells_Put_1), (q0z, g_term_Valid), (q0w, g_cells_validVars), (q1f, g_cells_room), (q0j, g_slices_Clone_VarCell)] 12 q3i
theorem ok_cells_Put_c : FOk q1c g_cells_Put := fok_cells_Put ok_cells_Put_1_c ok_term_Valid_c ok_cells_validVars_c ok_cells_room_c q4w fun ds outs hw hg => q0e hg
def g_law30_str : List D → Option (List D) := denF [] 12 q4s
theorem ok_law30_str_c : FOk q25 g_law30_str := fok_law30_str  fun ds outs hw hg => q0e hg
def g_law30_ref : List D → Option (List D) := denF [] 12 q4q
theorem ok_law30_ref_c : FOk q21 g_law30_ref := fok_law30_ref  fun ds outs hw hg => q0e hg
def g_law30_vars : List D → Option (List D) := denF [] 12 q39
theorem ok_law30_vars_c : FOk q14 g_law30_vars := fok_law30_vars  fun ds outs hw hg => q0e hg
def g_cells_Deref : List D → Option (List D) := denF [(q0c, g_cells_ValidCell), (q0o, g_cells_tag)] 12 q3t
theorem ok_cells_Deref_c : FOk q10 g_cells_Deref := fok_cells_Deref q2t q4n fun ds outs hw hg => q0e hg
def g_term_Int : List D → Option (List D) := denF [] 12 tree_term_Int
theorem ok_term_Int_c : FOk q20 g_term_Int := fok_term_Int  fun ds outs hw hg => q0e hg
def g_term_Clone_1 : List D → Option (List D) := denF [] 12 q3o
theorem ok_term_Clone_1_c : FOk q1d g_term_Clone_1 := fok_term_Clone_1  fun ds outs hw hg => q0e hg
def G_term_apply (r : List D → Option (List D)) : List D → Option (List D) := denF [(q1d, g_term_Clone_1), (q11, r)] 12 q4a
def g_term_apply : List D → Option (List D) := upN G_term_apply 6
theorem ok_term_apply_c : FOk q11 g_term_apply := fok_up enter_term_apply (fun r hr => fok_term_apply ok_term_Clone_1_c hr fun ds outs hw hg => q0e hg) 6
def g_term_Clone : List D → Option (List D) := denF [(q0z, g_term_Valid), (q11, g_term_apply)] 12 q47
theorem ok_term_Clone_c : FOk q1l g_term_Clone := fok_term_Clone ok_term_Valid_c ok_term_apply_c fun ds outs hw hg => q0e hg
def g_term_Atom : List D → Option (List D) := denF [(q1l, g_term_Clone)] 12 q4l
theorem ok_term_Atom_c : FOk q1p g_term_Atom := fok_term_Atom ok_term_Clone_c fun ds outs hw hg => q0e hg
def G_cells_Get_1 (r : List D → Option (List D)) : List D → Option (List D) := denF [(q0y, r), (q10, g_cells_Deref), (q20, g_term_Int), (q0q, g_cells_arity), (q1p, g_term_Atom), (q0o, g_cells_tag)] 12 q3s
def g_cells_Get_1 : List D → Option (List D) := upN G_cells_Get_1 6
theorem ok_cells_Get_1_c : FOk q0y g_cells_Get_1 := fok_up enter_cells_Get_1 (fun r hr => fok_cells_Get_1 hr ok_cells_Deref_c ok_term_Int_c ok_cells_arity_c ok_term_Atom_c q4n fun ds outs hw hg => q0e hg) 6
def g_cells_Get : List D → Option (List D) := denF [(q0y, g_cells_Get_1), (q0c, g_cells_ValidCell)] 12 q4r
theorem ok_cells_Get_c : FOk q24 g_cells_Get := fok_cells_Get ok_cells_Get_1_c q2t fun ds outs hw hg => q0e hg
def G_ref03_Count (r : List D → Option (List D)) : List D → Option (List D) := denF [(q0s, r)] 12 q2r
def g_ref03_Count : List D → Option (List D) := upN G_ref03_Count 6
theorem ok_ref03_Count_c : FOk q0s g_ref03_Count := fok_up q3r (fun r hr => fok_ref03_Count hr fun ds outs hw hg => q0e hg) 6
def g_ref03_Size : List D → Option (List D) := denF [(q0s, g_ref03_Count)] 12 q38
theorem ok_ref03_Size_c : FOk q1h g_ref03_Size := fok_ref03_Size ok_ref03_Count_c fun ds outs hw hg => q0e hg
def g_ref03_node : List D → Option (List D) := denF [] 12 q3a
theorem ok_ref03_node_c : FOk q1i g_ref03_node := fok_ref03_node  fun ds outs hw hg => q0e hg
def G_ref03_nodes (r : List D → Option (List D)) : List D → Option (List D) := denF [(q1i, g_ref03_node), (q0t, r)] 12 q2u
def g_ref03_nodes : List D → Option (List D) := upN G_ref03_nodes 6
theorem ok_ref03_nodes_c : FOk q0t g_ref03_nodes := fok_up q3q (fun r hr => fok_ref03_nodes ok_ref03_node_c hr fun ds outs hw hg => q0e hg) 6
def g_ref03_Valid : List D → Option (List D) := denF [(q1h, g_ref03_Size), (q0t, g_ref03_nodes)] 12 q2x
theorem ok_ref03_Valid_c : FOk q0x g_ref03_Valid := fok_ref03_Valid ok_ref03_Size_c ok_ref03_nodes_c fun ds outs hw hg => q0e hg
def G_ref03_identical (r : List D → Option (List D)) : List D → Option (List D) := denF [(q0l, r)] 12 q2v
def g_ref03_identical : List D → Option (List D) := upN G_ref03_identical 6
theorem ok_ref03_identical_c : FOk q0l g_ref03_identical := fok_up q3z (fun r hr => fok_ref03_identical hr fun ds outs hw hg => q0e hg) 6
def g_ref03_Same : List D → Option (List D) := denF [(q0x, g_ref03_Valid), (q0l, g_ref03_identical)] 12 q41
theorem ok_ref03_Same_c : FOk q1w g_ref03_Same := fok_ref03_Same ok_ref03_Valid_c ok_ref03_identical_c fun ds outs hw hg => q0e hg
end Go.Proofs.Ytinclokohcommaa


namespace Go.Proofs.Ytinclokohcommaa
open Go.RowKit
set_option linter.unusedVariables false
set_option maxRecDepth 100000

def gYes : List D → Option (List D) := fun _ => some [.b true]
theorem ok_law30_awake : FOk q1n gYes := fok_law30_awake ok_cells_New_c ok_law30_x_c ok_law30_f_c ok_cells_Put_c ok_law30_str_c ok_law30_ref_c ok_law30_vars_c ok_cells_Get_c ok_ref03_Same_c ok_cells_Deref_c fun ds outs hw hg => by
  obtain rfl : ds = [] := hw
  simp only [gYes, Option.some.injEq] at hg
  subst hg
  exact q0e (fuel := 12) (by kernel_rfl)
end Go.Proofs.Ytinclokohcommaa


namespace Go.Proofs.Ytinclokohcommaa
open Go.RowKit
set_option linter.unusedVariables false
set_option linter.unusedSimpArgs false

end Go.Proofs.Ytinclokohcommaa


namespace Go.Proofs.Ytinclokohcommaa
open Go.RowKit
set_option linter.unusedVariables false
set_option linter.unusedSimpArgs false

def fnd (nm : ByteArray) (ar : Int) : Nat → List Sy → Int
  | _, [] => -1
  | k, y :: l => if y.name = nm ∧ y.ar = ar then (k : Int) else fnd nm ar (k + 1) l
def findS (s : So) (nm : ByteArray) (ar : Int) : Int := fnd nm ar 0 s.ys
theorem drop_get' {α : Type} [Inhabited α] {l : List α} {k : Nat} (h : k < l.length) : l.drop k = l.getD k default :: l.drop (k + 1) := by
  rw [List.drop_eq_getElem_cons h]
  simp [List.getD_eq_getElem?_getD, h]
theorem fnd_drop {nm : ByteArray} {ar : Int} {l : List Sy} {k : Nat} (h : k < l.length) : fnd nm ar k (l.drop k) = if (l.getD k default).name = nm ∧ (l.getD k default).ar = ar then (k : Int) else fnd nm ar (k + 1) (l.drop (k + 1)) := by
  rw [drop_get' h]
  rfl
theorem fnd_rng {nm : ByteArray} {ar : Int} : ∀ (k : Nat) (l : List Sy), fnd nm ar k l = -1 ∨ ((k : Int) ≤ fnd nm ar k l ∧ fnd nm ar k l < k + l.length)
  | k, [] => .inl rfl
  | k, y :: l => by
    unfold fnd
    split
    · exact .inr ⟨Int.le_refl _, by simp; omega⟩
    · rcases fnd_rng (nm := nm) (ar := ar) (k + 1) l with h | ⟨h1, h2⟩
      · exact .inl h
      · exact .inr ⟨by omega, by simp; omega⟩

def gFind1 : List D → Option (List D)
  | [s, y] => some [.i (findS (dS s) (y.fld 0).str (y.fld 1).int)]
  | _ => none
def gFind2 : List D → Option (List D)
  | [s, nm, ar] => some [.i (findS (dS s) nm.str ar.int)]
  | _ => none
theorem ok_cells_find : FOk q0k gFind1 := fok_cells_find fun ds outs hw hg => by
  obtain ⟨d, r, rfl, hd, e, r', rfl, he, rfl⟩ := hw
  obtain ⟨s, rfl, hs⟩ := wfS hd
  obtain ⟨y, rfl, hy⟩ := wfY he
  simp only [gFind1, dS_eS, eY_0, eY_1, str_s, int_i, Option.some.injEq] at hg
  subst hg
  have hl := hs.ys.1
  rw [q33, q1y]
  refine ⟨fun st => ∃ k : Nat, k ≤ s.ys.length ∧ st = [.i 0, .i k] ∧ fnd y.name y.ar k (s.ys.drop k) = findS s y.name y.ar, fun st => s.ys.length - (st.getD 1 .u).int.toNat, ⟨0, Nat.zero_le _, rfl, rfl⟩, ?_⟩
  rintro st - ⟨k, hk, rfl, hf⟩
  simp only [q02, go_br, q01, q03, allSay, X.says, X.ev, X.evs, evl, tblS, List.getD_cons_zero, List.getD_cons_succ, List.getElem?_cons_zero, List.getElem?_cons_succ, tt_b, int_i, str_s, rs_r, Option.isSome_some, Option.getD_some, decide_eq_true_eq, decide_eq_false_iff_not, dS_eS, dC_eC, dU_eU, dW_eW, dY_eY, eC_0, eC_1, eU_0, eU_1, eW_0, eW_1, eW_2, eY_0, eY_1, eS_0, eS_1, eS_2, eS_3, eS_4, eS_5, List.length_map, i_inj, b_inj, s_inj, eC_eq, eU_eq, eW_eq, eY_eq, eS_eq, rng64, List.take_succ_cons, List.take_zero, List.nil_append, List.cons_append, decide_true, decide_false, Bool.or_true, true_and, and_true]
  refine ⟨fun hlt => ?_, fun hlt => ?_⟩
  · have hkn : k < s.ys.length := by omega
    rw [fnd_drop hkn] at hf
    simp only [get_n eY hkn, eY_eq]
    generalize s.ys.getD k default = z at hf
    refine ⟨⟨by omega, by omega⟩, fun he => ?_, fun he => ⟨⟨by omega, by omega⟩, ?_⟩⟩
    · have he' : z = y := by simpa using he
      subst he'
      rw [if_pos ⟨rfl, rfl⟩] at hf
      rw [← hf]
    · have he' : ¬ z = y := by simpa using he
      have hne : ¬ (z.name = y.name ∧ z.ar = y.ar) := fun h => he' (by cases z; cases y; simp_all)
      rw [if_neg hne] at hf
      rw [updB, if_pos rfl]
      refine ⟨⟨k + 1, hkn, by simp, hf⟩, ?_⟩
      simp [D.int]
      omega
  · have : k = s.ys.length := by omega
    subst this
    rw [List.drop_length] at hf
    rw [← hf]
    rfl
theorem ok_ref30_Find : FOk q2m gFind2 := fok_ref30_Find fun ds outs hw hg => by
  obtain ⟨d, r, rfl, hd, e, r', rfl, he, f, r2, rfl, hf', rfl⟩ := hw
  obtain ⟨s, rfl, hs⟩ := wfS hd
  obtain ⟨nm, rfl, hn⟩ := he.str
  obtain ⟨ar, rfl, ha⟩ := wfI hf'
  simp only [gFind2, dS_eS, str_s, int_i, Option.some.injEq] at hg
  subst hg
  have hl := hs.ys.1
  rw [q48, q1y]
  refine ⟨fun st => ∃ k : Nat, k ≤ s.ys.length ∧ st = [.i 0, .i k] ∧ fnd nm ar k (s.ys.drop k) = findS s nm ar, fun st => s.ys.length - (st.getD 1 .u).int.toNat, ⟨0, Nat.zero_le _, rfl, rfl⟩, ?_⟩
  rintro st - ⟨k, hk, rfl, hf⟩
  simp only [q02, go_br, q01, q03, allSay, X.says, X.ev, X.evs, evl, tblS, List.getD_cons_zero, List.getD_cons_succ, List.getElem?_cons_zero, List.getElem?_cons_succ, tt_b, int_i, str_s, rs_r, Option.isSome_some, Option.getD_some, decide_eq_true_eq, decide_eq_false_iff_not, dS_eS, dC_eC, dU_eU, dW_eW, dY_eY, eC_0, eC_1, eU_0, eU_1, eW_0, eW_1, eW_2, eY_0, eY_1, eS_0, eS_1, eS_2, eS_3, eS_4, eS_5, List.length_map, i_inj, b_inj, s_inj, eC_eq, eU_eq, eW_eq, eY_eq, eS_eq, rng64, List.take_succ_cons, List.take_zero, List.nil_append, List.cons_append, decide_true, decide_false, Bool.or_true, true_and, and_true]
  refine ⟨fun hlt => ?_, fun hlt => ?_⟩
  · have hkn : k < s.ys.length := by omega
    rw [fnd_drop hkn] at hf
    simp only [get_n eY hkn, eY_0, eY_1, s_inj, i_inj]
    generalize s.ys.getD k default = z at hf
    refine ⟨⟨by omega, by omega, by simp, by simp; omega⟩, fun he => ?_, fun he => ⟨⟨by omega, by omega⟩, ?_⟩⟩
    · have he' : z.name = nm ∧ z.ar = ar := by simpa using he
      rw [if_pos he'] at hf
      rw [← hf]
    · have he' : ¬ (z.name = nm ∧ z.ar = ar) := by simpa using he
      rw [if_neg he'] at hf
      rw [updB, if_pos rfl]
      refine ⟨⟨k + 1, hkn, by simp, hf⟩, ?_⟩
      simp [D.int]
      omega
  · have : k = s.ys.length := by omega
    subst this
    rw [List.drop_length] at hf
    rw [← hf]
    rfl

def symBad (nm : ByteArray) (ar : Int) : Bool := decide (100 < (nm.size : Int)) || (decide (ar < 0) || decide (8 < ar))
def gSym : List D → Option (List D)
  | [s, nm, ar] => if symBad nm.str ar.int then some [.i 0, .i 1, eS (dS s)] else if decide (0 ≤ findS (dS s) nm.str ar.int) then some [.i (findS (dS s) nm.str ar.int), .i 0, eS (dS s)]
      else if decide (1048576 ≤ (dS s).ys.length) then some [.i 0, .i 13, eS (dS s)] else some [.i (dS s).ys.length, .i 0, eS { dS s with ys := (dS s).ys ++ [⟨nm.str, ar.int⟩] }]
  | _ => none
theorem ys_app (s : So) (y : Sy) : D.a ((eS s).fs.set 1 (.r (s.ys.map eY ++ [eY y]))) = eS { s with ys := s.ys ++ [y] } := by simp [eS, D.fs]
theorem ok_cells_Symbol : FOk q16 gSym := fok_cells_Symbol ok_cells_find fun ds outs hw hg => by
  obtain ⟨d, r, rfl, hd, e, r', rfl, he, f, r2, rfl, hf', rfl⟩ := hw
  obtain ⟨s, rfl, hs⟩ := wfS hd
  obtain ⟨nm, rfl, hn⟩ := he.str
  obtain ⟨ar, rfl, ha⟩ := wfI hf'
  simp only [gSym, dS_eS, str_s, int_i] at hg
  have ey : D.a [.s nm, .i ar] = eY ⟨nm, ar⟩ := rfl
  simp only [q2p, q02, go_br, q01, q03, allSay, X.says, X.ev, X.evs, evl, tblS, List.getD_cons_zero, List.getD_cons_succ, List.getElem?_cons_zero, List.getElem?_cons_succ, tt_b, int_i, str_s, rs_r, Option.isSome_some, Option.getD_some, decide_eq_true_eq, decide_eq_false_iff_not, dS_eS, dC_eC, dU_eU, dW_eW, dY_eY, eC_0, eC_1, eU_0, eU_1, eW_0, eW_1, eW_2, eY_0, eY_1, eS_0, eS_1, eS_2, eS_3, eS_4, eS_5, List.length_map, i_inj, b_inj, s_inj, eC_eq, eU_eq, eW_eq, eY_eq, eS_eq, rng64, List.take_succ_cons, List.take_zero, List.nil_append, List.cons_append, decide_true, decide_false, Bool.or_true, true_and, and_true, gFind1, ey, ys_app]
  cases hb : symBad nm ar with
  | true =>
    simp only [hb, if_true, Option.some.injEq] at hg
    subst hg
    have hb' : (decide (100 < (nm.size : Int)) || decide (ar < 0) || decide (8 < ar)) = true := by rw [Bool.or_assoc]; exact hb
    rw [hb']
    exact ⟨fun _ => rfl, fun h => (by cases h)⟩
  | false =>
    simp only [hb, Bool.false_eq_true, if_false] at hg
    have hb' : (decide (100 < (nm.size : Int)) || decide (ar < 0) || decide (8 < ar)) = false := by rw [Bool.or_assoc]; exact hb
    rw [hb']
    refine ⟨fun h => (by cases h), fun _ => ⟨fun h0 => ?_, fun h0 => ⟨fun h1 => ?_, fun h1 => ?_⟩⟩⟩
    · rw [if_pos (decide_eq_true h0)] at hg
      exact Option.some.inj hg
    · have h1' : 1048576 ≤ s.ys.length := by omega
      rw [if_neg (by simpa using h0), if_pos (decide_eq_true h1')] at hg
      exact Option.some.inj hg
    · have h1' : ¬ 1048576 ≤ s.ys.length := by omega
      rw [if_neg (by simpa using h0), if_neg (by simpa using h1')] at hg
      have := Option.some.inj hg
      subst this
      simp [eS, D.fld, D.fs, D.rs]
      omega
def gFresh : List D → Option (List D)
  | [s] => if decide ((dS s).mx ≤ (dS s).cs.length) then some [eC ⟨0, 0⟩, .i 13, eS (dS s)] else if decide ((dS s).cs.length < 8796093021952) then some [eC ⟨0, (dS s).cs.length⟩, .i 0, eS { dS s with cs := (dS s).cs ++ [⟨0, (dS s).cs.length⟩] }] else none
  | _ => none
theorem cs_app (s : So) (y : Ce) : D.a ((eS s).fs.set 0 (.r (s.cs.map eC ++ [eC y]))) = eS { s with cs := s.cs ++ [y] } := by simp [eS, D.fs]
theorem ok_cells_Fresh : FOk q1a gFresh := fok_cells_Fresh fun ds outs hw hg => by
  obtain ⟨d, r, rfl, hd, rfl⟩ := hw
  obtain ⟨s, rfl, hs⟩ := wfS hd
  simp only [gFresh, dS_eS] at hg
  simp only [q2s, q02, go_br, q01, q03, allSay, X.says, X.ev, X.evs, evl, tblS, List.getD_cons_zero, List.getD_cons_succ, List.getElem?_cons_zero, List.getElem?_cons_succ, tt_b, int_i, str_s, rs_r, Option.isSome_some, Option.getD_some, decide_eq_true_eq, decide_eq_false_iff_not, dS_eS, dC_eC, dU_eU, dW_eW, dY_eY, eC_0, eC_1, eU_0, eU_1, eW_0, eW_1, eW_2, eY_0, eY_1, eS_0, eS_1, eS_2, eS_3, eS_4, eS_5, List.length_map, i_inj, b_inj, s_inj, eC_eq, eU_eq, eW_eq, eY_eq, eS_eq, rng64, List.take_succ_cons, List.take_zero, List.nil_append, List.cons_append, decide_true, decide_false, Bool.or_true, true_and, and_true, eC_mk, cs_app]
  refine ⟨fun h0 => ?_, fun h0 => ?_⟩
  · rw [if_pos (decide_eq_true h0)] at hg
    exact Option.some.inj hg
  · rw [if_neg (by simpa using h0)] at hg
    split at hg
    · rename_i h1
      have h1 := of_decide_eq_true h1
      have := Option.some.inj hg
      exact ⟨by omega, this⟩
    · cases hg
end Go.Proofs.Ytinclokohcommaa


namespace Go.Proofs.Ytinclokohcommaa
open Go.RowKit
set_option linter.unusedVariables false
set_option maxRecDepth 100000

end Go.Proofs.Ytinclokohcommaa


namespace Go.Proofs.Ytinclokohcommaa
open Go.RowKit
set_option linter.unusedVariables false
set_option linter.unusedSimpArgs false

structure VS (s : So) : Prop where
  tag : ∀ i : Int, inS s i = true → 0 ≤ (cellAt s i).t ∧ (cellAt s i).t ≤ 5
theorem vcR_tag {s : So} {c : Ce} (h : vcR s c = true) : c.t = 0 ∨ c.t = 1 ∨ c.t = 2 ∨ c.t = 3 ∨ c.t = 5 := by
  unfold vcR at h
  by_cases h0 : c.t = 0
  · exact .inl h0
  · by_cases h1 : c.t = 1
    · exact .inr (.inl h1)
    · by_cases h2 : c.t = 2
      · exact .inr (.inr (.inl h2))
      · by_cases h3 : c.t = 3
        · exact .inr (.inr (.inr (.inl h3)))
        · by_cases h5 : c.t = 5
          · exact .inr (.inr (.inr (.inr h5)))
          · simp [h0, h1, h2, h3, h5] at h
theorem validR_vs {s : So} (h : validR s = true) : VS s := by
  simp only [validR, Bool.and_eq_true] at h
  refine ⟨fun i hi => ?_⟩
  have h1 := inS_iff.1 hi
  have hk := all_of h.2.1 (k := i.toNat) (by omega)
  rw [show ((i.toNat : Nat) : Int) = i by omega] at hk
  unfold cellR at hk
  by_cases h4 : (cellAt s i).t = 4
  · omega
  · rw [if_neg h4] at hk
    simp only [Bool.and_eq_true] at hk
    have := vcR_tag hk.1
    omega
theorem VS.tag_in {s : So} (h : VS s) (n : Int) : decide (0 ≤ tagS s n) = inS s n := by
  cases hi : inS s n with
  | true =>
    rw [tagS_in hi]
    exact decide_eq_true (h.tag n hi).1
  | false =>
    rw [tagS_out hi]
    decide
theorem VS.vc {s : So} (h : VS s) (c : Ce) : vcP s c = vcR s c := by
  unfold vcP vcR
  rw [h.tag_in]
theorem VS.old {s : So} (h : VS s) (u : Un) : oldP s u = oldR s u := by
  simp only [oldP, oldR, oldB, h.tag_in, h.vc]
theorem VS.cell {s : So} (h : VS s) {i : Int} (hi : inS s i = true) : cellR s i = (fitsP s i && endsB s i) := by
  have h1 := inS_iff.1 hi
  have ht := tagS_in hi
  unfold cellR fitsP
  by_cases h4 : (cellAt s i).t = 4
  · rw [if_pos h4, if_pos h4]
    have he : endsB s i = true := (En.st (fun hn => by have := hn.1; omega)).ends
    rw [he, Bool.and_true]
    by_cases ha : 1 ≤ arS s (cellAt s i).n
    · rw [decide_eq_true ha, Bool.true_and, Bool.true_and]
      generalize harr : arS s (cellAt s i).n = ar at ha
      rw [Bool.eq_iff_iff]
      simp only [Bool.and_eq_true, List.all_eq_true, List.mem_range, Bool.not_eq_true', decide_eq_false_iff_not, decide_eq_true_eq]
      constructor
      · rintro ⟨q1, q2⟩ j hj
        refine ⟨?_, q2 j hj⟩
        have hin : inS s (i + ((j : Int) + 1)) = true := by
          have := inS_iff.1 q1
          exact inS_iff.2 ⟨by omega, by omega⟩
        rw [tagS_in hin]
        exact (h.tag _ hin).1
      · intro q
        refine ⟨?_, fun j hj => (q j hj).2⟩
        have h2 := (q (ar.toNat - 1) (by omega)).1
        have h3 := h.tag_in (i + (((ar.toNat - 1 : Nat) : Int) + 1))
        rw [decide_eq_true h2] at h3
        have e : i + (((ar.toNat - 1 : Nat) : Int) + 1) = i + ar := by omega
        rw [e] at h3
        exact h3.symm
    · rw [decide_eq_false ha]
      rfl
  · rw [if_neg h4, if_neg h4]
    by_cases h5 : (cellAt s i).t = 5
    · rw [if_pos h5]
      have hd : decide ((cellAt s i).t = 5) = true := decide_eq_true h5
      rw [hd]
      by_cases hn : (cellAt s i).n = i
      · have hv : vcR s (cellAt s i) = true := by
          unfold vcR
          simp [h5, hn, ht]
        rw [hv, decide_eq_true hn]
        simp [Bool.and_comm]
      · rw [decide_eq_false hn]
        simp
    · rw [if_neg h5, decide_eq_false h5, h.vc]
      simp
end Go.Proofs.Ytinclokohcommaa


namespace Go.Proofs.Ytinclokohcommaa
open Go.RowKit
set_option linter.unusedVariables false
set_option linter.unusedSimpArgs false

inductive Te where
  | mk (k n : Int) (s : ByteArray) (l : List Te)
instance : Inhabited Te := ⟨.mk 0 0 ⟨#[]⟩ []⟩
def Te.k : Te → Int | .mk k _ _ _ => k
def Te.n : Te → Int | .mk _ n _ _ => n
def Te.s : Te → ByteArray | .mk _ _ s _ => s
def Te.l : Te → List Te | .mk _ _ _ l => l

mutual
theorem Te.ind0 {P : Te → Prop} (h : ∀ k n s l, (∀ t ∈ l, P t) → P (.mk k n s l)) : ∀ t, P t
  | .mk k n s l => h k n s l (Te.inds h l)
theorem Te.inds {P : Te → Prop} (h : ∀ k n s l, (∀ t ∈ l, P t) → P (.mk k n s l)) : ∀ (l : List Te), ∀ t ∈ l, P t
  | [], _, ht => by cases ht
  | u :: l, t, ht => by
    exact (List.mem_cons.1 ht).elim (fun e => e ▸ Te.ind0 h u) fun h' => Te.inds h l t h'
end
theorem Te.ind {P : Te → Prop} (h : ∀ k n s l, (∀ t ∈ l, P t) → P (.mk k n s l)) (t : Te) : P t := Te.ind0 h t

mutual
def eT : Te → D
  | .mk k n s l => .a [.i k, .i n, .s s, .r (eTs l)]
def eTs : List Te → List D
  | [] => []
  | t :: l => eT t :: eTs l
end
theorem eTs_map : ∀ l, eTs l = l.map eT
  | [] => rfl
  | t :: l => by rw [eTs, eTs_map l, List.map_cons]
theorem eT_mk (k n : Int) (s : ByteArray) (l : List Te) : eT (.mk k n s l) = .a [.i k, .i n, .s s, .r (l.map eT)] := by rw [eT, eTs_map]
mutual
def dT : D → Te
  | .a [.i k, .i n, .s s, .r l] => .mk k n s (dTs l)
  | _ => .mk 0 0 ⟨#[]⟩ []
def dTs : List D → List Te
  | [] => []
  | d :: l => dT d :: dTs l
end
mutual
theorem dT_eT : ∀ t, dT (eT t) = t
  | .mk k n s l => by simp only [eT, dT, dTs_eTs l]
theorem dTs_eTs : ∀ l, dTs (eTs l) = l
  | [] => rfl
  | t :: l => by simp only [eTs, dTs, dT_eT t, dTs_eTs l]
end
theorem eT_inj {t u : Te} (h : eT t = eT u) : t = u := by rw [← dT_eT t, h, dT_eT u]
theorem eT_eq (t u : Te) : (eT t = eT u) = (t = u) := propext ⟨eT_inj, fun h => h ▸ rfl⟩
theorem eT_0 (t : Te) : (eT t).fld 0 = .i t.k := by cases t; rfl
theorem eT_1 (t : Te) : (eT t).fld 1 = .i t.n := by cases t; rfl
theorem eT_2 (t : Te) : (eT t).fld 2 = .s t.s := by cases t; rfl
theorem eT_3 (t : Te) : (eT t).fld 3 = .r (t.l.map eT) := by cases t; rw [eT_mk]; rfl
def zT : Te := .mk 0 0 ⟨#[]⟩ []
theorem eT_z : D.a [.i 0, .i 0, .s ⟨#[]⟩, .r []] = eT zT := rfl

mutual
def szT : Te → Nat
  | .mk _ _ _ l => szTs l + 1
def szTs : List Te → Nat
  | [] => 0
  | t :: l => szT t + szTs l
end
theorem szT_pos (t : Te) : 1 ≤ szT t := by cases t; rw [szT]; omega
theorem szTs_mem {t : Te} : ∀ {l : List Te}, t ∈ l → szT t ≤ szTs l
  | u :: l, h => by
    rcases List.mem_cons.1 h with rfl | h
    · rw [szTs]; omega
    · have := szTs_mem h; rw [szTs]; omega
theorem szT_arg {t u : Te} (h : u ∈ t.l) : szT u < szT t := by
  cases t
  have := szTs_mem h
  rw [szT]
  exact Nat.lt_succ_of_le this
theorem szTs_app : ∀ (l m : List Te), szTs (l ++ m) = szTs l + szTs m
  | [], m => by simp [szTs]
  | t :: l, m => by rw [List.cons_append, szTs, szTs, szTs_app l m]; omega
theorem szTs_snoc {l : List Te} {k : Nat} (h : k < l.length) : szTs (l.take (k + 1)) = szTs (l.take k) + szT (l.getD k default) := by
  rw [take_snoc h, szTs_app]
  simp [szTs]
theorem szTs_len : ∀ (l : List Te), l.length ≤ szTs l
  | [] => Nat.le_refl _
  | t :: l => by have := szTs_len l; have := szT_pos t; rw [szTs, List.length_cons]; omega
theorem szT_l (t : Te) : szT t = szTs t.l + 1 := by cases t; rw [szT]; rfl

mutual
def okT : Te → Prop
  | .mk k n s l => i64 k ∧ i64 n ∧ s.size ≤ LIM ∧ l.length ≤ 2513169434843 ∧ okTs l
def okTs : List Te → Prop
  | [] => True
  | t :: l => okT t ∧ okTs l
end
theorem okTs_iff : ∀ {l : List Te}, okTs l ↔ ∀ t ∈ l, okT t
  | [] => ⟨fun _ t h => (by cases h), fun _ => trivial⟩
  | t :: l => by rw [okTs, okTs_iff]; simp
theorem okT_mk {k n : Int} {s : ByteArray} {l : List Te} : okT (.mk k n s l) ↔ i64 k ∧ i64 n ∧ s.size ≤ LIM ∧ l.length ≤ 2513169434843 ∧ ∀ t ∈ l, okT t := by rw [okT, okTs_iff]
theorem okT.k {t : Te} (h : okT t) : i64 t.k := by cases t; exact (okT_mk.1 h).1
theorem okT.n {t : Te} (h : okT t) : i64 t.n := by cases t; exact (okT_mk.1 h).2.1
theorem okT.s {t : Te} (h : okT t) : t.s.size ≤ LIM := by cases t; exact (okT_mk.1 h).2.2.1
theorem okT.l {t : Te} (h : okT t) : t.l.length ≤ 2513169434843 := by cases t; exact (okT_mk.1 h).2.2.2.1
theorem wfT_all (d : D) : (Wf d T_Term → ∃ t, d = eT t ∧ okT t) ∧ (Wf d T_Terms → ∃ l : List Te, d = .r (l.map eT) ∧ l.length ≤ 2513169434843 ∧ ∀ t ∈ l, okT t) := by
  have noS : ∀ {d : D}, Wf d T_Term → ∃ l, d = .a l := fun h => let ⟨l, e, _⟩ := h.st_of (fs := [.int .i64, .int .i64, .str, T_Terms]) rfl; ⟨l, e⟩
  have noR : ∀ {d : D}, Wf d T_Terms → ∃ l, d = .r l := fun h => let ⟨l, e, _⟩ := h.row_of (te := T_Term) rfl; ⟨l, e⟩
  induction d using D.ind with
  | hu => exact ⟨fun h => (by obtain ⟨_, e⟩ := noS h; cases e), fun h => (by obtain ⟨_, e⟩ := noR h; cases e)⟩
  | hi n => exact ⟨fun h => (by obtain ⟨_, e⟩ := noS h; cases e), fun h => (by obtain ⟨_, e⟩ := noR h; cases e)⟩
  | hb n => exact ⟨fun h => (by obtain ⟨_, e⟩ := noS h; cases e), fun h => (by obtain ⟨_, e⟩ := noR h; cases e)⟩
  | hs n => exact ⟨fun h => (by obtain ⟨_, e⟩ := noS h; cases e), fun h => (by obtain ⟨_, e⟩ := noR h; cases e)⟩
  | hm n => exact ⟨fun h => (by obtain ⟨_, e⟩ := noS h; cases e), fun h => (by obtain ⟨_, e⟩ := noR h; cases e)⟩
  | ha l ih =>
    refine ⟨fun h => ?_, fun h => (by obtain ⟨_, e⟩ := noR h; cases e)⟩
    obtain ⟨ds, e, hl⟩ := h.st_of (fs := [.int .i64, .int .i64, .str, T_Terms]) rfl
    injection e with e
    subst e
    obtain ⟨d0, r, rfl, h0, hl⟩ := wfL_cons hl
    obtain ⟨d1, r, rfl, h1, hl⟩ := wfL_cons hl
    obtain ⟨d2, d3, rfl, h2, h3⟩ := wfL2 hl
    obtain ⟨k, rfl, hk⟩ := wfI h0
    obtain ⟨n, rfl, hn⟩ := wfI h1
    obtain ⟨s, rfl, hs⟩ := h2.str
    obtain ⟨ts, rfl, h4, h5⟩ := (ih d3 (by simp)).2 h3
    exact ⟨.mk k n s ts, (eT_mk _ _ _ _).symm, okT_mk.2 ⟨hk, hn, hs, h4, h5⟩⟩
  | hr l ih =>
    refine ⟨fun h => (by obtain ⟨_, e⟩ := noS h; cases e), fun h => ?_⟩
    obtain ⟨l', e, h1, h2⟩ := h.row_of (te := T_Term) rfl
    injection e with e
    subst e
    obtain ⟨m, rfl, h3⟩ := of_all (e := eT) (P := okT) fun x hx => (ih x hx).1 (h2 x hx)
    have e : LM T_Term = 2513169434843 := by kernel_rfl
    rw [e, List.length_map] at h1
    exact ⟨m, rfl, h1, h3⟩
theorem wfT {d : D} (h : Wf d T_Term) : ∃ t, d = eT t ∧ okT t := (wfT_all d).1 h
def nodeT (t : Te) : Bool :=
  if t.k = 0 then decide (0 ≤ t.n) && (decide (t.n ≤ 1099511627776) && (decide (t.s = ⟨#[]⟩) && decide ((t.l.length : Int) = 0)))
  else if t.k = 1 then decide (t.s = ⟨#[]⟩) && decide ((t.l.length : Int) = 0)
  else if t.k = 2 then decide (t.n = 0) && (decide ((t.s.size : Int) ≤ 100) && decide ((t.l.length : Int) = 0))
  else if t.k = 3 then decide (t.n = 0) && (decide ((t.s.size : Int) ≤ 100) && (decide (1 ≤ (t.l.length : Int)) && decide ((t.l.length : Int) ≤ 8)))
  else false
mutual
def nodesT : Te → Bool
  | .mk k n s l => nodeT (.mk k n s l) && nodesTs l
def nodesTs : List Te → Bool
  | [] => true
  | t :: l => nodesT t && nodesTs l
end
theorem nodesTs_iff : ∀ {l : List Te}, nodesTs l = true ↔ ∀ t ∈ l, nodesT t = true
  | [] => ⟨fun _ t h => (by cases h), fun _ => rfl⟩
  | t :: l => by rw [nodesTs, Bool.and_eq_true, nodesTs_iff]; simp
theorem nodesT_all (t : Te) : nodesT t = (nodeT t && (List.range t.l.length).all fun i => nodesT (t.l.getD i default)) := by
  cases t with
  | mk k n s l =>
    rw [nodesT]
    congr 1
    rw [Bool.eq_iff_iff, nodesTs_iff, List.all_eq_true]
    refine ⟨fun h i hi => h _ (getD_mem (List.mem_range.1 hi)), fun h t ht => ?_⟩
    obtain ⟨i, hi, rfl⟩ := List.getElem_of_mem ht
    have := h i (List.mem_range.2 hi)
    rwa [show (Te.mk k n s l).l.getD i default = l[i] by simp [Te.l, List.getD_eq_getElem?_getD, List.getElem?_eq_getElem hi]] at this
def validT (t : Te) : Bool := decide (szT t ≤ 2000) && nodesT t

mutual
def idT : Te → Te → Bool
  | .mk k n s l, .mk k' n' s' l' => decide (k = k') && (decide (n = n') && (decide (s = s') && idTs l l'))
def idTs : List Te → List Te → Bool
  | [], [] => true
  | t :: l, u :: m => idT t u && idTs l m
  | _, _ => false
end
mutual
theorem idT_iff : ∀ (t u : Te), idT t u = true ↔ t = u
  | .mk k n s l, .mk k' n' s' l' => by simp [idT, idTs_iff l l']
theorem idTs_iff : ∀ (l m : List Te), idTs l m = true ↔ l = m
  | [], [] => by simp [idTs]
  | t :: l, u :: m => by simp [idTs, idT_iff t u, idTs_iff l m]
  | [], _ :: _ => by simp [idTs]
  | _ :: _, [] => by simp [idTs]
end
instance : DecidableEq Te := fun t u => if h : idT t u = true then .isTrue ((idT_iff t u).1 h) else .isFalse fun e => h ((idT_iff t u).2 e)
end Go.Proofs.Ytinclokohcommaa


namespace Go.Proofs.Ytinclokohcommaa
open Go.RowKit
set_option linter.unusedVariables false
set_option linter.unusedSimpArgs false

def mT (ds : List D) : Nat := szT (dT (ds.getD 0 .u))
def gCnt : List D → Option (List D)
  | [t, m] => if 1 ≤ m.int then some [.i (min (szT (dT t) : Int) m.int)] else none
  | _ => none
def gTi (f : Te → Int) : List D → Option (List D)
  | [t] => some [.i (f (dT t))]
  | _ => none
def gTb (f : Te → Bool) : List D → Option (List D)
  | [t] => some [.b (f (dT t))]
  | _ => none
theorem get_t {l : List Te} {k : Nat} (h : k < l.length) : (D.r (l.map eT)).get (k : Int) = eT (l.getD k default) := get_n eT h
theorem arg_sz {t : Te} {k : Nat} (h : k < t.l.length) : szT (t.l.getD k default) < szT t := szT_arg (getD_mem h)

theorem ok_ref03_Count : FOk q0s gCnt := fok_cut (m := mT) q3r fun N ih => fok_ref03_Count ih fun ds outs hw hg => by
  obtain ⟨d, r, rfl, hd, e, r', rfl, he, rfl⟩ := hw
  obtain ⟨t, rfl, ht⟩ := wfT hd
  obtain ⟨m, rfl, hm⟩ := wfI he
  simp only [cutM, mT, gCnt, List.getD_cons_zero, dT_eT, int_i, Option.ite_none_right_eq_some, Option.some.injEq] at hg
  obtain ⟨hsz, h1, rfl⟩ := hg
  have hl := ht.l
  rw [q2r, q1y]
  refine ⟨fun st => ∃ k : Nat, k ≤ t.l.length ∧ st = [.i (min ((szTs (t.l.take k) : Int) + 1) m), .i k], fun st => t.l.length - (st.getD 1 .u).int.toNat, ⟨0, Nat.zero_le _, by simp [X.evs, X.ev, szTs]; omega⟩, ?_⟩
  rintro st - ⟨k, hk, rfl⟩
  rw [go_br]
  refine ⟨fun hlt => ?_, fun hlt => ?_⟩
  · simp only [q02, go_br, q01, q03, allSay, X.says, X.ev, X.evs, evl, tblS, List.getD_cons_zero, List.getD_cons_succ, List.getElem?_cons_zero, List.getElem?_cons_succ, tt_b, int_i, str_s, rs_r, Option.isSome_some, Option.getD_some, decide_eq_true_eq, decide_eq_false_iff_not, dS_eS, dC_eC, dU_eU, dW_eW, dY_eY, eC_0, eC_1, eU_0, eU_1, eW_0, eW_1, eW_2, eY_0, eY_1, eS_0, eS_1, eS_2, eS_3, eS_4, eS_5, List.length_map, i_inj, b_inj, s_inj, eC_eq, eU_eq, eW_eq, eY_eq, eS_eq, rng64, List.take_succ_cons, List.take_zero, List.nil_append, List.cons_append, decide_true, decide_false, Bool.or_true, true_and, and_true, dT_eT, eT_0, eT_1, eT_2, eT_3, eT_eq, eT_z, Bool.and_eq_true] at hlt
    obtain ⟨hkl, hlm⟩ := hlt
    have hkl' : k < t.l.length := by omega
    have ha := arg_sz hkl'
    have hs := szTs_snoc hkl'
    have hmn : 1 ≤ m - min ((szTs (t.l.take k) : Int) + 1) m := by omega
    simp only [q02, go_br, q01, q03, allSay, X.says, X.ev, X.evs, evl, tblS, List.getD_cons_zero, List.getD_cons_succ, List.getElem?_cons_zero, List.getElem?_cons_succ, tt_b, int_i, str_s, rs_r, Option.isSome_some, Option.getD_some, decide_eq_true_eq, decide_eq_false_iff_not, dS_eS, dC_eC, dU_eU, dW_eW, dY_eY, eC_0, eC_1, eU_0, eU_1, eW_0, eW_1, eW_2, eY_0, eY_1, eS_0, eS_1, eS_2, eS_3, eS_4, eS_5, List.length_map, i_inj, b_inj, s_inj, eC_eq, eU_eq, eW_eq, eY_eq, eS_eq, rng64, List.take_succ_cons, List.take_zero, List.nil_append, List.cons_append, decide_true, decide_false, Bool.or_true, true_and, and_true, dT_eT, eT_0, eT_1, eT_2, eT_3, eT_eq, eT_z, get_t hkl', cutM, mT, gCnt, if_pos hmn, if_pos (show szT (t.l.getD k default) < N by omega)]
    refine ⟨⟨by omega, by omega, by omega, by omega⟩, ⟨by omega, by omega⟩, ?_⟩
    rw [updB, if_pos rfl]
    refine ⟨⟨k + 1, by omega, ?_⟩, ?_⟩
    · rw [hs]
      simp
      omega
    · simp [D.int]
      omega
  · simp only [q02, go_br, q01, q03, allSay, X.says, X.ev, X.evs, evl, tblS, List.getD_cons_zero, List.getD_cons_succ, List.getElem?_cons_zero, List.getElem?_cons_succ, tt_b, int_i, str_s, rs_r, Option.isSome_some, Option.getD_some, decide_eq_true_eq, decide_eq_false_iff_not, dS_eS, dC_eC, dU_eU, dW_eW, dY_eY, eC_0, eC_1, eU_0, eU_1, eW_0, eW_1, eW_2, eY_0, eY_1, eS_0, eS_1, eS_2, eS_3, eS_4, eS_5, List.length_map, i_inj, b_inj, s_inj, eC_eq, eU_eq, eW_eq, eY_eq, eS_eq, rng64, List.take_succ_cons, List.take_zero, List.nil_append, List.cons_append, decide_true, decide_false, Bool.or_true, true_and, and_true, dT_eT, eT_0, eT_1, eT_2, eT_3, eT_eq, eT_z, Bool.and_eq_false_iff] at hlt
    simp only [q02, go_br, q01, q03, allSay, X.says, X.ev, X.evs, evl, tblS, List.getD_cons_zero, List.getD_cons_succ, List.getElem?_cons_zero, List.getElem?_cons_succ, tt_b, int_i, str_s, rs_r, Option.isSome_some, Option.getD_some, decide_eq_true_eq, decide_eq_false_iff_not, dS_eS, dC_eC, dU_eU, dW_eW, dY_eY, eC_0, eC_1, eU_0, eU_1, eW_0, eW_1, eW_2, eY_0, eY_1, eS_0, eS_1, eS_2, eS_3, eS_4, eS_5, List.length_map, i_inj, b_inj, s_inj, eC_eq, eU_eq, eW_eq, eY_eq, eS_eq, rng64, List.take_succ_cons, List.take_zero, List.nil_append, List.cons_append, decide_true, decide_false, Bool.or_true, true_and, and_true, dT_eT, eT_0, eT_1, eT_2, eT_3, eT_eq, eT_z]
    have hz := szT_l t
    have : min ((szTs (t.l.take k) : Int) + 1) m = min (szT t : Int) m := by
      rcases hlt with h | h
      · have : k = t.l.length := by omega
        subst this
        rw [List.take_length]
        omega
      · have h2 := szTs_app (t.l.take k) (t.l.drop k)
        rw [List.take_append_drop] at h2
        omega
    rw [this]
theorem ok_ref03_Size : FOk q1h (gTi fun t => min (szT t : Int) 2001) := fok_ref03_Size ok_ref03_Count fun ds outs hw hg => by
  obtain ⟨d, r, rfl, hd, rfl⟩ := hw
  obtain ⟨t, rfl, ht⟩ := wfT hd
  simp only [gTi, dT_eT, Option.some.injEq] at hg
  subst hg
  simp [q38, q02, go_br, q01, q03, allSay, X.says, X.ev, X.evs, evl, tblS, List.getD_cons_zero, List.getD_cons_succ, List.getElem?_cons_zero, List.getElem?_cons_succ, tt_b, int_i, str_s, rs_r, Option.isSome_some, Option.getD_some, decide_eq_true_eq, decide_eq_false_iff_not, dS_eS, dC_eC, dU_eU, dW_eW, dY_eY, eC_0, eC_1, eU_0, eU_1, eW_0, eW_1, eW_2, eY_0, eY_1, eS_0, eS_1, eS_2, eS_3, eS_4, eS_5, List.length_map, i_inj, b_inj, s_inj, eC_eq, eU_eq, eW_eq, eY_eq, eS_eq, rng64, List.take_succ_cons, List.take_zero, List.nil_append, List.cons_append, decide_true, decide_false, Bool.or_true, true_and, and_true, dT_eT, eT_0, eT_1, eT_2, eT_3, eT_eq, eT_z, gCnt]
theorem ok_ref03_node : FOk q1i (gTb nodeT) := fok_ref03_node fun ds outs hw hg => by
  obtain ⟨d, r, rfl, hd, rfl⟩ := hw
  obtain ⟨t, rfl, ht⟩ := wfT hd
  simp only [gTb, dT_eT, Option.some.injEq] at hg
  subst hg
  simp only [q3a, q02, go_br, q01, q03, allSay, X.says, X.ev, X.evs, evl, tblS, List.getD_cons_zero, List.getD_cons_succ, List.getElem?_cons_zero, List.getElem?_cons_succ, tt_b, int_i, str_s, rs_r, Option.isSome_some, Option.getD_some, decide_eq_true_eq, decide_eq_false_iff_not, dS_eS, dC_eC, dU_eU, dW_eW, dY_eY, eC_0, eC_1, eU_0, eU_1, eW_0, eW_1, eW_2, eY_0, eY_1, eS_0, eS_1, eS_2, eS_3, eS_4, eS_5, List.length_map, i_inj, b_inj, s_inj, eC_eq, eU_eq, eW_eq, eY_eq, eS_eq, rng64, List.take_succ_cons, List.take_zero, List.nil_append, List.cons_append, decide_true, decide_false, Bool.or_true, true_and, and_true, dT_eT, eT_0, eT_1, eT_2, eT_3, eT_eq, eT_z, nodeT]
  by_cases h0 : t.k = 0
  · simp [h0, Bool.and_assoc]
  · by_cases h1 : t.k = 1
    · simp [h1]
    · by_cases h2 : t.k = 2
      · simp [h2, Bool.and_assoc]
      · by_cases h3 : t.k = 3
        · simp [h3, Bool.and_assoc]
        · simp [h0, h1, h2, h3]
theorem nodes_iff (t : Te) : nodesT t = true ↔ nodeT t = true ∧ ∀ j, j < t.l.length → nodesT (t.l.getD j default) = true := by
  rw [nodesT_all, Bool.and_eq_true, List.all_eq_true]
  simp
theorem ok_ref03_nodes : FOk q0t (gTb nodesT) := fok_cut (m := mT) q3q fun N ih => fok_ref03_nodes ok_ref03_node ih fun ds outs hw hg => by
  obtain ⟨d, r, rfl, hd, rfl⟩ := hw
  obtain ⟨t, rfl, ht⟩ := wfT hd
  simp only [cutM, mT, gTb, List.getD_cons_zero, dT_eT, int_i, Option.ite_none_right_eq_some, Option.some.injEq] at hg
  obtain ⟨hsz, rfl⟩ := hg
  have hl := ht.l
  simp only [q2u, q02, go_br, q01, q03, allSay, X.says, X.ev, X.evs, evl, tblS, List.getD_cons_zero, List.getD_cons_succ, List.getElem?_cons_zero, List.getElem?_cons_succ, tt_b, int_i, str_s, rs_r, Option.isSome_some, Option.getD_some, decide_eq_true_eq, decide_eq_false_iff_not, dS_eS, dC_eC, dU_eU, dW_eW, dY_eY, eC_0, eC_1, eU_0, eU_1, eW_0, eW_1, eW_2, eY_0, eY_1, eS_0, eS_1, eS_2, eS_3, eS_4, eS_5, List.length_map, i_inj, b_inj, s_inj, eC_eq, eU_eq, eW_eq, eY_eq, eS_eq, rng64, List.take_succ_cons, List.take_zero, List.nil_append, List.cons_append, decide_true, decide_false, Bool.or_true, true_and, and_true, dT_eT, eT_0, eT_1, eT_2, eT_3, eT_eq, eT_z, gTb]
  refine ⟨fun hn => ?_, fun hn => ?_⟩
  · rw [nodesT_all, show nodeT t = false by simpa using hn]
    rfl
  have hn : nodeT t = true := by simpa using hn
  rw [q1y]
  refine ⟨fun st => ∃ k : Nat, k ≤ t.l.length ∧ st = [.b false, .i k] ∧ ∀ j, j < k → nodesT (t.l.getD j default) = true, fun st => t.l.length - (st.getD 1 .u).int.toNat, ⟨0, Nat.zero_le _, rfl, fun j hj => absurd hj (Nat.not_lt_zero _)⟩, ?_⟩
  rintro st - ⟨k, hk, rfl, hP⟩
  rw [go_br]
  refine ⟨fun hlt => ?_, fun hlt => ?_⟩
  · simp only [q02, go_br, q01, q03, allSay, X.says, X.ev, X.evs, evl, tblS, List.getD_cons_zero, List.getD_cons_succ, List.getElem?_cons_zero, List.getElem?_cons_succ, tt_b, int_i, str_s, rs_r, Option.isSome_some, Option.getD_some, decide_eq_true_eq, decide_eq_false_iff_not, dS_eS, dC_eC, dU_eU, dW_eW, dY_eY, eC_0, eC_1, eU_0, eU_1, eW_0, eW_1, eW_2, eY_0, eY_1, eS_0, eS_1, eS_2, eS_3, eS_4, eS_5, List.length_map, i_inj, b_inj, s_inj, eC_eq, eU_eq, eW_eq, eY_eq, eS_eq, rng64, List.take_succ_cons, List.take_zero, List.nil_append, List.cons_append, decide_true, decide_false, Bool.or_true, true_and, and_true, dT_eT, eT_0, eT_1, eT_2, eT_3, eT_eq, eT_z] at hlt
    have hkl' : k < t.l.length := by omega
    have ha := arg_sz hkl'
    simp only [q02, go_br, q01, q03, allSay, X.says, X.ev, X.evs, evl, tblS, List.getD_cons_zero, List.getD_cons_succ, List.getElem?_cons_zero, List.getElem?_cons_succ, tt_b, int_i, str_s, rs_r, Option.isSome_some, Option.getD_some, decide_eq_true_eq, decide_eq_false_iff_not, dS_eS, dC_eC, dU_eU, dW_eW, dY_eY, eC_0, eC_1, eU_0, eU_1, eW_0, eW_1, eW_2, eY_0, eY_1, eS_0, eS_1, eS_2, eS_3, eS_4, eS_5, List.length_map, i_inj, b_inj, s_inj, eC_eq, eU_eq, eW_eq, eY_eq, eS_eq, rng64, List.take_succ_cons, List.take_zero, List.nil_append, List.cons_append, decide_true, decide_false, Bool.or_true, true_and, and_true, dT_eT, eT_0, eT_1, eT_2, eT_3, eT_eq, eT_z, get_t hkl', cutM, mT, gTb, if_pos (show szT (t.l.getD k default) < N by omega)]
    refine ⟨⟨by omega, by omega⟩, fun hx => ?_, fun hx => ⟨⟨by omega, by omega⟩, ?_⟩⟩
    · have : nodesT t = false := by
        cases hh : nodesT t with
        | false => rfl
        | true => rw [((nodes_iff t).1 hh).2 k hkl'] at hx; cases hx
      rw [this]
    · rw [updB, if_pos rfl]
      refine ⟨⟨k + 1, by omega, by simp, upto_succ hP (by simpa using hx)⟩, ?_⟩
      simp [D.int]
      omega
  · simp only [q02, go_br, q01, q03, allSay, X.says, X.ev, X.evs, evl, tblS, List.getD_cons_zero, List.getD_cons_succ, List.getElem?_cons_zero, List.getElem?_cons_succ, tt_b, int_i, str_s, rs_r, Option.isSome_some, Option.getD_some, decide_eq_true_eq, decide_eq_false_iff_not, dS_eS, dC_eC, dU_eU, dW_eW, dY_eY, eC_0, eC_1, eU_0, eU_1, eW_0, eW_1, eW_2, eY_0, eY_1, eS_0, eS_1, eS_2, eS_3, eS_4, eS_5, List.length_map, i_inj, b_inj, s_inj, eC_eq, eU_eq, eW_eq, eY_eq, eS_eq, rng64, List.take_succ_cons, List.take_zero, List.nil_append, List.cons_append, decide_true, decide_false, Bool.or_true, true_and, and_true, dT_eT, eT_0, eT_1, eT_2, eT_3, eT_eq, eT_z] at hlt ⊢
    have : k = t.l.length := by omega
    subst this
    rw [(nodes_iff t).2 ⟨hn, hP⟩]
theorem ok_ref03_Valid : FOk q0x (gTb validT) := fok_ref03_Valid ok_ref03_Size ok_ref03_nodes fun ds outs hw hg => by
  obtain ⟨d, r, rfl, hd, rfl⟩ := hw
  obtain ⟨t, rfl, ht⟩ := wfT hd
  simp only [gTb, dT_eT, Option.some.injEq] at hg
  subst hg
  have e : decide (min (szT t : Int) 2001 ≤ 2000) = decide (szT t ≤ 2000) := by rw [decide_eq_decide]; omega
  simp [q2x, q02, go_br, q01, q03, allSay, X.says, X.ev, X.evs, evl, tblS, List.getD_cons_zero, List.getD_cons_succ, List.getElem?_cons_zero, List.getElem?_cons_succ, tt_b, int_i, str_s, rs_r, Option.isSome_some, Option.getD_some, decide_eq_true_eq, decide_eq_false_iff_not, dS_eS, dC_eC, dU_eU, dW_eW, dY_eY, eC_0, eC_1, eU_0, eU_1, eW_0, eW_1, eW_2, eY_0, eY_1, eS_0, eS_1, eS_2, eS_3, eS_4, eS_5, List.length_map, i_inj, b_inj, s_inj, eC_eq, eU_eq, eW_eq, eY_eq, eS_eq, rng64, List.take_succ_cons, List.take_zero, List.nil_append, List.cons_append, decide_true, decide_false, Bool.or_true, true_and, and_true, dT_eT, eT_0, eT_1, eT_2, eT_3, eT_eq, eT_z, gTi, gTb, validT, e]
def gSz1 : List D → Option (List D)
  | [t, m] => if 1 ≤ m.int then some [.i (m.int - min (szT (dT t) : Int) m.int)] else none
  | _ => none
theorem ok_term_Size_1 : FOk q0r gSz1 := fok_cut (m := mT) q3p fun N ih => fok_term_Size_1 ih fun ds outs hw hg => by
  obtain ⟨d, r, rfl, hd, e, r', rfl, he, rfl⟩ := hw
  obtain ⟨t, rfl, ht⟩ := wfT hd
  obtain ⟨m, rfl, hm⟩ := wfI he
  simp only [cutM, mT, gSz1, List.getD_cons_zero, dT_eT, int_i, Option.ite_none_right_eq_some, Option.some.injEq] at hg
  obtain ⟨hsz, h1, rfl⟩ := hg
  have hl := ht.l
  rw [q30, q02]
  refine ⟨by simp only [q02, go_br, q01, q03, allSay, X.says, X.ev, X.evs, evl, tblS, List.getD_cons_zero, List.getD_cons_succ, List.getElem?_cons_zero, List.getElem?_cons_succ, tt_b, int_i, str_s, rs_r, Option.isSome_some, Option.getD_some, decide_eq_true_eq, decide_eq_false_iff_not, dS_eS, dC_eC, dU_eU, dW_eW, dY_eY, eC_0, eC_1, eU_0, eU_1, eW_0, eW_1, eW_2, eY_0, eY_1, eS_0, eS_1, eS_2, eS_3, eS_4, eS_5, List.length_map, i_inj, b_inj, s_inj, eC_eq, eU_eq, eW_eq, eY_eq, eS_eq, rng64, List.take_succ_cons, List.take_zero, List.nil_append, List.cons_append, decide_true, decide_false, Bool.or_true, true_and, and_true, dT_eT, eT_0, eT_1, eT_2, eT_3, eT_eq, eT_z]; omega, ?_⟩
  rw [q1y]
  refine ⟨fun st => ∃ k : Nat, k ≤ t.l.length ∧ st = [.i k, .i (m - min ((szTs (t.l.take k) : Int) + 1) m)], fun st => t.l.length - (st.getD 0 .u).int.toNat, ⟨0, Nat.zero_le _, by simp [X.evs, X.ev, szTs, evl, D.int]; omega⟩, ?_⟩
  rintro st - ⟨k, hk, rfl⟩
  rw [go_br]
  refine ⟨fun hlt => ?_, fun hlt => ?_⟩
  · simp only [q02, go_br, q01, q03, allSay, X.says, X.ev, X.evs, evl, tblS, List.getD_cons_zero, List.getD_cons_succ, List.getElem?_cons_zero, List.getElem?_cons_succ, tt_b, int_i, str_s, rs_r, Option.isSome_some, Option.getD_some, decide_eq_true_eq, decide_eq_false_iff_not, dS_eS, dC_eC, dU_eU, dW_eW, dY_eY, eC_0, eC_1, eU_0, eU_1, eW_0, eW_1, eW_2, eY_0, eY_1, eS_0, eS_1, eS_2, eS_3, eS_4, eS_5, List.length_map, i_inj, b_inj, s_inj, eC_eq, eU_eq, eW_eq, eY_eq, eS_eq, rng64, List.take_succ_cons, List.take_zero, List.nil_append, List.cons_append, decide_true, decide_false, Bool.or_true, true_and, and_true, dT_eT, eT_0, eT_1, eT_2, eT_3, eT_eq, eT_z, Bool.and_eq_true] at hlt
    obtain ⟨hkl, hlm⟩ := hlt
    have hkl' : k < t.l.length := by omega
    have ha := arg_sz hkl'
    have hs := szTs_snoc hkl'
    have hmn : 1 ≤ m - min ((szTs (t.l.take k) : Int) + 1) m := by omega
    simp only [q02, go_br, q01, q03, allSay, X.says, X.ev, X.evs, evl, tblS, List.getD_cons_zero, List.getD_cons_succ, List.getElem?_cons_zero, List.getElem?_cons_succ, tt_b, int_i, str_s, rs_r, Option.isSome_some, Option.getD_some, decide_eq_true_eq, decide_eq_false_iff_not, dS_eS, dC_eC, dU_eU, dW_eW, dY_eY, eC_0, eC_1, eU_0, eU_1, eW_0, eW_1, eW_2, eY_0, eY_1, eS_0, eS_1, eS_2, eS_3, eS_4, eS_5, List.length_map, i_inj, b_inj, s_inj, eC_eq, eU_eq, eW_eq, eY_eq, eS_eq, rng64, List.take_succ_cons, List.take_zero, List.nil_append, List.cons_append, decide_true, decide_false, Bool.or_true, true_and, and_true, dT_eT, eT_0, eT_1, eT_2, eT_3, eT_eq, eT_z, get_t hkl', cutM, mT, gSz1, if_pos hmn, if_pos (show szT (t.l.getD k default) < N by omega)]
    refine ⟨⟨by omega, by omega⟩, ⟨by omega, by omega⟩, ?_⟩
    rw [updB, if_pos rfl]
    refine ⟨⟨k + 1, by omega, ?_⟩, ?_⟩
    · rw [hs]
      simp
      omega
    · simp [D.int]
      omega
  · simp only [q02, go_br, q01, q03, allSay, X.says, X.ev, X.evs, evl, tblS, List.getD_cons_zero, List.getD_cons_succ, List.getElem?_cons_zero, List.getElem?_cons_succ, tt_b, int_i, str_s, rs_r, Option.isSome_some, Option.getD_some, decide_eq_true_eq, decide_eq_false_iff_not, dS_eS, dC_eC, dU_eU, dW_eW, dY_eY, eC_0, eC_1, eU_0, eU_1, eW_0, eW_1, eW_2, eY_0, eY_1, eS_0, eS_1, eS_2, eS_3, eS_4, eS_5, List.length_map, i_inj, b_inj, s_inj, eC_eq, eU_eq, eW_eq, eY_eq, eS_eq, rng64, List.take_succ_cons, List.take_zero, List.nil_append, List.cons_append, decide_true, decide_false, Bool.or_true, true_and, and_true, dT_eT, eT_0, eT_1, eT_2, eT_3, eT_eq, eT_z, Bool.and_eq_false_iff] at hlt
    simp only [q02, go_br, q01, q03, allSay, X.says, X.ev, X.evs, evl, tblS, List.getD_cons_zero, List.getD_cons_succ, List.getElem?_cons_zero, List.getElem?_cons_succ, tt_b, int_i, str_s, rs_r, Option.isSome_some, Option.getD_some, decide_eq_true_eq, decide_eq_false_iff_not, dS_eS, dC_eC, dU_eU, dW_eW, dY_eY, eC_0, eC_1, eU_0, eU_1, eW_0, eW_1, eW_2, eY_0, eY_1, eS_0, eS_1, eS_2, eS_3, eS_4, eS_5, List.length_map, i_inj, b_inj, s_inj, eC_eq, eU_eq, eW_eq, eY_eq, eS_eq, rng64, List.take_succ_cons, List.take_zero, List.nil_append, List.cons_append, decide_true, decide_false, Bool.or_true, true_and, and_true, dT_eT, eT_0, eT_1, eT_2, eT_3, eT_eq, eT_z]
    have hz := szT_l t
    have : m - min ((szTs (t.l.take k) : Int) + 1) m = m - min (szT t : Int) m := by
      rcases hlt with h | h
      · have : k = t.l.length := by omega
        subst this
        rw [List.take_length]
        omega
      · have h2 := szTs_app (t.l.take k) (t.l.drop k)
        rw [List.take_append_drop] at h2
        omega
    rw [this]
theorem ok_term_Size : FOk q1j (gTi fun t => min (szT t : Int) 2001) := fok_term_Size ok_term_Size_1 fun ds outs hw hg => by
  obtain ⟨d, r, rfl, hd, rfl⟩ := hw
  obtain ⟨t, rfl, ht⟩ := wfT hd
  simp only [gTi, dT_eT, Option.some.injEq] at hg
  subst hg
  simp [q3j, q02, go_br, q01, q03, allSay, X.says, X.ev, X.evs, evl, tblS, List.getD_cons_zero, List.getD_cons_succ, List.getElem?_cons_zero, List.getElem?_cons_succ, tt_b, int_i, str_s, rs_r, Option.isSome_some, Option.getD_some, decide_eq_true_eq, decide_eq_false_iff_not, dS_eS, dC_eC, dU_eU, dW_eW, dY_eY, eC_0, eC_1, eU_0, eU_1, eW_0, eW_1, eW_2, eY_0, eY_1, eS_0, eS_1, eS_2, eS_3, eS_4, eS_5, List.length_map, i_inj, b_inj, s_inj, eC_eq, eU_eq, eW_eq, eY_eq, eS_eq, rng64, List.take_succ_cons, List.take_zero, List.nil_append, List.cons_append, decide_true, decide_false, Bool.or_true, true_and, and_true, dT_eT, eT_0, eT_1, eT_2, eT_3, eT_eq, eT_z, gSz1]
  omega
theorem ok_term_fits : FOk q0p (gTb nodesT) := fok_cut (m := mT) q45 fun N ih => fok_term_fits ih fun ds outs hw hg => by
  obtain ⟨d, r, rfl, hd, rfl⟩ := hw
  obtain ⟨t, rfl, ht⟩ := wfT hd
  simp only [cutM, mT, gTb, List.getD_cons_zero, dT_eT, int_i, Option.ite_none_right_eq_some, Option.some.injEq] at hg
  obtain ⟨hsz, rfl⟩ := hg
  have hl := ht.l
  have key : ∀ (x : X), x.ev (evl (tblS [(q0p, cutM mT N (gTb nodesT))]) [eT t]) = .b (nodeT t) → Tree.go (tblS [(q0p, cutM mT N (gTb nodesT))]) (fun o => o = [D.b (nodesT t)]) (.loop 12 1 [x, (.lit (.i 0))] (.br (.and (.lt (.tok 2) (.len (.fld (.tok 0) 3))) (.tok 1)) (.need [(.le (.lit (.i 0)) (.tok 2)), (.lt (.tok 2) (.len (.fld (.tok 0) 3))), (.ok 0 [(.get (.fld (.tok 0) 3) (.tok 2))])] (.need [(.rng .i64 (.add (.tok 2) (.lit (.i 1))))] (.back 12 [(.call 0 0 [(.get (.fld (.tok 0) 3) (.tok 2))]), (.add (.tok 2) (.lit (.i 1)))]))) (.leaf [(.tok 1)]))) [eT t] fun _ _ => False := by
    intro x hx
    rw [q1y]
    refine ⟨fun st => ∃ (k : Nat) (v : Bool), k ≤ t.l.length ∧ st = [.b v, .i k] ∧ (v = true ↔ nodeT t = true ∧ ∀ j, j < k → nodesT (t.l.getD j default) = true), fun st => t.l.length - (st.getD 1 .u).int.toNat, ⟨0, nodeT t, Nat.zero_le _, by simp only [X.evs, hx, X.ev]; rfl, by simp⟩, ?_⟩
    rintro st - ⟨k, v, hk, rfl, hv⟩
    rw [go_br]
    refine ⟨fun hlt => ?_, fun hlt => ?_⟩
    · simp only [q02, go_br, q01, q03, allSay, X.says, X.ev, X.evs, evl, tblS, List.getD_cons_zero, List.getD_cons_succ, List.getElem?_cons_zero, List.getElem?_cons_succ, tt_b, int_i, str_s, rs_r, Option.isSome_some, Option.getD_some, decide_eq_true_eq, decide_eq_false_iff_not, dS_eS, dC_eC, dU_eU, dW_eW, dY_eY, eC_0, eC_1, eU_0, eU_1, eW_0, eW_1, eW_2, eY_0, eY_1, eS_0, eS_1, eS_2, eS_3, eS_4, eS_5, List.length_map, i_inj, b_inj, s_inj, eC_eq, eU_eq, eW_eq, eY_eq, eS_eq, rng64, List.take_succ_cons, List.take_zero, List.nil_append, List.cons_append, decide_true, decide_false, Bool.or_true, true_and, and_true, dT_eT, eT_0, eT_1, eT_2, eT_3, eT_eq, eT_z, Bool.and_eq_true] at hlt
      obtain ⟨hlt, rfl⟩ := hlt
      have hkl' : k < t.l.length := by omega
      have ha := arg_sz hkl'
      simp only [q02, go_br, q01, q03, allSay, X.says, X.ev, X.evs, evl, tblS, List.getD_cons_zero, List.getD_cons_succ, List.getElem?_cons_zero, List.getElem?_cons_succ, tt_b, int_i, str_s, rs_r, Option.isSome_some, Option.getD_some, decide_eq_true_eq, decide_eq_false_iff_not, dS_eS, dC_eC, dU_eU, dW_eW, dY_eY, eC_0, eC_1, eU_0, eU_1, eW_0, eW_1, eW_2, eY_0, eY_1, eS_0, eS_1, eS_2, eS_3, eS_4, eS_5, List.length_map, i_inj, b_inj, s_inj, eC_eq, eU_eq, eW_eq, eY_eq, eS_eq, rng64, List.take_succ_cons, List.take_zero, List.nil_append, List.cons_append, decide_true, decide_false, Bool.or_true, true_and, and_true, dT_eT, eT_0, eT_1, eT_2, eT_3, eT_eq, eT_z, get_t hkl', cutM, mT, gTb, if_pos (show szT (t.l.getD k default) < N by omega)]
      refine ⟨⟨by omega, by omega⟩, ⟨by omega, by omega⟩, ?_⟩
      rw [updB, if_pos rfl]
      have hv' := hv.1 rfl
      refine ⟨⟨k + 1, _, by omega, rfl, ⟨fun h => ⟨hv'.1, upto_succ hv'.2 h⟩, fun h => h.2 k (Nat.lt_succ_self _)⟩⟩, ?_⟩
      simp [D.int]
      omega
    · simp only [q02, go_br, q01, q03, allSay, X.says, X.ev, X.evs, evl, tblS, List.getD_cons_zero, List.getD_cons_succ, List.getElem?_cons_zero, List.getElem?_cons_succ, tt_b, int_i, str_s, rs_r, Option.isSome_some, Option.getD_some, decide_eq_true_eq, decide_eq_false_iff_not, dS_eS, dC_eC, dU_eU, dW_eW, dY_eY, eC_0, eC_1, eU_0, eU_1, eW_0, eW_1, eW_2, eY_0, eY_1, eS_0, eS_1, eS_2, eS_3, eS_4, eS_5, List.length_map, i_inj, b_inj, s_inj, eC_eq, eU_eq, eW_eq, eY_eq, eS_eq, rng64, List.take_succ_cons, List.take_zero, List.nil_append, List.cons_append, decide_true, decide_false, Bool.or_true, true_and, and_true, dT_eT, eT_0, eT_1, eT_2, eT_3, eT_eq, eT_z, Bool.and_eq_false_iff] at hlt
      simp only [q02, go_br, q01, q03, allSay, X.says, X.ev, X.evs, evl, tblS, List.getD_cons_zero, List.getD_cons_succ, List.getElem?_cons_zero, List.getElem?_cons_succ, tt_b, int_i, str_s, rs_r, Option.isSome_some, Option.getD_some, decide_eq_true_eq, decide_eq_false_iff_not, dS_eS, dC_eC, dU_eU, dW_eW, dY_eY, eC_0, eC_1, eU_0, eU_1, eW_0, eW_1, eW_2, eY_0, eY_1, eS_0, eS_1, eS_2, eS_3, eS_4, eS_5, List.length_map, i_inj, b_inj, s_inj, eC_eq, eU_eq, eW_eq, eY_eq, eS_eq, rng64, List.take_succ_cons, List.take_zero, List.nil_append, List.cons_append, decide_true, decide_false, Bool.or_true, true_and, and_true, dT_eT, eT_0, eT_1, eT_2, eT_3, eT_eq, eT_z]
      rw [show v = nodesT t from ?_]
      cases hvv : v with
      | false =>
        cases hh : nodesT t with
        | false => rfl
        | true =>
          have h2 := (nodes_iff t).1 hh
          rw [hv.2 ⟨h2.1, fun j hj => h2.2 j (by omega)⟩] at hvv
          cases hvv
      | true =>
        have : k = t.l.length := by
          rcases hlt with h | h
          · omega
          · rw [hvv] at h; cases h
        subst this
        exact ((nodes_iff t).2 (hv.1 hvv)).symm
  rw [q3k]
  simp only [go_br]
  have e0 : ∀ z : Int, (X.eq (.fld (.tok 0) 0) (.lit (.i z))).ev (evl (tblS [(q0p, cutM mT N (gTb nodesT))]) [eT t]) = .b (decide (t.k = z)) := fun z => by
    simp only [q02, go_br, q01, q03, allSay, X.says, X.ev, X.evs, evl, tblS, List.getD_cons_zero, List.getD_cons_succ, List.getElem?_cons_zero, List.getElem?_cons_succ, tt_b, int_i, str_s, rs_r, Option.isSome_some, Option.getD_some, decide_eq_true_eq, decide_eq_false_iff_not, dS_eS, dC_eC, dU_eU, dW_eW, dY_eY, eC_0, eC_1, eU_0, eU_1, eW_0, eW_1, eW_2, eY_0, eY_1, eS_0, eS_1, eS_2, eS_3, eS_4, eS_5, List.length_map, i_inj, b_inj, s_inj, eC_eq, eU_eq, eW_eq, eY_eq, eS_eq, rng64, List.take_succ_cons, List.take_zero, List.nil_append, List.cons_append, decide_true, decide_false, Bool.or_true, true_and, and_true, dT_eT, eT_0, eT_1, eT_2, eT_3, eT_eq, eT_z]
  simp only [e0, tt_b, decide_eq_true_eq, decide_eq_false_iff_not]
  refine ⟨fun h => key _ ?_, fun h0 => ⟨fun h => key _ ?_, fun h1 => ⟨fun h => key _ ?_, fun h2 => ⟨fun h => key _ ?_, fun h3 => key _ ?_⟩⟩⟩⟩
  all_goals simp only [q02, go_br, q01, q03, allSay, X.says, X.ev, X.evs, evl, tblS, List.getD_cons_zero, List.getD_cons_succ, List.getElem?_cons_zero, List.getElem?_cons_succ, tt_b, int_i, str_s, rs_r, Option.isSome_some, Option.getD_some, decide_eq_true_eq, decide_eq_false_iff_not, dS_eS, dC_eC, dU_eU, dW_eW, dY_eY, eC_0, eC_1, eU_0, eU_1, eW_0, eW_1, eW_2, eY_0, eY_1, eS_0, eS_1, eS_2, eS_3, eS_4, eS_5, List.length_map, i_inj, b_inj, s_inj, eC_eq, eU_eq, eW_eq, eY_eq, eS_eq, rng64, List.take_succ_cons, List.take_zero, List.nil_append, List.cons_append, decide_true, decide_false, Bool.or_true, true_and, and_true, dT_eT, eT_0, eT_1, eT_2, eT_3, eT_eq, eT_z, nodeT]
  · simp [h, Bool.and_assoc]
  · simp [h, Bool.and_assoc]
  · simp [h, Bool.and_assoc]
  · have e8 : decide (0 < (t.l.length : Int)) = decide (1 ≤ (t.l.length : Int)) := rfl
    rw [e8]
    simp [h, Bool.and_assoc]
  · simp [h0, h1, h2, h3]
theorem ok_term_Valid : FOk q0z (gTb validT) := fok_term_Valid ok_term_Size ok_term_fits fun ds outs hw hg => by
  obtain ⟨d, r, rfl, hd, rfl⟩ := hw
  obtain ⟨t, rfl, ht⟩ := wfT hd
  simp only [gTb, dT_eT, Option.some.injEq] at hg
  subst hg
  have e : decide (min (szT t : Int) 2001 ≤ 2000) = decide (szT t ≤ 2000) := by rw [decide_eq_decide]; omega
  simp [q35, q02, go_br, q01, q03, allSay, X.says, X.ev, X.evs, evl, tblS, List.getD_cons_zero, List.getD_cons_succ, List.getElem?_cons_zero, List.getElem?_cons_succ, tt_b, int_i, str_s, rs_r, Option.isSome_some, Option.getD_some, decide_eq_true_eq, decide_eq_false_iff_not, dS_eS, dC_eC, dU_eU, dW_eW, dY_eY, eC_0, eC_1, eU_0, eU_1, eW_0, eW_1, eW_2, eY_0, eY_1, eS_0, eS_1, eS_2, eS_3, eS_4, eS_5, List.length_map, i_inj, b_inj, s_inj, eC_eq, eU_eq, eW_eq, eY_eq, eS_eq, rng64, List.take_succ_cons, List.take_zero, List.nil_append, List.cons_append, decide_true, decide_false, Bool.or_true, true_and, and_true, dT_eT, eT_0, eT_1, eT_2, eT_3, eT_eq, eT_z, gTi, gTb, validT, e]
end Go.Proofs.Ytinclokohcommaa


namespace Go.Proofs.Ytinclokohcommaa
open Go.RowKit
set_option linter.unusedVariables false
set_option linter.unusedSimpArgs false

theorem vr_head {s : So} (h : validR s = true) : headB s = true := by
  simp only [validR, Bool.and_eq_true] at h
  exact h.1
end Go.Proofs.Ytinclokohcommaa


namespace Go.Proofs.Ytinclokohcommaa
open Go.RowKit
set_option linter.unusedVariables false
set_option maxRecDepth 100000

end Go.Proofs.Ytinclokohcommaa


namespace Go.Proofs.Ytinclokohcommaa
open Go.RowKit
set_option linter.unusedVariables false
set_option linter.unusedSimpArgs false

end Go.Proofs.Ytinclokohcommaa


namespace Go.Proofs.Ytinclokohcommaa
open Go.RowKit
set_option linter.unusedVariables false
set_option linter.unusedSimpArgs false

structure Vc where
  v : Int
  c : Ce
instance : Inhabited Vc := ⟨⟨0, default⟩⟩
def eV (x : Vc) : D := .a [.i x.v, eC x.c]
def dV (d : D) : Vc := ⟨(d.fld 0).int, dC (d.fld 1)⟩
theorem dV_eV (x : Vc) : dV (eV x) = x := rfl
theorem eV_inj {a b : Vc} (h : eV a = eV b) : a = b := by rw [← dV_eV a, h, dV_eV b]
theorem eV_eq (a b : Vc) : (eV a = eV b) = (a = b) := propext ⟨eV_inj, fun h => h ▸ rfl⟩
instance : DecidableEq Vc := fun a b => if h : eV a = eV b then .isTrue (eV_inj h) else .isFalse fun e => h (e ▸ rfl)
theorem eV_0 (x : Vc) : (eV x).fld 0 = .i x.v := rfl
theorem eV_1 (x : Vc) : (eV x).fld 1 = eC x.c := rfl
theorem eV_mk (n : Int) (c : Ce) : D.a [.i n, eC c] = eV ⟨n, c⟩ := rfl
def dVs (d : D) : List Vc := d.rs.map dV
theorem dVs_eVs (l : List Vc) : dVs (.r (l.map eV)) = l := by
  show (l.map eV).map dV = l
  rw [List.map_map]
  exact List.map_id'' (fun x => rfl) l
theorem wfV {d : D} (h : Wf d T_VarCell) : ∃ c, d = eV c ∧ i64 c.v ∧ c.c.ok := by
  obtain ⟨ds, rfl, hl⟩ := h.st_of (fs := [.int .i64, T_Cell]) rfl
  obtain ⟨a, b, rfl, ha, hb⟩ := wfL2 hl
  obtain ⟨x, rfl, hx⟩ := wfI ha
  obtain ⟨y, rfl, hy⟩ := wfC hb
  exact ⟨⟨x, y⟩, rfl, hx, hy⟩
theorem wfVs {d : D} (h : Wf d T_VarCells) : ∃ l : List Vc, d = .r (l.map eV) ∧ l.length ≤ 5864062014634 ∧ ∀ x ∈ l, i64 x.v ∧ x.c.ok := by
  obtain ⟨l, e, h1, h2⟩ := h.row_of (te := T_VarCell) rfl
  subst e
  obtain ⟨m, rfl, h3⟩ := of_all (e := eV) (P := fun x => i64 x.v ∧ x.c.ok) fun x hx => wfV (h2 x hx)
  have e : LM T_VarCell = 5864062014634 := by kernel_rfl
  rw [e, List.length_map] at h1
  exact ⟨m, rfl, h1, h3⟩

def ofV : List Vc → Int → Option Ce
  | [], _ => none
  | x :: l, v => if x.v = v then some x.c else ofV l v
def insV : List Vc → Int → Ce → List Vc
  | [], v, c => [⟨v, c⟩]
  | x :: l, v, c => if x.v < v then x :: insV l v c else ⟨v, c⟩ :: x :: l
def loV : List Vc → Int → Nat
  | [], _ => 0
  | x :: l, v => if x.v < v then loV l v + 1 else 0
def SV (l : List Vc) : Prop := l.Pairwise (fun a b => a.v < b.v) ∧ ∀ x ∈ l, 0 ≤ x.v ∧ x.v ≤ 1099511627776
instance (l : List Vc) : Decidable (SV l) := inferInstanceAs (Decidable (_ ∧ _))
theorem loV_le (v : Int) : ∀ l, loV l v ≤ l.length
  | [] => Nat.le_refl _
  | x :: l => by
    unfold loV
    have := loV_le v l
    split <;> simp <;> omega
theorem loV_lt {v : Int} : ∀ {l : List Vc} {j : Nat}, j < loV l v → (l.getD j default).v < v
  | [], j, h => by simp [loV] at h
  | x :: l, j, h => by
    unfold loV at h
    split at h
    · rename_i hx
      cases j with
      | zero => exact hx
      | succ j =>
        rw [List.getD_cons_succ]
        exact loV_lt (by omega)
    · omega
theorem loV_stop {v : Int} : ∀ {l : List Vc}, loV l v < l.length → v ≤ (l.getD (loV l v) default).v
  | [], h => by simp [loV] at h
  | x :: l, h => by
    unfold loV at h ⊢
    split at h
    · rename_i hx
      rw [if_pos hx, List.getD_cons_succ]
      exact loV_stop (by simpa using h)
    · rename_i hx
      rw [if_neg hx, List.getD_cons_zero]
      omega
theorem loV_uniq {v : Int} {l : List Vc} {i : Nat} (hi : i ≤ l.length) (h1 : ∀ j, j < i → (l.getD j default).v < v) (h2 : ∀ j, i ≤ j → j < l.length → v ≤ (l.getD j default).v) : loV l v = i := by
  rcases Nat.lt_trichotomy (loV l v) i with h | h | h
  · have := h1 _ h
    have := loV_stop (v := v) (l := l) (by omega)
    omega
  · exact h
  · have := loV_lt h
    have h3 := loV_le v l
    have := h2 i (Nat.le_refl _) (by omega)
    omega
theorem insV_eq (v : Int) (c : Ce) : ∀ l, insV l v c = l.take (loV l v) ++ ⟨v, c⟩ :: l.drop (loV l v)
  | [] => rfl
  | x :: l => by
    unfold insV loV
    split
    · rw [insV_eq v c l]
      rfl
    · rfl
theorem ofV_none {v : Int} : ∀ {l : List Vc}, (∀ y ∈ l, y.v ≠ v) → ofV l v = none
  | [], _ => rfl
  | x :: l, h => by
    unfold ofV
    rw [if_neg (h x (by simp)), ofV_none fun y hy => h y (by simp [hy])]
theorem ofV_lo {v : Int} : ∀ {l : List Vc}, SV l → ofV l v = if loV l v < l.length ∧ (l.getD (loV l v) default).v = v then some (l.getD (loV l v) default).c else none
  | [], _ => rfl
  | x :: l, h => by
    have hp := List.pairwise_cons.1 h.1
    have hl : SV l := ⟨hp.2, fun y hy => h.2 y (by simp [hy])⟩
    unfold ofV loV
    by_cases hx : x.v < v
    · rw [if_neg (by omega), if_pos hx, ofV_lo hl]
      simp
    · rw [if_neg hx]
      by_cases he : x.v = v
      · simp [he]
      · rw [if_neg he, ofV_none fun y hy => by have := hp.1 y hy; omega]
        simp [he]
theorem ofV_no {v : Int} : ∀ {l : List Vc}, ofV l v = none → ∀ y ∈ l, y.v ≠ v
  | [], _, y, hy => by cases hy
  | x :: l, h, y, hy => by
    unfold ofV at h
    split at h
    · cases h
    · rename_i hx
      rcases List.mem_cons.1 hy with rfl | hy
      · exact hx
      · exact ofV_no h y hy
theorem insV_mem {v : Int} {c : Ce} {l : List Vc} {y : Vc} : y ∈ insV l v c ↔ y = ⟨v, c⟩ ∨ y ∈ l := by
  rw [insV_eq, List.mem_append, List.mem_cons]
  conv => rhs; rw [← List.take_append_drop (loV l v) l, List.mem_append]
  constructor
  · rintro (h | h | h)
    · exact .inr (.inl h)
    · exact .inl h
    · exact .inr (.inr h)
  · rintro (h | h | h)
    · exact .inr (.inl h)
    · exact .inl h
    · exact .inr (.inr h)
theorem insV_sv {v : Int} {c : Ce} (h0 : 0 ≤ v) (h1 : v ≤ 1099511627776) : ∀ {l : List Vc}, SV l → ofV l v = none → SV (insV l v c) := fun {l} h hn => by
  refine ⟨?_, fun y hy => ?_⟩
  · have hne := ofV_no hn
    have key : ∀ l : List Vc, l.Pairwise (fun a b => a.v < b.v) → (∀ y ∈ l, y.v ≠ v) → (insV l v c).Pairwise fun a b => a.v < b.v := by
      intro l
      induction l with
      | nil => intro _ _; exact List.pairwise_singleton _ _
      | cons x l ih =>
        intro hp hn
        have hp' := List.pairwise_cons.1 hp
        unfold insV
        split
        · rename_i hx
          refine List.pairwise_cons.2 ⟨fun y hy => ?_, ih hp'.2 fun y hy => hn y (by simp [hy])⟩
          rcases insV_mem.1 hy with rfl | hy
          · exact hx
          · exact hp'.1 y hy
        · rename_i hx
          have := hn x (by simp)
          refine List.pairwise_cons.2 ⟨fun y hy => ?_, hp⟩
          rcases List.mem_cons.1 hy with rfl | hy
          · show v < y.v; omega
          · have := hp'.1 y hy
            show v < y.v
            omega
    exact key l h.1 hne
  · rcases insV_mem.1 hy with rfl | hy
    · exact ⟨h0, h1⟩
    · exact h.2 y hy
theorem sv_len {b : Int} : ∀ (l : List Vc) (a : Int), a ≤ b + 1 → l.Pairwise (fun x y => x.v < y.v) → (∀ x ∈ l, a ≤ x.v ∧ x.v ≤ b) → (l.length : Int) ≤ b - a + 1
  | [], a, h, _, _ => by simp; omega
  | x :: l, a, h, hp, hr => by
    have hp' := List.pairwise_cons.1 hp
    have hx := hr x (by simp)
    have := sv_len l (x.v + 1) (by omega) hp'.2 fun y hy => ⟨by have := hp'.1 y hy; omega, (hr y (by simp [hy])).2⟩
    rw [List.length_cons]
    omega
theorem SV.len {l : List Vc} (h : SV l) : (l.length : Int) ≤ 1099511627777 := by
  have := sv_len (b := 1099511627776) l 0 (by omega) h.1 h.2
  omega
theorem SV.nil : SV [] := ⟨.nil, fun x hx => by cases hx⟩

theorem fnd_mem {nm : ByteArray} {ar : Int} : ∀ (k : Nat) (l : List Sy), 0 ≤ fnd nm ar k l ↔ (⟨nm, ar⟩ : Sy) ∈ l
  | k, [] => by simp [fnd]
  | k, y :: l => by
    unfold fnd
    split
    · rename_i h
      obtain ⟨rfl, rfl⟩ := h
      exact ⟨fun _ => by simp, fun _ => Int.natCast_nonneg _⟩
    · rename_i h
      rw [fnd_mem (k + 1) l, List.mem_cons]
      exact ⟨.inr, fun h' => h'.elim (fun e => by subst e; exact (h ⟨rfl, rfl⟩).elim) id⟩
theorem findS_mem {s : So} {nm : ByteArray} {ar : Int} : 0 ≤ findS s nm ar ↔ (⟨nm, ar⟩ : Sy) ∈ s.ys := fnd_mem 0 s.ys
def symN (s : So) (nm : ByteArray) (ar : Int) : Int × So := if 0 ≤ findS s nm ar then (findS s nm ar, s) else ((s.ys.length : Nat), { s with ys := s.ys ++ [⟨nm, ar⟩] })
def symX (ys : List Sy) (y : Sy) : List Sy := if y ∈ ys then ys else ys ++ [y]
mutual
def symsT (ys : List Sy) : Te → List Sy
  | .mk k _ nm l => symsTs (if k = 2 ∨ k = 3 then symX ys ⟨nm, (l.length : Nat)⟩ else ys) l
def symsTs (ys : List Sy) : List Te → List Sy
  | [] => ys
  | t :: l => symsTs (symsT ys t) l
end
theorem symX_len (ys : List Sy) (y : Sy) : ys.length ≤ (symX ys y).length := by
  unfold symX
  split
  · exact Nat.le_refl _
  · simp
mutual
theorem symsT_len : ∀ (t : Te) (ys : List Sy), ys.length ≤ (symsT ys t).length
  | .mk k n nm l, ys => by
    rw [symsT]
    refine Nat.le_trans ?_ (symsTs_len l _)
    split
    · exact symX_len _ _
    · exact Nat.le_refl _
theorem symsTs_len : ∀ (l : List Te) (ys : List Sy), ys.length ≤ (symsTs ys l).length
  | [], ys => Nat.le_refl _
  | t :: l, ys => by
    rw [symsTs]
    exact Nat.le_trans (symsT_len t ys) (symsTs_len l _)
end
theorem symN_cs (s : So) (nm : ByteArray) (ar : Int) : (symN s nm ar).2.cs = s.cs ∧ (symN s nm ar).2.mx = s.mx ∧ (symN s nm ar).2.ys = symX s.ys ⟨nm, ar⟩ ∧ (symN s nm ar).2.tr = s.tr ∧ (symN s nm ar).2.wk = s.wk ∧ (symN s nm ar).2.ser = s.ser := by
  unfold symN symX
  by_cases h : 0 ≤ findS s nm ar
  · rw [if_pos h, if_pos (findS_mem.1 h)]
    exact ⟨rfl, rfl, rfl, rfl, rfl, rfl⟩
  · rw [if_neg h, if_neg (fun q => h (findS_mem.2 q))]
    exact ⟨rfl, rfl, rfl, rfl, rfl, rfl⟩
def symM (ys ms : List Sy) (y : Sy) : List Sy := if y ∈ ms ∨ y ∈ ys then ms else ms ++ [y]
mutual
def visM (ys ms : List Sy) : Te → List Sy
  | .mk k _ nm l => visMs ys (if k = 2 ∨ k = 3 then symM ys ms ⟨nm, (l.length : Nat)⟩ else ms) l
def visMs (ys ms : List Sy) : List Te → List Sy
  | [] => ms
  | t :: l => visMs ys (visM ys ms t) l
end
theorem symM_X (ys ms : List Sy) (y : Sy) : ys ++ symM ys ms y = symX (ys ++ ms) y := by
  unfold symM symX
  by_cases h : y ∈ ms ∨ y ∈ ys
  · rw [if_pos h, if_pos (List.mem_append.2 h.symm)]
  · rw [if_neg h, if_neg (fun q => h (List.mem_append.1 q).symm), List.append_assoc]
mutual
theorem visM_T : ∀ (t : Te) (ys ms : List Sy), ys ++ visM ys ms t = symsT (ys ++ ms) t
  | .mk k n nm l, ys, ms => by
    rw [visM, symsT, visMs_T]
    split
    · rw [symM_X]
    · rfl
theorem visMs_T : ∀ (l : List Te) (ys ms : List Sy), ys ++ visMs ys ms l = symsTs (ys ++ ms) l
  | [], ys, ms => rfl
  | t :: l, ys, ms => by rw [visMs, symsTs, visMs_T, visM_T]
end
theorem symM_len (ys ms : List Sy) (y : Sy) : (symM ys ms y).length ≤ ms.length + 1 := by
  unfold symM
  split
  · omega
  · simp
mutual
theorem visM_len : ∀ (t : Te) (ys ms : List Sy), (visM ys ms t).length ≤ ms.length + szT t
  | .mk k n nm l, ys, ms => by
    rw [visM, szT]
    refine Nat.le_trans (visMs_len l _ _) ?_
    split
    · have := symM_len ys ms ⟨nm, (l.length : Nat)⟩
      omega
    · omega
theorem visMs_len : ∀ (l : List Te) (ys ms : List Sy), (visMs ys ms l).length ≤ ms.length + szTs l
  | [], ys, ms => by simp [visMs, szTs]
  | t :: l, ys, ms => by
    rw [visMs, szTs]
    have h1 := visM_len t ys ms
    have h2 := visMs_len l ys (visM ys ms t)
    omega
end
mutual
/-- The cells that a term needs, but for a variable that is no argument. -/
def cntT : Te → Nat
  | .mk k _ _ l => if k = 3 then 1 + l.length + cntTs l else 0
def cntTs : List Te → Nat
  | [] => 0
  | t :: l => cntT t + cntTs l
end
mutual
theorem cntT_sz : ∀ t : Te, cntT t + 1 ≤ 2 * szT t
  | .mk k n nm l => by
    rw [cntT, szT]
    have h1 := cntTs_sz l
    have h2 := szTs_len l
    split <;> omega
theorem cntTs_sz : ∀ l : List Te, cntTs l + l.length ≤ 2 * szTs l
  | [] => Nat.le_refl _
  | t :: l => by
    rw [cntTs, szTs, List.length_cons]
    have h1 := cntT_sz t
    have h2 := cntTs_sz l
    omega
end
def nedT (t : Te) (all : List Vc) : Nat := cntT t + if t.k = 0 ∧ ofV all t.n = none then 1 else 0

def keptC (c : Ce) : Ce := if c.t = 5 then ⟨0, c.n⟩ else c
abbrev Sv := So × List Vc
def setC (s : So) (i : Nat) (c : Ce) : So := { s with cs := s.cs.set i c }
mutual
/-- A term added; at: the address of the argument that it becomes. -/
def addD (q : Sv) : Te → Int → Ce × Sv
  | .mk k n nm l, at' =>
    if k = 1 then (⟨1, n⟩, q)
    else if k = 2 then (⟨2, (symN q.1 nm 0).1⟩, (symN q.1 nm 0).2, q.2)
    else if k = 0 then (match ofV q.2 n with
      | some c => (keptC c, q)
      | none => if at' < 0 then (⟨0, (q.1.cs.length : Nat)⟩, { q.1 with cs := q.1.cs ++ [⟨0, (q.1.cs.length : Nat)⟩] }, insV q.2 n ⟨0, (q.1.cs.length : Nat)⟩) else (⟨0, at'⟩, q.1, insV q.2 n ⟨0, at'⟩))
    else (⟨3, (q.1.cs.length : Nat)⟩, addAs ({ (symN q.1 nm (l.length : Nat)).2 with cs := q.1.cs ++ (⟨4, (symN q.1 nm (l.length : Nat)).1⟩ :: List.replicate l.length ⟨0, 0⟩) }, q.2) l (q.1.cs.length + 1))
def addAs (q : Sv) : List Te → Nat → Sv
  | [], _ => q
  | a :: l, to => addAs (setC (addD q a (to : Nat)).2.1 to (addD q a (to : Nat)).1, (addD q a (to : Nat)).2.2) l (to + 1)
end
theorem setC_len (s : So) (i : Nat) (c : Ce) : (setC s i c).cs.length = s.cs.length := by simp [setC]
def Rst (s s' : So) : Prop := s'.mx = s.mx ∧ s'.tr = s.tr ∧ s'.wk = s.wk ∧ s'.ser = s.ser
theorem Rst.trans {a b c : So} (h : Rst a b) (k : Rst b c) : Rst a c := ⟨k.1.trans h.1, k.2.1.trans h.2.1, k.2.2.1.trans h.2.2.1, k.2.2.2.trans h.2.2.2⟩
theorem nodeT_k (k n : Int) (s : ByteArray) (l : List Te) : nodeT (.mk k n s l) = if k = 0 then decide (0 ≤ n) && (decide (n ≤ 1099511627776) && (decide (s = ⟨#[]⟩) && decide ((l.length : Int) = 0)))
  else if k = 1 then decide (s = ⟨#[]⟩) && decide ((l.length : Int) = 0)
  else if k = 2 then decide (n = 0) && (decide ((s.size : Int) ≤ 100) && decide ((l.length : Int) = 0))
  else if k = 3 then decide (n = 0) && (decide ((s.size : Int) ≤ 100) && (decide (1 ≤ (l.length : Int)) && decide ((l.length : Int) ≤ 8)))
  else false := rfl
theorem node_cases {k n : Int} {s : ByteArray} {l : List Te} (h : nodeT (.mk k n s l) = true) : (k = 0 ∧ l = [] ∧ 0 ≤ n ∧ n ≤ 1099511627776) ∨ (k = 1 ∧ l = []) ∨ (k = 2 ∧ l = [] ∧ s.size ≤ 100) ∨ (k = 3 ∧ s.size ≤ 100 ∧ 1 ≤ l.length ∧ l.length ≤ 8) := by
  rw [nodeT_k] at h
  by_cases h0 : k = 0
  · rw [if_pos h0] at h
    simp only [Bool.and_eq_true, decide_eq_true_eq] at h
    exact .inl ⟨h0, List.length_eq_zero_iff.1 (by omega), h.1, h.2.1⟩
  rw [if_neg h0] at h
  by_cases h1 : k = 1
  · rw [if_pos h1] at h
    simp only [Bool.and_eq_true, decide_eq_true_eq] at h
    exact .inr (.inl ⟨h1, List.length_eq_zero_iff.1 (by omega)⟩)
  rw [if_neg h1] at h
  by_cases h2 : k = 2
  · rw [if_pos h2] at h
    simp only [Bool.and_eq_true, decide_eq_true_eq] at h
    exact .inr (.inr (.inl ⟨h2, List.length_eq_zero_iff.1 (by omega), by omega⟩))
  rw [if_neg h2] at h
  split at h
  · rename_i h3
    simp only [Bool.and_eq_true, decide_eq_true_eq] at h
    exact .inr (.inr (.inr ⟨h3, by omega, by omega, by omega⟩))
  · cases h
theorem addD_0 (q : Sv) (n : Int) (nm : ByteArray) (l : List Te) (a : Int) : addD q (.mk 0 n nm l) a = match ofV q.2 n with
      | some c => (keptC c, q)
      | none => if a < 0 then (⟨0, (q.1.cs.length : Nat)⟩, { q.1 with cs := q.1.cs ++ [⟨0, (q.1.cs.length : Nat)⟩] }, insV q.2 n ⟨0, (q.1.cs.length : Nat)⟩) else (⟨0, a⟩, q.1, insV q.2 n ⟨0, a⟩) := by
  rw [addD, if_neg (by decide), if_neg (by decide), if_pos rfl]
theorem addD_1 (q : Sv) (n : Int) (nm : ByteArray) (l : List Te) (a : Int) : addD q (.mk 1 n nm l) a = (⟨1, n⟩, q) := by rw [addD, if_pos rfl]
theorem addD_2 (q : Sv) (n : Int) (nm : ByteArray) (l : List Te) (a : Int) : addD q (.mk 2 n nm l) a = (⟨2, (symN q.1 nm 0).1⟩, (symN q.1 nm 0).2, q.2) := by rw [addD, if_neg (by decide), if_pos rfl]
theorem addD_3 (q : Sv) (n : Int) (nm : ByteArray) (l : List Te) (a : Int) : addD q (.mk 3 n nm l) a = (⟨3, (q.1.cs.length : Nat)⟩, addAs ({ (symN q.1 nm (l.length : Nat)).2 with cs := q.1.cs ++ (⟨4, (symN q.1 nm (l.length : Nat)).1⟩ :: List.replicate l.length ⟨0, 0⟩) }, q.2) l (q.1.cs.length + 1)) := by rw [addD, if_neg (by decide), if_neg (by decide), if_neg (by decide)]
theorem cnt_no {k n : Int} {nm : ByteArray} {l : List Te} (h : k ≠ 3) : cntT (.mk k n nm l) = 0 := by rw [cntT, if_neg h]
theorem ned_no {k n : Int} {nm : ByteArray} {l : List Te} (h : k ≠ 0) (all : List Vc) : nedT (.mk k n nm l) all = cntT (.mk k n nm l) := by
  unfold nedT
  rw [if_neg (fun q => h q.1)]
  rfl
theorem syms_no {k n : Int} {nm : ByteArray} {ys : List Sy} (h : ¬ (k = 2 ∨ k = 3)) : symsT ys (.mk k n nm []) = ys := by rw [symsT, if_neg h, symsTs]
theorem syms_2 {n : Int} {nm : ByteArray} {ys : List Sy} : symsT ys (.mk 2 n nm []) = symX ys ⟨nm, 0⟩ := by rw [symsT, if_pos (.inl rfl), symsTs]; rfl
theorem syms_3 {n : Int} {nm : ByteArray} {ys : List Sy} {l : List Te} : symsT ys (.mk 3 n nm l) = symsTs (symX ys ⟨nm, (l.length : Nat)⟩) l := by rw [symsT, if_pos (.inr rfl)]
theorem cnt_3 {n : Int} {nm : ByteArray} {l : List Te} : cntT (.mk 3 n nm l) = 1 + l.length + cntTs l := by rw [cntT, if_pos rfl]
theorem Rst.refl (s : So) : Rst s s := ⟨rfl, rfl, rfl, rfl⟩
mutual
theorem addD_len : ∀ (t : Te) (q : Sv) (a : Int), nodesT t = true → SV q.2 → (addD q t a).2.1.cs.length = q.1.cs.length + (if a < 0 then nedT t q.2 else cntT t) ∧ (addD q t a).2.1.ys = symsT q.1.ys t ∧ Rst q.1 (addD q t a).2.1 ∧ SV (addD q t a).2.2
  | .mk k n nm l, q, a, hn, hs => by
    rw [nodesT, Bool.and_eq_true] at hn
    rcases node_cases hn.1 with ⟨rfl, rfl, h1, h2⟩ | ⟨rfl, rfl⟩ | ⟨rfl, rfl, h1⟩ | ⟨rfl, h1, h2, h3⟩
    · have e1 : nedT (.mk 0 n nm []) q.2 = if ofV q.2 n = none then 1 else 0 := by
        unfold nedT
        rw [cnt_no (by decide)]
        simp [Te.k, Te.n]
      rw [addD_0, syms_no (by decide), cnt_no (by decide), e1]
      cases ho : ofV q.2 n with
      | some c => exact ⟨by simp, rfl, Rst.refl _, hs⟩
      | none =>
        by_cases ha : a < 0
        · simp only [if_pos ha]
          exact ⟨by simp, by trivial, ⟨rfl, rfl, rfl, rfl⟩, insV_sv h1 h2 hs ho⟩
        · simp only [if_neg ha]
          exact ⟨by simp, by trivial, ⟨rfl, rfl, rfl, rfl⟩, insV_sv h1 h2 hs ho⟩
    · rw [addD_1, syms_no (by decide), ned_no (by decide), cnt_no (by decide)]
      exact ⟨by simp, rfl, Rst.refl _, hs⟩
    · obtain ⟨e1, e2, e3, e4, e5, e6⟩ := symN_cs q.1 nm 0
      rw [addD_2, syms_2, ned_no (by decide), cnt_no (by decide)]
      exact ⟨by rw [e1]; simp, e3, ⟨e2, e4, e5, e6⟩, hs⟩
    · obtain ⟨e1, e2, e3, e4, e5, e6⟩ := symN_cs q.1 nm (l.length : Nat)
      rw [addD_3, syms_3, ned_no (by decide), cnt_3]
      obtain ⟨g1, g2, g3, g4⟩ := addAs_len l ({ (symN q.1 nm (l.length : Nat)).2 with cs := q.1.cs ++ (⟨4, (symN q.1 nm (l.length : Nat)).1⟩ :: List.replicate l.length ⟨0, 0⟩) }, q.2) (q.1.cs.length + 1) hn.2 hs
      refine ⟨?_, ?_, ?_, g4⟩
      · rw [g1]
        simp
        omega
      · rw [g2]
        show symsTs (symN q.1 nm (l.length : Nat)).2.ys l = _
        rw [e3]
      · exact Rst.trans ⟨e2, e4, e5, e6⟩ g3
theorem addAs_len : ∀ (l : List Te) (q : Sv) (to : Nat), nodesTs l = true → SV q.2 → (addAs q l to).1.cs.length = q.1.cs.length + cntTs l ∧ (addAs q l to).1.ys = symsTs q.1.ys l ∧ Rst q.1 (addAs q l to).1 ∧ SV (addAs q l to).2
  | [], q, to, _, hs => ⟨rfl, rfl, ⟨rfl, rfl, rfl, rfl⟩, hs⟩
  | t :: l, q, to, hn, hs => by
    rw [nodesTs, Bool.and_eq_true] at hn
    rw [addAs, cntTs, symsTs]
    obtain ⟨h1, h2, h3, h4⟩ := addD_len t q (to : Nat) hn.1 hs
    obtain ⟨g1, g2, g3, g4⟩ := addAs_len l (setC (addD q t (to : Nat)).2.1 to (addD q t (to : Nat)).1, (addD q t (to : Nat)).2.2) (to + 1) hn.2 h4
    refine ⟨?_, ?_, ?_, g4⟩
    · rw [g1, setC_len, h1, if_neg (by omega)]
      omega
    · rw [g2]
      show symsTs (addD q t (to : Nat)).2.1.ys l = _
      rw [h2]
    · exact Rst.trans h3 g3
end
end Go.Proofs.Ytinclokohcommaa


namespace Go.Proofs.Ytinclokohcommaa.Ins
open Go.RowKit Go.Shelf Go.Lib
set_option linter.unusedVariables false
set_option linter.unusedSimpArgs false
set_option maxRecDepth 100000
attribute [local go_sem] Oper.semAt_some

abbrev E3 := Int × Int × Int
def fl3 (x : E3) : List Value := [.int .i64 x.1, .int .i64 x.2.1, .int .i64 x.2.2]
def fls (l : List E3) : List Value := l.flatMap fl3
theorem fls_len (l : List E3) : (fls l).length = l.length * 3 := by
  induction l with
  | nil => rfl
  | cons x l ih => simp [fls, fl3] at *; omega
theorem fls_app (l m : List E3) : fls (l ++ m) = fls l ++ fls m := List.flatMap_append
theorem fls_one {l : List E3} : ∀ v ∈ fls l, v.oneCell' = true := fun v hv => by
  obtain ⟨x, -, hx⟩ := List.mem_flatMap.1 hv
  simp only [fl3, List.mem_cons, List.not_mem_nil, or_false] at hx
  rcases hx with rfl | rfl | rfl <;> rfl
theorem fls_cons (x : E3) (l : List E3) : fls (x :: l) = fl3 x ++ fls l := rfl

theorem und_row : Try.prog.underlying 44 = some (.slice 49) := by kernel_rfl
theorem und_int : Try.prog.underlying 3 = some (.int .i64) := by kernel_rfl
theorem info_vc : (Try.prog.info? 49).map (fun i => (i.size, i.bytes)) = some (3, 24) := by kernel_rfl
theorem info_z : (Try.prog.info? 49).map (fun i => i.zero) = some (some (.agg #[.int .i64 0, .int .i64 0, .int .i64 0])) := by kernel_rfl
theorem size_vc (w : World) : (Go.sizeOf 49).run Try.prog w = .ok 3 w := by kernel_rfl

theorem run_copy3 (w : World) (ty : TypeId) (g o dLen dCap : Nat) (a : Addr) (sLen sCap : Nat) (cur : Array Value) (t : TypeId) (cs : List Value)
    (hg : w.heap[g]? = some (.cells cur t (0, 0))) {n : Nat} (hn : n = Nat.min sLen dLen) (hl : cs.length = n * 3)
    (hsrc : ∀ j v, cs[j]? = some v → w.cell? (a.add j) = some v) (hfit : o + cs.length ≤ cur.size) (h1 : ∀ v ∈ cs, v.oneCell' = true) :
    (Builtin.copy_ #[44, 44] ty #[.slice (some ⟨g, o, none⟩) dLen dCap, .slice (some a) sLen sCap]).run Try.prog w =
      .ok (goInt n) (w.setRow g (cur.toList.take o ++ cs ++ cur.toList.drop (o + cs.length)).toArray) := by
  have hld := run_loadCells_list (P := Try.prog) w a cs hsrc
  have hst := run_storeCells_at Try.prog g o t cs 0 cur w hg (by simpa using hfit) h1
  obtain ⟨i, hi, e⟩ := Option.map_eq_some_iff.1 info_vc
  simp only [Prod.mk.injEq] at e
  rw [hl] at hld
  simp [Builtin.copy_, run_underlying und_row, Builtin.lenOf, Builtin.firstCells, sizeOf, typeInfo, hi, e.1, ← hn, hld, hst]

theorem cell_row {w : World} {b k : Nat} {cs : List Value} {T : TypeId} (h : w.heap[b]? = some (.cells cs.toArray T (0, 0))) {v : Value} (hv : cs[k]? = some v) : w.cell? ⟨b, k, none⟩ = some v := by
  rw [cell_of_row w b k _ T (0, 0) h]
  simpa using hv

theorem ins_room (w : World) (b cap vb vc i n : Nat) (L0 : List E3) (x : E3) (post vpost : List Value) (E Ev : TypeId) (hL : L0.length = n) (hi : i < n) (hcap : n + 1 ≤ cap) (hc63 : cap ≤ 9223372036854775807) (hne : vb ≠ b) (hp3 : 3 ≤ post.length)
    (hb : w.heap[b]? = some (.cells (fls L0 ++ post).toArray E (0, 0))) (hv : w.heap[vb]? = some (.cells (fl3 x ++ vpost).toArray Ev (0, 0))) :
    Calls Try.prog 62 #[.slice (some ⟨b, 0, none⟩) n cap, .int .i64 i, .slice (some ⟨vb, 0, none⟩) 1 vc] w fun e w' =>
      e = .returned (.slice (some ⟨b, 0, none⟩) (n + 1) cap) ∧ But (fun k => k = b) w w' ∧ w'.heap[b]? = some (.cells (fls (L0.take i ++ x :: L0.drop i) ++ post.drop 3).toArray E (0, 0)) := by
  have hlL := fls_len L0
  have hlt := fls_len (L0.take i)
  have hld := fls_len (L0.drop i)
  have hsplit : fls L0 = fls (L0.take i) ++ fls (L0.drop i) := by rw [← fls_app, List.take_append_drop]
  have htl : (L0.take i).length = i := by rw [List.length_take]; omega
  have hdl : (L0.drop i).length = n - i := by rw [List.length_drop, hL]
  have hov : ∀ lb cb, (callFunc 99 #[.slice (some ⟨vb, 0, none⟩) 1 vc, .slice (some ⟨b, (i + 1) * 3, none⟩) lb cb]).run Try.prog w = .ok (.value (.bool false)) w := fun lb cb => by
    rw [run_callFunc_extern Try.func99 (by kernel_rfl) (by kernel_rfl) (by kernel_rfl) (e := Extern.SlicesOverlaps.overlaps #[44, 44] #[4]) (by kernel_rfl),
      Lib.run_overlaps_apart w 44 4 49 und_row 3 size_vc ⟨vb, 0, none⟩ ⟨b, (i + 1) * 3, none⟩ 1 vc lb cb hne Ev E (fl3 x ++ vpost).toArray.size (fls L0 ++ post).toArray.size (by simp [World.shape?, hv]) (by simp [World.shape?, hb]) (by rw [List.size_toArray, List.length_append]; omega) (by simp [World.frozen?, hv]) (by simp [World.frozen?, hv])]
    rfl
  have hcp1 : ∀ ty dc sc, (Builtin.copy_ #[44, 44] ty #[.slice (some ⟨b, (i + 1) * 3, none⟩) (n - i) dc, .slice (some ⟨b, i * 3, none⟩) (n + 1 - i) sc]).run Try.prog w.drew = .ok (goInt (n - i : Nat)) (w.drew.setRow b ((fls L0 ++ post).toArray.toList.take ((i + 1) * 3) ++ fls (L0.drop i) ++ (fls L0 ++ post).toArray.toList.drop ((i + 1) * 3 + (fls (L0.drop i)).length)).toArray) := fun ty dc sc =>
    run_copy3 w.drew ty b ((i + 1) * 3) (n - i) dc ⟨b, i * 3, none⟩ (n + 1 - i) sc (fls L0 ++ post).toArray E (fls (L0.drop i)) hb (by simp only [Nat.min_def]; split <;> omega) (by rw [hld, hdl])
      (fun j v hj => by
        rw [Addr.add_lit]
        refine cell_row (w := w.drew) (T := E) hb ?_
        rw [hsplit, List.append_assoc, List.getElem?_append_right (by omega), show i * 3 + j - (fls (L0.take i)).length = j by omega]
        exact List.getElem?_append_left (by have := (List.getElem?_eq_some_iff.1 hj).1; omega) ▸ hj)
      (by simp; omega) fls_one
  obtain ⟨J, hJ, hcur⟩ : ∃ J : List Value, J.length = 3 ∧ ((fls L0 ++ post).toArray.toList.take ((i + 1) * 3) ++ fls (L0.drop i) ++ (fls L0 ++ post).toArray.toList.drop ((i + 1) * 3 + (fls (L0.drop i)).length)) = fls (L0.take i) ++ (J ++ (fls (L0.drop i) ++ post.drop 3)) := by
    refine ⟨(fls (L0.drop i)).take 3, by rw [List.length_take]; omega, ?_⟩
    have e1 : (fls L0 ++ post).take ((i + 1) * 3) = fls (L0.take i) ++ (fls (L0.drop i)).take 3 := by
      rw [hsplit, List.append_assoc, List.take_append, List.take_of_length_le (by omega), show (i + 1) * 3 - (fls (L0.take i)).length = 3 by omega, List.take_append_of_le_length (by omega)]
    have e2 : (fls L0 ++ post).drop ((i + 1) * 3 + (fls (L0.drop i)).length) = post.drop 3 := by
      rw [List.drop_append, List.drop_eq_nil_of_le (by omega), List.nil_append]
      congr 1
      omega
    show (fls L0 ++ post).take _ ++ _ ++ (fls L0 ++ post).drop _ = _
    rw [e1, e2]
    simp
  rw [hcur] at hcp1
  have hb1 : (w.drew.setRow b (fls (L0.take i) ++ (J ++ (fls (L0.drop i) ++ post.drop 3))).toArray).heap[b]? = some (.cells (fls (L0.take i) ++ (J ++ (fls (L0.drop i) ++ post.drop 3))).toArray E (0, 0)) := setRow_heap w.drew b _ _ E _ hb
  have hv1 : (w.drew.setRow b (fls (L0.take i) ++ (J ++ (fls (L0.drop i) ++ post.drop 3))).toArray).heap[vb]? = some (.cells (fl3 x ++ vpost).toArray Ev (0, 0)) := by
    rw [setRow_other w.drew b vb _ hne]
    exact hv
  obtain ⟨W1, hW1⟩ : ∃ W1, W1 = w.drew.setRow b (fls (L0.take i) ++ (J ++ (fls (L0.drop i) ++ post.drop 3))).toArray := ⟨_, rfl⟩
  rw [← hW1] at hcp1 hb1 hv1
  have hcp2 : ∀ (W : World), W.heap = W1.heap → ∀ ty dc, (Builtin.copy_ #[44, 44] ty #[.slice (some ⟨b, i * 3, none⟩) (n + 1 - i) dc, .slice (some ⟨vb, 0, none⟩) 1 vc]).run Try.prog W = .ok (goInt (1 : Nat)) (W.setRow b ((fls (L0.take i) ++ (J ++ (fls (L0.drop i) ++ post.drop 3))).toArray.toList.take (i * 3) ++ fl3 x ++ (fls (L0.take i) ++ (J ++ (fls (L0.drop i) ++ post.drop 3))).toArray.toList.drop (i * 3 + (fl3 x).length)).toArray) := fun W hW ty dc =>
    run_copy3 W ty b (i * 3) (n + 1 - i) dc ⟨vb, 0, none⟩ 1 vc _ E (fl3 x) (hW ▸ hb1) (by simp only [Nat.min_def]; split <;> omega) rfl
      (fun j v hj => by
        rw [Addr.add_lit, Nat.zero_add]
        refine cell_row (w := W) (T := Ev) (hW ▸ hv1) ?_
        exact List.getElem?_append_left (by have := (List.getElem?_eq_some_iff.1 hj).1; omega) ▸ hj)
      (by simp [fl3]; omega) (fun v hv => fls_one (l := [x]) v (by simpa [fls] using hv))
  have hcur2 : ((fls (L0.take i) ++ (J ++ (fls (L0.drop i) ++ post.drop 3))).toArray.toList.take (i * 3) ++ fl3 x ++ (fls (L0.take i) ++ (J ++ (fls (L0.drop i) ++ post.drop 3))).toArray.toList.drop (i * 3 + (fl3 x).length)) = fls (L0.take i ++ x :: L0.drop i) ++ post.drop 3 := by
    show (fls (L0.take i) ++ (J ++ (fls (L0.drop i) ++ post.drop 3))).take _ ++ _ ++ (fls (L0.take i) ++ (J ++ (fls (L0.drop i) ++ post.drop 3))).drop _ = _
    rw [show i * 3 = (fls (L0.take i)).length by omega, List.take_left, show (fls (L0.take i)).length + (fl3 x).length = (fls (L0.take i) ++ J).length by rw [List.length_append, hJ]; rfl, ← List.append_assoc (fls (L0.take i)) J, List.drop_left, fls_app, fls_cons]
    simp
  rw [hcur2] at hcp2
  have hw1 : IntKind.i64.wrap ((i : Int) + 1) = (i : Int) + 1 := by rw [IntKind.wrap_i64]; omega
  have hz2 : ¬ ((i : Int) = (n : Int)) := by omega
  have h0i : (0 : Int) ≤ (i : Int) + 1 := by omega
  have hin : i ≤ n := by omega
  have htn : ((i : Int) + 1).toNat = i + 1 := by omega
  have hb2 : ¬ (cap = i + 1) := by omega
  have hb3 : (i : Int) ≤ (n : Int) + 1 := by omega
  have hb4 : ¬ (cap = i) := by omega
  go_enter Try.func62, Try.ntmps62
  go_wp2_with (simp only [hov])
  go_region_law (refine step_copy_runI rfl _ _ 44 44 rfl _ _ (by simp [Act.eval, Act.put]) (by simp [Act.eval, Act.put]) (hcp1 _ _ _) ?_)
  go_wp2_with (at_builtin; refine wpList_copy_runI _ rfl _ _ 44 44 rfl _ _ rfl rfl (hcp2 _ rfl _ _) ?_)
  go_ret
  exact ⟨rfl, setRow_but (S := fun k => k = b) (setRow_but (S := fun k => k = b) (But.refl _ w).drew (.inl rfl) _) (.inl rfl) _, setRow_heap _ _ _ _ _ _ (by rw [← hW1]; exact hb1)⟩

theorem drop_app (a c : List Value) (k : Nat) : (a ++ c).drop (a.length + k) = c.drop k := by rw [List.drop_append, List.drop_eq_nil_of_le (Nat.le_add_right _ _), Nat.add_sub_cancel_left, List.nil_append]
theorem ins_grow (w : World) (b vb vc i n : Nat) (L0 : List E3) (x : E3) (post vpost : List Value) (E Ev : TypeId) (hL : L0.length = n) (hi : i < n) (hbig : (n + 1) * 24 ≤ 140737488355328) (hne : vb ≠ b)
    (hb : w.heap[b]? = some (.cells (fls L0 ++ post).toArray E (0, 0))) (hv : w.heap[vb]? = some (.cells (fl3 x ++ vpost).toArray Ev (0, 0))) :
    Calls Try.prog 62 #[.slice (some ⟨b, 0, none⟩) n n, .int .i64 i, .slice (some ⟨vb, 0, none⟩) 1 vc] w fun e w' =>
      ∃ (G : Nat) (rest : List Value), e = .returned (.slice (some ⟨w.heap.size, 0, none⟩) (n + 1) G) ∧ But Nil w w' ∧ n + 1 ≤ G ∧ G ≤ maxLen ∧ rest.length = (G - (n + 1)) * 3 ∧ w'.heap[w.heap.size]? = some (.cells (fls (L0.take i ++ x :: L0.drop i) ++ rest).toArray 49 (0, 0)) := by
  have hlL := fls_len L0
  have hlt := fls_len (L0.take i)
  have hld := fls_len (L0.drop i)
  have hsplit : fls L0 = fls (L0.take i) ++ fls (L0.drop i) := by rw [← fls_app, List.take_append_drop]
  have htl : (L0.take i).length = i := by rw [List.length_take]; omega
  have hdl : (L0.drop i).length = n - i := by rw [List.length_drop, hL]
  have hbw := lt_of_heap hb
  have hvw := lt_of_heap hv
  obtain ⟨i0, hi0, e0⟩ := Option.map_eq_some_iff.1 info_vc
  obtain ⟨i1, hi1, ez⟩ := Option.map_eq_some_iff.1 info_z
  obtain rfl := Option.some.inj (hi0.symm.trans hi1)
  simp only [Prod.mk.injEq] at e0
  have hold : (Builtin.firstCells i0.size i (.slice (some ⟨b, 0, none⟩) i n)).run Try.prog w.drew = .ok (fls (L0.take i)).toArray w.drew := by
    rw [e0.1]
    exact run_firstCells_some w.drew 3 i ⟨b, 0, none⟩ i n (fls (L0.take i)) (by omega) (fun j v hj => by
      rw [Addr.add_lit, Nat.zero_add]
      refine cell_row (w := w.drew) (T := E) hb ?_
      rw [hsplit, List.append_assoc]
      exact List.getElem?_append_left (by have := (List.getElem?_eq_some_iff.1 hj).1; omega) ▸ hj)
  obtain ⟨G, hG⟩ : ∃ G, G = grownCap w (n + 1) n 49 := ⟨_, rfl⟩
  have hGn : n + 1 ≤ G := by rw [hG]; exact grownCap_ge w _ _ _
  have hGm : G ≤ maxLen := by rw [hG]; exact grownCap_le_maxLen w _ _ _ (by unfold maxLen; omega)
  have hik : i + (n + 1 - i) = n + 1 := by omega
  have hkk : (n : Int) + 1 - (i : Int) = ((n + 1 - i : Nat) : Int) := by omega
  obtain ⟨Z, hZ, hrz⟩ : ∃ Z : List Value, Z.length = (n + 1 - i) * 3 + (G - (n + 1)) * 3 ∧ ∀ ty, (Builtin.append_ #[44, 3] ty #[.slice (some ⟨b, 0, none⟩) i n, .int .i64 ((n : Int) + 1 - (i : Int))]).run Try.prog w =
      .ok (.slice (some ⟨w.heap.size, 0, none⟩) (n + 1) G) (w.drew.alloc (.cells (fls (L0.take i) ++ Z).toArray 49)) := by
    refine ⟨(Builtin.zeroCells (Value.agg #[.int .i64 0, .int .i64 0, .int .i64 0]).cells (n + 1 - i)).toList ++ (Builtin.zeroCells (Value.agg #[.int .i64 0, .int .i64 0, .int .i64 0]).cells (G - (n + 1))).toList, by simp [Builtin.zeroCells, Value.cells], fun ty => ?_⟩
    have h := Lib.run_append_grow_zeros w 44 3 ty 49 i0 _ .i64 .i64 und_row und_int hi0 ez (some ⟨b, 0, none⟩) i n (fls (L0.take i)) hold (n + 1 - i) (by omega) (by omega) (by omega) (by omega) (by rw [e0.2]; omega) (by rw [e0.2, hik]; exact growslice_fits (by omega) hbig)
    rw [hik, ← hG] at h
    rw [hkk, h]
    congr 3
    simp
  have hb1 : (w.drew.alloc (.cells (fls (L0.take i) ++ Z).toArray 49)).heap[b]? = some (.cells (fls L0 ++ post).toArray E (0, 0)) := heap_old (w := w.drew) hb
  have hv1 : (w.drew.alloc (.cells (fls (L0.take i) ++ Z).toArray 49)).heap[vb]? = some (.cells (fl3 x ++ vpost).toArray Ev (0, 0)) := heap_old (w := w.drew) hv
  have hn1 : (w.drew.alloc (.cells (fls (L0.take i) ++ Z).toArray 49)).heap[w.heap.size]? = some (.cells (fls (L0.take i) ++ Z).toArray 49 (0, 0)) := heap_new (w := w.drew) rfl
  obtain ⟨W1, hW1⟩ : ∃ W1, W1 = w.drew.alloc (.cells (fls (L0.take i) ++ Z).toArray 49) := ⟨_, rfl⟩
  have hcpA : ∀ (W : World), W.heap = W1.heap → ∀ ty dc, (Builtin.copy_ #[44, 44] ty #[.slice (some ⟨w.heap.size, i * 3, none⟩) (n + 1 - i) dc, .slice (some ⟨vb, 0, none⟩) 1 vc]).run Try.prog W = .ok (goInt (1 : Nat)) (W.setRow w.heap.size ((fls (L0.take i) ++ Z).toArray.toList.take (i * 3) ++ fl3 x ++ (fls (L0.take i) ++ Z).toArray.toList.drop (i * 3 + (fl3 x).length)).toArray) := fun W hW ty dc =>
    run_copy3 W ty w.heap.size (i * 3) (n + 1 - i) dc ⟨vb, 0, none⟩ 1 vc _ 49 (fl3 x) (by rw [hW, hW1]; exact hn1) (by simp only [Nat.min_def]; split <;> omega) rfl
      (fun j v hj => by
        rw [Addr.add_lit, Nat.zero_add]
        refine cell_row (w := W) (T := Ev) (by rw [hW, hW1]; exact hv1) ?_
        exact List.getElem?_append_left (by have := (List.getElem?_eq_some_iff.1 hj).1; omega) ▸ hj)
      (by simp [fl3]; omega) (fun v hv => fls_one (l := [x]) v (by simpa [fls] using hv))
  have hcurA : ((fls (L0.take i) ++ Z).toArray.toList.take (i * 3) ++ fl3 x ++ (fls (L0.take i) ++ Z).toArray.toList.drop (i * 3 + (fl3 x).length)) = fls (L0.take i) ++ (fl3 x ++ Z.drop 3) := by
    show (fls (L0.take i) ++ Z).take _ ++ _ ++ (fls (L0.take i) ++ Z).drop _ = _
    rw [show i * 3 = (fls (L0.take i)).length by omega, List.take_left, List.drop_append, List.drop_eq_nil_of_le (by omega), show (fls (L0.take i)).length + (fl3 x).length - (fls (L0.take i)).length = 3 by simp [fl3]]
    simp
  rw [hcurA] at hcpA
  obtain ⟨W2, hW2⟩ : ∃ W2, W2 = W1.setRow w.heap.size (fls (L0.take i) ++ (fl3 x ++ Z.drop 3)).toArray := ⟨_, rfl⟩
  have hn2 : W2.heap[w.heap.size]? = some (.cells (fls (L0.take i) ++ (fl3 x ++ Z.drop 3)).toArray 49 (0, 0)) := by rw [hW2]; exact setRow_heap W1 _ _ _ _ _ (by rw [hW1]; exact hn1)
  have hb2 : W2.heap[b]? = some (.cells (fls L0 ++ post).toArray E (0, 0)) := by rw [hW2, setRow_other W1 _ b _ (by omega), hW1]; exact hb1
  have hcpB : ∀ (W : World), W.heap = W2.heap → ∀ ty dc sc, (Builtin.copy_ #[44, 44] ty #[.slice (some ⟨w.heap.size, (i + 1) * 3, none⟩) (n - i) dc, .slice (some ⟨b, i * 3, none⟩) (n - i) sc]).run Try.prog W = .ok (goInt (n - i : Nat)) (W.setRow w.heap.size ((fls (L0.take i) ++ (fl3 x ++ Z.drop 3)).toArray.toList.take ((i + 1) * 3) ++ fls (L0.drop i) ++ (fls (L0.take i) ++ (fl3 x ++ Z.drop 3)).toArray.toList.drop ((i + 1) * 3 + (fls (L0.drop i)).length)).toArray) := fun W hW ty dc sc =>
    run_copy3 W ty w.heap.size ((i + 1) * 3) (n - i) dc ⟨b, i * 3, none⟩ (n - i) sc _ 49 (fls (L0.drop i)) (by rw [hW]; exact hn2) (by simp only [Nat.min_def]; split <;> omega) (by rw [hld, hdl])
      (fun j v hj => by
        rw [Addr.add_lit]
        refine cell_row (w := W) (T := E) (by rw [hW]; exact hb2) ?_
        rw [hsplit, List.append_assoc, List.getElem?_append_right (by omega), show i * 3 + j - (fls (L0.take i)).length = j by omega]
        exact List.getElem?_append_left (by have := (List.getElem?_eq_some_iff.1 hj).1; omega) ▸ hj)
      (by simp [fl3]; omega) fls_one
  have hcurB : ((fls (L0.take i) ++ (fl3 x ++ Z.drop 3)).toArray.toList.take ((i + 1) * 3) ++ fls (L0.drop i) ++ (fls (L0.take i) ++ (fl3 x ++ Z.drop 3)).toArray.toList.drop ((i + 1) * 3 + (fls (L0.drop i)).length)) = fls (L0.take i ++ x :: L0.drop i) ++ (Z.drop 3).drop ((n - i) * 3) := by
    show (fls (L0.take i) ++ (fl3 x ++ Z.drop 3)).take _ ++ _ ++ (fls (L0.take i) ++ (fl3 x ++ Z.drop 3)).drop _ = _
    have e3 : (fls (L0.take i) ++ fl3 x).length = (i + 1) * 3 := by rw [List.length_append]; simp [fl3]; omega
    rw [← List.append_assoc, ← e3, List.take_left, drop_app, hld, hdl, fls_app, fls_cons]
    simp
  rw [hcurB] at hcpB
  have hrest : ((Z.drop 3).drop ((n - i) * 3)).length = (G - (n + 1)) * 3 := by simp; omega
  generalize (Z.drop 3).drop ((n - i) * 3) = rest at *
  have hw1 : IntKind.i64.wrap ((i : Int) + 1) = (i : Int) + 1 := by rw [IntKind.wrap_i64]; omega
  have hz2 : ¬ ((i : Int) = (n : Int)) := by omega
  have h0i : (0 : Int) ≤ (i : Int) + 1 := by omega
  have hin : i ≤ n := by omega
  have htn : ((i : Int) + 1).toNat = i + 1 := by omega
  have hgi : ¬ (G = i) := by omega
  have hgi1 : ¬ (G = i + 1) := by omega
  have hni : ¬ (n = i) := by omega
  have hlt1 : (n : Int) < (n : Int) + 1 := by omega
  have hii : (i : Int) ≤ (n : Int) := by omega
  clear hcurA hcurB hkk hik hold hG
  go_enter Try.func62, Try.ntmps62
  go_wp2_with (first
    | (at_builtin; refine Lib.wpList_append_run _ rfl _ _ _ _ rfl _ _ rfl rfl _ _ (hrz _) ?_)
    | (at_builtin; refine wpList_copy_runI _ rfl _ _ 44 44 rfl _ _ rfl rfl (hcpA _ (by rw [hW1]) _ _) ?_))
  have hcpC : ∀ ty dc sc, (Builtin.copy_ #[44, 44] ty #[.slice (some ⟨w.heap.size, (i + 1) * 3, none⟩) (n - i) dc, .slice (some ⟨b, i * 3, none⟩) (n - i) sc]).run Try.prog ((w.alloc (.cells (fls (L0.take i) ++ Z).toArray 49)).drew.setRow w.heap.size (fls (L0.take i) ++ (fl3 x ++ Z.drop 3)).toArray).drew = _ := fun ty dc sc => hcpB _ (by subst hW2 hW1; rfl) ty dc sc
  go_region_law (refine step_copy_runI rfl _ _ 44 44 rfl (.slice (some ⟨w.heap.size, (i + 1) * 3, none⟩) (n - i) (G - (i + 1))) (.slice (some ⟨b, i * 3, none⟩) (n - i) (n - i)) (by simp [Act.eval, Act.put]) (by simp [Act.eval, Act.put]) (hcpC _ _ _) ?_)
  go_wp2_with fail
  go_ret
  exact ⟨G, rest, rfl, setRow_but (S := Nil) (setRow_but (S := Nil) ((But.refl Nil w).alloc _).drew (.inr (Nat.le_refl _)) _).drew (.inr (Nat.le_refl _)) _, hGn, hGm, hrest, setRow_heap _ _ _ _ _ _ (by subst hW2 hW1; exact hn2)⟩
end Go.Proofs.Ytinclokohcommaa.Ins


namespace Go.Proofs.Ytinclokohcommaa
namespace Ins
open Go.RowKit
set_option linter.unusedVariables false
set_option linter.unusedSimpArgs false
set_option maxRecDepth 100000

def stOf (T : TypeId) : TypeId := match tyOf T with
  | some (.st S) => S
  | _ => 0
abbrev uS : TypeId := stOf 49
abbrev cS : TypeId := stOf 37
theorem tyU : tyOf 49 = some (.st uS) := by kernel_rfl
theorem flU : flds uS = some [.int .i64, .st cS] := by kernel_rfl
theorem flC : flds cS = some [.int .i64, .int .i64] := by kernel_rfl
theorem wU : (Ty.st uS).w = 3 := by kernel_rfl
theorem lmU : LM (.st uS) = 5864062014634 := by kernel_rfl

def dE (x : E3) : D := .a [.i x.1, .a [.i x.2.1, .i x.2.2]]
def okE3 (x : E3) : Prop := rngB .i64 x.1 = true ∧ rngB .i64 x.2.1 = true ∧ rngB .i64 x.2.2 = true
theorem rd_dE {x : E3} (h : okE3 x) (w : World) (F : Nat → Prop) : Rd w F (dE x) (.st uS) (fl3 x) :=
  ⟨_, _, rfl, flU, .int .i64, [.st cS], [.int .i64 x.1], [.int .i64 x.2.1, .int .i64 x.2.2], rfl, rfl, ⟨.i64, rfl, rfl, h.1⟩, .st cS, [], [.int .i64 x.2.1, .int .i64 x.2.2], [], rfl, rfl,
    ⟨_, _, rfl, flC, .int .i64, [.int .i64], [.int .i64 x.2.1], [.int .i64 x.2.2], rfl, rfl, ⟨.i64, rfl, rfl, h.2.1⟩, .int .i64, [], [.int .i64 x.2.2], [], rfl, rfl, ⟨.i64, rfl, rfl, h.2.2⟩, rfl, rfl⟩, rfl, rfl⟩
theorem of_rdI {w : World} {F : Nat → Prop} {d : D} {cs : List Value} (h : Rd w F d (.int .i64) cs) : ∃ n, rngB .i64 n = true ∧ d = .i n ∧ cs = [.int .i64 n] := by
  cases d <;> simp only [Rd, reduceCtorEq, false_and, exists_false, and_false] at h
  obtain ⟨k, e, h1, h2⟩ := h
  injection e with e
  subst e
  exact ⟨_, h2, rfl, h1⟩
theorem of_rdS {w : World} {F : Nat → Prop} {d : D} {S : TypeId} {fs : List Ty} (hfs : flds S = some fs) {cs : List Value} (h : Rd w F d (.st S) cs) : ∃ l, d = .a l ∧ RdF w F l fs cs := by
  cases d <;> simp only [Rd, reduceCtorEq, false_and, exists_false, and_false] at h
  obtain ⟨T, fs', e, h1, h2⟩ := h
  injection e with e
  subst e
  obtain rfl := Option.some.inj (h1.symm.trans hfs)
  exact ⟨_, rfl, h2⟩
theorem of_rdF {w : World} {F : Nat → Prop} {l : List D} {t : Ty} {ts : List Ty} {cs : List Value} (h : RdF w F l (t :: ts) cs) : ∃ d l' c1 c2, l = d :: l' ∧ cs = c1 ++ c2 ∧ Rd w F d t c1 ∧ RdF w F l' ts c2 := by
  cases l with
  | nil => obtain ⟨e, -⟩ := h; cases e
  | cons d l =>
    obtain ⟨t', ts', c1, c2, e, e2, h1, h2⟩ := h
    injection e with e e'
    subst e e'
    exact ⟨d, l, c1, c2, rfl, e2, h1, h2⟩
theorem of_rdN {w : World} {F : Nat → Prop} {l : List D} {cs : List Value} (h : RdF w F l [] cs) : l = [] ∧ cs = [] := by
  cases l with
  | nil => exact ⟨rfl, h.2⟩
  | cons d l => obtain ⟨t', ts', c1, c2, e, -⟩ := h; cases e
theorem of_rdE {w : World} {F : Nat → Prop} {d : D} {cs : List Value} (h : Rd w F d (.st uS) cs) : ∃ x, okE3 x ∧ d = dE x ∧ cs = fl3 x := by
  obtain ⟨l, rfl, hF⟩ := of_rdS flU h
  obtain ⟨d1, l1, c1, c2, rfl, rfl, h1, hG⟩ := of_rdF hF
  obtain ⟨d2, l2, c3, c4, rfl, rfl, h2, hH⟩ := of_rdF hG
  obtain ⟨rfl, rfl⟩ := of_rdN hH
  obtain ⟨n1, r1, rfl, rfl⟩ := of_rdI h1
  obtain ⟨l, rfl, hI⟩ := of_rdS flC h2
  obtain ⟨d3, l3, c5, c6, rfl, rfl, h3, hJ⟩ := of_rdF hI
  obtain ⟨d4, l4, c7, c8, rfl, rfl, h4, hK⟩ := of_rdF hJ
  obtain ⟨rfl, rfl⟩ := of_rdN hK
  obtain ⟨n2, r2, rfl, rfl⟩ := of_rdI h3
  obtain ⟨n3, r3, rfl, rfl⟩ := of_rdI h4
  exact ⟨(n1, n2, n3), ⟨r1, r2, r3⟩, rfl, rfl⟩
theorem range_drop3 {w : World} {b q : Nat} {cur : Array Value} {T : TypeId} (hc : w.heap[b]? = some (.cells cur T (0, 0))) {x y z : Value} (h : w.rangeAt b q [x, y, z]) : cur.toList.drop q = x :: y :: z :: cur.toList.drop (q + 3) := by
  have get : ∀ j v, ([x, y, z] : List Value)[j]? = some v → cur.toList[q + j]? = some v := fun j v hj => by
    have := h j v hj
    rw [cell_of_row w b _ cur T (0, 0) hc, ← Array.getElem?_toList] at this
    exact this
  have g0 := get 0 x rfl
  have g1 := get 1 y rfl
  have g2 := get 2 z rfl
  obtain ⟨h0, e0⟩ := List.getElem?_eq_some_iff.1 g0
  obtain ⟨h1, e1⟩ := List.getElem?_eq_some_iff.1 g1
  obtain ⟨h2, e2⟩ := List.getElem?_eq_some_iff.1 g2
  rw [List.drop_eq_getElem_cons (by omega : q < cur.toList.length), List.drop_eq_getElem_cons h1, List.drop_eq_getElem_cons (by omega : q + 1 + 1 < cur.toList.length)]
  simp only [Nat.add_zero] at e0
  rw [e0, e1]
  congr 3
theorem row_form {w : World} {F : Nat → Prop} {b o : Nat} {cur : Array Value} {T : TypeId} (hc : w.heap[b]? = some (.cells cur T (0, 0))) : ∀ {rs : List D} {i : Nat}, RdE w F rs (.st uS) (some ⟨b, o, none⟩) i → ∃ L : List E3, rs = L.map dE ∧ (∀ x ∈ L, okE3 x) ∧ cur.toList.drop (o + i * 3) = fls L ++ cur.toList.drop (o + (i + rs.length) * 3)
  | [], i, _ => ⟨[], rfl, fun x hx => (by cases hx), by simp [fls]⟩
  | d :: rs, i, ⟨⟨b', o', cs, e, hF, hr, hd⟩, h⟩ => by
    injection e with e
    injection e with e1 e2
    subst e1 e2
    obtain ⟨x, hx, rfl, rfl⟩ := of_rdE hd
    obtain ⟨L, rfl, hL, hdr⟩ := row_form hc h
    rw [wU] at hr
    refine ⟨x :: L, rfl, fun y hy => (List.mem_cons.1 hy).elim (fun e => e ▸ hx) (hL y), ?_⟩
    have := range_drop3 hc hr
    rw [this, show o + i * 3 + 3 = o + (i + 1) * 3 by omega, hdr, show i + 1 + (L.map dE).length = i + (dE x :: L.map dE).length by simp; omega]
    rfl

theorem own_form {A : Nat → Prop} {p : Pins} {w : World} {dep : List Nat} {pin : Nat} {l : List D} {v : Value} (h : OwnR A p w dep pin 49 (.st uS) l v) (h0 : 0 < l.length) :
    ∃ g cap L post, v = .slice (some ⟨g, 0, none⟩) l.length cap ∧ p pin = some g ∧ l = L.map dE ∧ (∀ x ∈ L, okE3 x) ∧ w.heap[g]? = some (.cells (fls L ++ post).toArray 49 (0, 0)) ∧ l.length ≤ cap ∧ cap ≤ maxLen ∧ post.length = (cap - l.length) * 3 := by
  rcases h with ⟨-, rfl⟩ | ⟨g, cap, cur, rfl, hg, hh, h1, h2, h3, h4, h5⟩
  · simp at h0
  · obtain ⟨L, hL, hok, hdr⟩ := row_form (F := FFD A p (pin :: dep)) (o := 0) hh (rs := l) (i := 0) (rdE_iff.2 fun j hj => by
      obtain ⟨cs, hr, hx⟩ := h5 j hj
      exact ⟨g, 0, cs, rfl, .inr ⟨pin, by simp, hg⟩, by simpa using hr, hx.mono fun b _ hb => hb.mono fun x hx => List.mem_cons_of_mem _ hx⟩)
    have hl := fls_len L
    have hll : l.length = L.length := by rw [hL, List.length_map]
    simp only [Nat.zero_mul, Nat.zero_add, List.drop_zero] at hdr
    rw [wU] at h3
    have hcl := congrArg List.length hdr
    rw [List.length_append, List.length_drop, Array.length_toList] at hcl
    refine ⟨g, cap, L, cur.toList.drop (l.length * 3), rfl, hg, hL, hok, ?_, h1, h2, ?_⟩
    · rw [← hdr]
      exact hh
    · rw [List.length_drop, Array.length_toList]
      omega
theorem fls_get : ∀ {l : List E3} {i : Nat} (h : i < l.length) {j : Nat} {v : Value}, (fl3 l[i])[j]? = some v → (fls l)[i * 3 + j]? = some v
  | x :: l, 0, _, j, v, hj => by
    rw [Nat.zero_mul, Nat.zero_add, fls_cons]
    exact List.getElem?_append_left (by have := (List.getElem?_eq_some_iff.1 hj).1; exact this) ▸ hj
  | x :: l, i + 1, h, j, v, hj => by
    have := fls_get (l := l) (i := i) (by simpa using h) (j := j) (v := v) (by simpa using hj)
    rw [fls_cons, show (i + 1) * 3 + j = i * 3 + j + 3 by omega]
    exact this
theorem own_mk {A : Nat → Prop} {p : Pins} {w : World} {pin g cap : Nat} {M : List E3} {post : List Value} (hp : p pin = some g) (hM : ∀ x ∈ M, okE3 x) (hh : w.heap[g]? = some (.cells (fls M ++ post).toArray 49 (0, 0))) (h1 : M.length ≤ cap) (h2 : cap ≤ maxLen) (h3 : post.length = (cap - M.length) * 3) (h4 : M.length ≤ 5864062014634) :
    OwnR A p w [] pin 49 (.st uS) (M.map dE) (.slice (some ⟨g, 0, none⟩) M.length cap) := by
  have hl := fls_len M
  refine .inr ⟨g, cap, _, by rw [List.length_map], hp, hh, by rw [List.length_map]; exact h1, h2, by rw [List.size_toArray, List.length_append, wU]; omega, by rw [List.length_map, lmU]; exact h4, fun i hi => ?_⟩
  have hi' : i < M.length := by simpa using hi
  refine ⟨fl3 M[i], fun j v hj => ?_, by simpa using rd_dE (hM _ (List.getElem_mem hi')) _ _⟩
  rw [wU]
  have := fls_get hi' hj
  exact cell_row hh (List.getElem?_append_left (by have := (List.getElem?_eq_some_iff.1 this).1; exact this) ▸ this)
end Ins
open Ins
open Go.RowKit
set_option maxRecDepth 100000
def gIns : List D → Option (List D)
  | [r, i, v] => if v.rs.length = 1 ∧ 0 ≤ i.int ∧ i.int ≤ r.rs.length ∧ r.rs.length + 1 ≤ 5864062014634 then some [.r (r.rs.take i.int.toNat ++ v.rs ++ r.rs.drop i.int.toNat)] else none
  | _ => none
theorem of_con {A : Nat → Prop} {p : Pins} {w : World} {d : D} {pin : Nat} {cs : List Value} (h : Con A p w d (.row 49) [(0, pin)] [] cs) : ∃ l v, d = .r l ∧ cs = [v] ∧ OwnR A p w [] pin 49 (.st uS) l v := by
  rcases h with ⟨E, te, l, v, e, hte, rfl, rfl, h⟩ | ⟨K, V, kt, vt, l, g, es, clock, e, -⟩
  · injection e with e
    subst e
    obtain rfl := Option.some.inj (hte.symm.trans tyU)
    exact ⟨l, v, rfl, rfl, h⟩
  · cases e
set_option maxHeartbeats 1000000 in
theorem q4z : FOk q08 gIns := FOk.of_at q2q fun ds outs hw hg => by
  obtain ⟨d, r, rfl, hd, e, r', rfl, he, e2, r2, rfl, he2, hw⟩ := hw
  obtain rfl : r2 = [] := hw
  obtain ⟨l, te, rfl, hte, hl, -⟩ := hd.row
  obtain ⟨n, rfl, hn⟩ := wfI he
  obtain ⟨m, te2, rfl, hte2, hm, -⟩ := he2.row
  have hg' : (if m.length = 1 ∧ 0 ≤ n ∧ n ≤ l.length ∧ l.length + 1 ≤ 5864062014634 then some [.r (l.take n.toNat ++ m ++ l.drop n.toNat)] else none) = some outs := hg
  split at hg'
  case isFalse => cases hg'
  rename_i hc
  obtain ⟨h1, h2, h3, h4⟩ := hc
  injection hg' with hg'
  subst hg'
  clear hg
  by_cases hnl : n = l.length
  · refine fat_ret q2j Try.f62 _ .nil rfl rfl (by decide) (fun e he => by cases he) (by simp) ?_
    rw [q32 _ rfl]
    subst hnl
    simp [q1v, Tree.go, allSay, X.says, X.ev, X.evs, evl, D.rs, D.int, D.tt, h1]
    omega
  · intro A p w vs us hpre hvl hargs
    obtain ⟨v0, r0, d0, ds0, e0, e00, ⟨cs0, hpk0, hc0⟩, v1, r1, d1, ds1, e1, e11, ⟨cs1, hpk1, hc1⟩, v2, r2, d2, ds2, e2', e22, ⟨cs2, hpk2, hc2⟩, hr⟩ := hargs
    obtain rfl : r2 = [] := hr.1
    subst e1 e2'
    obtain ⟨rfl, rfl⟩ := List.cons.inj e00
    obtain ⟨rfl, rfl⟩ := List.cons.inj e11
    obtain ⟨rfl, -⟩ := List.cons.inj e22
    clear e00 e11 e22 hr
    obtain ⟨rfl, rfl⟩ : vs = [v0, v1, v2] ∧ us = [] := by
      have hl3 : vs.length = 3 := hvl
      have hus : us.length = 0 := by
        have := congrArg List.length e0
        simp at this
        omega
      obtain rfl := List.length_eq_zero_iff.1 hus
      exact ⟨by simpa using e0, rfl⟩
    clear e0
    have hc0 : Con A p w (D.r l) (.row 49) [(0, 1)] [] cs0 := hc0
    have hc2 : Con A p w (D.r m) (.row 49) [(0, 33)] [] cs2 := hc2
    obtain ⟨l', u0, q0, rfl, ho0⟩ := of_con hc0
    obtain ⟨m', u2, q2, rfl, ho2⟩ := of_con hc2
    injection q0 with q0
    injection q2 with q2
    subst q0 q2
    obtain rfl : u0 = v0 := (List.cons.inj hpk0).1
    obtain rfl : u2 = v2 := (List.cons.inj hpk2).1
    obtain ⟨n', -, e, rfl⟩ := of_rdI hc1
    injection e with e
    subst e
    obtain rfl : Value.int .i64 n = v1 := (List.cons.inj hpk1).1
    obtain ⟨g, cap, L, post, rfl, hpg, hL, hLo, hg, hcap, hcm, hpost⟩ := own_form ho0 (by omega)
    obtain ⟨g2, cap2, M, post2, rfl, hpg2, hM, hMo, hg2, hcap2, -, -⟩ := own_form ho2 (by omega)
    have hne : g2 ≠ g := fun e => by
      subst e
      have := hpre.inj _ _ _ hpg2 hpg
      omega
    have hLl : l.length = L.length := by rw [hL, List.length_map]
    obtain ⟨x, rfl⟩ : ∃ x, M = [x] := by
      have : M.length = 1 := by rw [← h1, hM, List.length_map]
      exact List.length_eq_one_iff.1 this
    have hx : okE3 x := hMo x (by simp)
    obtain ⟨i, rfl⟩ : ∃ i : Nat, n = i := ⟨n.toNat, by omega⟩
    have hi : i < L.length := by omega
    have hg2 : w.heap[g2]? = some (.cells (fl3 x ++ post2).toArray 49 (0, 0)) := by simpa [fls] using hg2
    have hout : l.take (i : Int).toNat ++ m ++ l.drop (i : Int).toNat = (L.take i ++ x :: L.drop i).map dE := by
      rw [hL, hM, Int.toNat_natCast]
      simp
    have hNo : ∀ y ∈ L.take i ++ x :: L.drop i, okE3 y := fun y hy => by
      rcases List.mem_append.1 hy with h | h
      · exact hLo y (List.mem_of_mem_take h)
      · rcases List.mem_cons.1 h with rfl | h
        · exact hx
        · exact hLo y (List.mem_of_mem_drop h)
    have hNl : (L.take i ++ x :: L.drop i).length = L.length + 1 := by simp; omega
    have hlm : cap ≤ 9223372036854775807 := by unfold maxLen at hcm; omega
    have fin : ∀ (g' cap' : Nat) (post' : List Value) (w' : World), A g' → (pinned p g' ∨ w.heap.size ≤ g') → But (pinned p) w w' → w'.heap[g']? = some (.cells (fls (L.take i ++ x :: L.drop i) ++ post').toArray 49 (0, 0)) → L.length + 1 ≤ cap' → cap' ≤ maxLen → post'.length = (cap' - (L.length + 1)) * 3 →
        ∃ rs p', Ending.returned (.slice (some ⟨g', 0, none⟩) (L.length + 1) cap') = .returned (retV rs) ∧ Bs A w (pinned p) p' w' ∧ ResL A p' w' q08.rs q08.ar.length rs (List.take q08.rs.length [D.r (l.take (i : Int).toNat ++ m ++ l.drop (i : Int).toNat)]) ∧ RefL A p p' w' q08.all (List.drop q08.rs.length [D.r (l.take (i : Int).toNat ++ m ++ l.drop (i : Int).toNat)]) := by
      intro g' cap' post' w' hA hgp hb hh a1 a2 a3
      have hp' : ∀ y b, (fun y => if y = 49 then some g' else none : Pins) y = some b → y = 49 ∧ b = g' := fun y b h => by
        by_cases hy : y = 49
        · subst hy
          exact ⟨rfl, (Option.some.inj h).symm⟩
        · simp [hy] at h
      refine ⟨[.slice (some ⟨g', 0, none⟩) (L.length + 1) cap'], fun y => if y = 49 then some g' else none, rfl, ⟨?_, ?_, hb, ?_, hpre.new, ?_, ?_⟩, ?_, rfl⟩
      · intro y z b h1 h2
        rw [(hp' y b h1).1, (hp' z b h2).1]
      · intro y b h
        rw [(hp' y b h).2]
        exact lt_of_heap hh
      · intro y b h
        rw [(hp' y b h).2]
        exact hgp
      · intro y b h
        rw [(hp' y b h).2]
        exact hA
      · intro y b h
        rw [(hp' y b h).2]
        exact .inl ⟨_, _, hh⟩
      · refine ⟨_, _, _, _, rfl, rfl, ⟨[.slice (some ⟨g', 0, none⟩) (L.length + 1) cap'], rfl, ?_⟩, rfl⟩
        refine .inl ⟨49, .st uS, _, _, rfl, tyU, rfl, rfl, ?_⟩
        rw [hout, ← hNl]
        exact own_mk rfl hNo hh (by rw [hNl]; exact a1) a2 (by rw [hNl]; exact a3) (by rw [hNl]; omega)
    rw [h1, hLl]
    by_cases hroom : L.length + 1 ≤ cap
    · refine Calls.mono (ins_room w g cap g2 cap2 i L.length L x post post2 49 49 rfl hi hroom hlm hne (by rw [hpost]; omega) hg hg2) ?_
      rintro e w' ⟨rfl, hb, hh⟩
      exact .inr (fin g cap _ w' (hpre.pa _ _ hpg) (.inl ⟨_, hpg⟩) (hb.mono fun k hk _ => hk ▸ ⟨_, hpg⟩) hh hroom hcm (by rw [List.length_drop, hpost]; omega))
    · have hcl : cap = L.length := by omega
      subst hcl
      refine Calls.mono (ins_grow w g g2 cap2 i L.length L x post post2 49 49 rfl hi (by omega) hne hg hg2) ?_
      rintro e w' ⟨G, rest, rfl, hb, a1, a2, a3, hh⟩
      exact .inr (fin _ G _ w' (hpre.new _ (Nat.le_refl _)) (.inr (Nat.le_refl _)) hb.of_nil hh a1 a2 a3)
end Go.Proofs.Ytinclokohcommaa


namespace Go.Proofs.Ytinclokohcommaa
open Go.RowKit
set_option linter.unusedVariables false
set_option linter.unusedSimpArgs false

def gNan : List D → Option (List D)
  | [x] => some [.b false]
  | _ => none
theorem ok_cmp_isNaN_int64 : FOk q0v gNan := q4d fun ds outs hw hg => by
  obtain ⟨d, r, rfl, hd, rfl⟩ := hw
  simp only [gNan, Option.some.injEq] at hg
  subst hg
  simp [q2i, q02, go_br, q01, q03, allSay, X.says, X.ev, X.evs, evl, tblS, List.getD_cons_zero, List.getD_cons_succ, List.getElem?_cons_zero, List.getElem?_cons_succ, tt_b, int_i, str_s, rs_r, Option.isSome_some, Option.getD_some, decide_eq_true_eq, decide_eq_false_iff_not, dS_eS, dC_eC, dU_eU, dW_eW, dY_eY, eC_0, eC_1, eU_0, eU_1, eW_0, eW_1, eW_2, eY_0, eY_1, eS_0, eS_1, eS_2, eS_3, eS_4, eS_5, List.length_map, i_inj, b_inj, s_inj, eC_eq, eU_eq, eW_eq, eY_eq, eS_eq, rng64, List.take_succ_cons, List.take_zero, List.nil_append, List.cons_append, decide_true, decide_false, Bool.or_true, true_and, and_true, dT_eT, eT_0, eT_1, eT_2, eT_3, eT_eq, eT_z]
def gCmp : List D → Option (List D)
  | [x, v] => some [.i (if x.int < v.int then -1 else if v.int < x.int then 1 else 0)]
  | _ => none
theorem ok_cmp_Compare_int64 : FOk q0n gCmp := q3y ok_cmp_isNaN_int64 fun ds outs hw hg => by
  obtain ⟨d, r, rfl, hd, e, r', rfl, he, rfl⟩ := hw
  obtain ⟨x, rfl, hx⟩ := wfI hd
  obtain ⟨v, rfl, hv⟩ := wfI he
  simp only [gCmp, int_i, Option.some.injEq] at hg
  subst hg
  simp only [q29, q02, go_br, q01, q03, allSay, X.says, X.ev, X.evs, evl, tblS, List.getD_cons_zero, List.getD_cons_succ, List.getElem?_cons_zero, List.getElem?_cons_succ, tt_b, int_i, str_s, rs_r, Option.isSome_some, Option.getD_some, decide_eq_true_eq, decide_eq_false_iff_not, dS_eS, dC_eC, dU_eU, dW_eW, dY_eY, eC_0, eC_1, eU_0, eU_1, eW_0, eW_1, eW_2, eY_0, eY_1, eS_0, eS_1, eS_2, eS_3, eS_4, eS_5, List.length_map, i_inj, b_inj, s_inj, eC_eq, eU_eq, eW_eq, eY_eq, eS_eq, rng64, List.take_succ_cons, List.take_zero, List.nil_append, List.cons_append, decide_true, decide_false, Bool.or_true, true_and, and_true, dT_eT, eT_0, eT_1, eT_2, eT_3, eT_eq, eT_z, gNan]
  by_cases h1 : x < v <;> by_cases h2 : v < x <;> simp [h1, h2]
def gByV : List D → Option (List D)
  | [x, v] => some [.i (if (dV x).v < v.int then -1 else if v.int < (dV x).v then 1 else 0)]
  | _ => none
theorem ok_cells_byVar : FOk q1b gByV := fok_cells_byVar ok_cmp_Compare_int64 fun ds outs hw hg => by
  obtain ⟨d, r, rfl, hd, e, r', rfl, he, rfl⟩ := hw
  obtain ⟨x, rfl, hx, -⟩ := wfV hd
  obtain ⟨v, rfl, hv⟩ := wfI he
  simp only [gByV, dV_eV, int_i, Option.some.injEq] at hg
  subst hg
  simp [q2z, q02, go_br, q01, q03, allSay, X.says, X.ev, X.evs, evl, tblS, List.getD_cons_zero, List.getD_cons_succ, List.getElem?_cons_zero, List.getElem?_cons_succ, tt_b, int_i, str_s, rs_r, Option.isSome_some, Option.getD_some, decide_eq_true_eq, decide_eq_false_iff_not, dS_eS, dC_eC, dU_eU, dW_eW, dY_eY, eC_0, eC_1, eU_0, eU_1, eW_0, eW_1, eW_2, eY_0, eY_1, eS_0, eS_1, eS_2, eS_3, eS_4, eS_5, List.length_map, i_inj, b_inj, s_inj, eC_eq, eU_eq, eW_eq, eY_eq, eS_eq, rng64, List.take_succ_cons, List.take_zero, List.nil_append, List.cons_append, decide_true, decide_false, Bool.or_true, true_and, and_true, dT_eT, eT_0, eT_1, eT_2, eT_3, eT_eq, eT_z, gCmp, eV_0]
  rfl
def gKept : List D → Option (List D)
  | [c] => some [eC (keptC (dC c))]
  | _ => none
theorem ok_cells_kept : FOk q1e gKept := fok_cells_kept fun ds outs hw hg => by
  obtain ⟨d, r, rfl, hd, rfl⟩ := hw
  obtain ⟨c, rfl, hc⟩ := wfC hd
  simp only [gKept, dC_eC, Option.some.injEq] at hg
  subst hg
  simp only [q36, q02, go_br, q01, q03, allSay, X.says, X.ev, X.evs, evl, tblS, List.getD_cons_zero, List.getD_cons_succ, List.getElem?_cons_zero, List.getElem?_cons_succ, tt_b, int_i, str_s, rs_r, Option.isSome_some, Option.getD_some, decide_eq_true_eq, decide_eq_false_iff_not, dS_eS, dC_eC, dU_eU, dW_eW, dY_eY, eC_0, eC_1, eU_0, eU_1, eW_0, eW_1, eW_2, eY_0, eY_1, eS_0, eS_1, eS_2, eS_3, eS_4, eS_5, List.length_map, i_inj, b_inj, s_inj, eC_eq, eU_eq, eW_eq, eY_eq, eS_eq, rng64, List.take_succ_cons, List.take_zero, List.nil_append, List.cons_append, decide_true, decide_false, Bool.or_true, true_and, and_true, dT_eT, eT_0, eT_1, eT_2, eT_3, eT_eq, eT_z, keptC]
  by_cases h : c.t = 5 <;> simp [h]
  rfl
def gBin : List D → Option (List D)
  | [l, v] => if SV (dVs l) then some [.i (loV (dVs l) v.int), .b (ofV (dVs l) v.int).isSome] else none
  | _ => none
theorem rngU {n : Int} (h0 : 0 ≤ n) (h1 : n ≤ 9223372036854775807) : rngB .u64 n = true := by
  simp [rngB]
  omega
theorem cmp_lt (a v : Int) {i1 : Decidable (a < v)} {i2 : Decidable (v < a)} : ((if a < v then (-1 : Int) else if v < a then 1 else 0) < 0) ↔ a < v := by
  split
  · simp_all
  · split <;> simp_all
theorem half (i j : Nat) : ((i : Int) + (j : Int)).fdiv (2 ^ (1 : Int).toNat) = ((i + j) / 2 : Nat) := by
  rw [show (2 : Int) ^ (1 : Int).toNat = 2 from rfl, Int.fdiv_eq_ediv_of_nonneg _ (by omega)]
  omega
theorem sv_mono {l : List Vc} (h : SV l) {i j : Nat} (hij : i ≤ j) (hj : j < l.length) : (l.getD i default).v ≤ (l.getD j default).v := by
  rcases Nat.lt_or_eq_of_le hij with h1 | rfl
  · have h2 : i < l.length := by omega
    have := List.pairwise_iff_getElem.1 h.1 i j h2 hj h1
    simp only [List.getD_eq_getElem?_getD, List.getElem?_eq_getElem h2, List.getElem?_eq_getElem hj, Option.getD_some]
    omega
  · exact Int.le_refl _
theorem q2d : FOk q05 gBin := q2c ok_cells_byVar fun ds outs hw hg => by
  obtain ⟨d, r, rfl, hd, e, r', rfl, he, rfl⟩ := hw
  obtain ⟨l, rfl, hl, hok⟩ := wfVs hd
  obtain ⟨v, rfl, hv⟩ := wfI he
  simp only [gBin, dVs_eVs, int_i, Option.ite_none_right_eq_some, Option.some.injEq] at hg
  obtain ⟨hs, rfl⟩ := hg
  rw [q18, q1y]
  refine ⟨fun st => ∃ i j : Nat, i ≤ j ∧ j ≤ l.length ∧ st = [.i i, .i j] ∧ (∀ k, k < i → (l.getD k default).v < v) ∧ (∀ k, j ≤ k → k < l.length → v ≤ (l.getD k default).v), fun st => (st.getD 1 .u).int.toNat - (st.getD 0 .u).int.toNat, ⟨0, l.length, Nat.zero_le _, Nat.le_refl _, by simp [X.evs, X.ev, evl, D.rs], fun k hk => absurd hk (Nat.not_lt_zero _), fun k h1 h2 => by omega⟩, ?_⟩
  rintro st - ⟨i, j, hij, hj, rfl, h1, h2⟩
  rw [go_br]
  refine ⟨fun hlt => ?_, fun hlt => ?_⟩
  · simp only [q02, go_br, q01, q03, allSay, X.says, X.ev, X.evs, evl, tblS, List.getD_cons_zero, List.getD_cons_succ, List.getElem?_cons_zero, List.getElem?_cons_succ, tt_b, int_i, str_s, rs_r, Option.isSome_some, Option.getD_some, decide_eq_true_eq, decide_eq_false_iff_not, dS_eS, dC_eC, dU_eU, dW_eW, dY_eY, eC_0, eC_1, eU_0, eU_1, eW_0, eW_1, eW_2, eY_0, eY_1, eS_0, eS_1, eS_2, eS_3, eS_4, eS_5, List.length_map, i_inj, b_inj, s_inj, eC_eq, eU_eq, eW_eq, eY_eq, eS_eq, rng64, List.take_succ_cons, List.take_zero, List.nil_append, List.cons_append, decide_true, decide_false, Bool.or_true, true_and, and_true, dT_eT, eT_0, eT_1, eT_2, eT_3, eT_eq, eT_z] at hlt
    have hm : (i + j) / 2 < l.length := by omega
    simp only [q02, go_br, q01, q03, allSay, X.says, X.ev, X.evs, evl, tblS, List.getD_cons_zero, List.getD_cons_succ, List.getElem?_cons_zero, List.getElem?_cons_succ, tt_b, int_i, str_s, rs_r, Option.isSome_some, Option.getD_some, decide_eq_true_eq, decide_eq_false_iff_not, dS_eS, dC_eC, dU_eU, dW_eW, dY_eY, eC_0, eC_1, eU_0, eU_1, eW_0, eW_1, eW_2, eY_0, eY_1, eS_0, eS_1, eS_2, eS_3, eS_4, eS_5, List.length_map, i_inj, b_inj, s_inj, eC_eq, eU_eq, eW_eq, eY_eq, eS_eq, rng64, List.take_succ_cons, List.take_zero, List.nil_append, List.cons_append, decide_true, decide_false, Bool.or_true, true_and, and_true, dT_eT, eT_0, eT_1, eT_2, eT_3, eT_eq, eT_z, fnD, half, get_n eV hm, gByV, dV_eV, cmp_lt]
    have hk : i + j ≤ 2 * 5864062014634 := by omega
    refine ⟨⟨⟨by omega, by omega⟩, rngU (by omega) (by omega), rngU (by omega) (by omega), by omega, by omega⟩, ⟨by omega, by omega⟩, fun hb => ⟨⟨by omega, by omega⟩, ?_⟩, fun hb => ?_⟩
    · have hlv : (l.getD ((i + j) / 2) default).v < v := (cmp_lt _ _).1 hb
      rw [updB, if_pos rfl]
      refine ⟨⟨(i + j) / 2 + 1, j, by omega, hj, by simp, fun k hk => ?_, h2⟩, ?_⟩
      · have := sv_mono hs (show k ≤ (i + j) / 2 by omega) hm
        omega
      · simp [D.int]
        omega
    · have hlv : v ≤ (l.getD ((i + j) / 2) default).v := Int.not_lt.1 fun q => hb ((cmp_lt _ _).2 q)
      rw [updB, if_pos rfl]
      refine ⟨⟨i, (i + j) / 2, by omega, by omega, by simp, h1, fun k hk hkl => ?_⟩, ?_⟩
      · have := sv_mono hs (show (i + j) / 2 ≤ k by omega) hkl
        omega
      · simp [D.int]
        omega
  · simp only [q02, go_br, q01, q03, allSay, X.says, X.ev, X.evs, evl, tblS, List.getD_cons_zero, List.getD_cons_succ, List.getElem?_cons_zero, List.getElem?_cons_succ, tt_b, int_i, str_s, rs_r, Option.isSome_some, Option.getD_some, decide_eq_true_eq, decide_eq_false_iff_not, dS_eS, dC_eC, dU_eU, dW_eW, dY_eY, eC_0, eC_1, eU_0, eU_1, eW_0, eW_1, eW_2, eY_0, eY_1, eS_0, eS_1, eS_2, eS_3, eS_4, eS_5, List.length_map, i_inj, b_inj, s_inj, eC_eq, eU_eq, eW_eq, eY_eq, eS_eq, rng64, List.take_succ_cons, List.take_zero, List.nil_append, List.cons_append, decide_true, decide_false, Bool.or_true, true_and, and_true, dT_eT, eT_0, eT_1, eT_2, eT_3, eT_eq, eT_z] at hlt
    have hl1 : loV l v = i := loV_uniq (by omega) h1 fun k hk hkl => h2 k (by omega) hkl
    rw [ofV_lo hs, hl1]
    by_cases hil : i < l.length
    · simp only [q02, go_br, q01, q03, allSay, X.says, X.ev, X.evs, evl, tblS, List.getD_cons_zero, List.getD_cons_succ, List.getElem?_cons_zero, List.getElem?_cons_succ, tt_b, int_i, str_s, rs_r, Option.isSome_some, Option.getD_some, decide_eq_true_eq, decide_eq_false_iff_not, dS_eS, dC_eC, dU_eU, dW_eW, dY_eY, eC_0, eC_1, eU_0, eU_1, eW_0, eW_1, eW_2, eY_0, eY_1, eS_0, eS_1, eS_2, eS_3, eS_4, eS_5, List.length_map, i_inj, b_inj, s_inj, eC_eq, eU_eq, eW_eq, eY_eq, eS_eq, rng64, List.take_succ_cons, List.take_zero, List.nil_append, List.cons_append, decide_true, decide_false, Bool.or_true, true_and, and_true, dT_eT, eT_0, eT_1, eT_2, eT_3, eT_eq, eT_z, get_n eV hil, gByV, dV_eV]
      have e0 : (i : Int) < l.length := by omega
      have e1 : (0 : Int) ≤ i := by omega
      have hx : v ≤ (l.getD i default).v := h2 i (by omega) hil
      generalize l.getD i default = z at hx
      simp only [e0, e1, decide_true, Bool.not_true, Bool.false_or, Bool.true_and, true_and, hil]
      by_cases hz : z.v = v
      · have h3 : ¬ z.v < v := by omega
        have h4 : ¬ v < z.v := by omega
        simp [hz]
      · have h3 : ¬ z.v < v := by omega
        have h4 : v < z.v := by omega
        simp [hz, h3, h4]
    · have e0 : ¬ (i : Int) < l.length := by omega
      simp [q02, go_br, q01, q03, allSay, X.says, X.ev, X.evs, evl, tblS, List.getD_cons_zero, List.getD_cons_succ, List.getElem?_cons_zero, List.getElem?_cons_succ, tt_b, int_i, str_s, rs_r, Option.isSome_some, Option.getD_some, decide_eq_true_eq, decide_eq_false_iff_not, dS_eS, dC_eC, dU_eU, dW_eW, dY_eY, eC_0, eC_1, eU_0, eU_1, eW_0, eW_1, eW_2, eY_0, eY_1, eS_0, eS_1, eS_2, eS_3, eS_4, eS_5, List.length_map, i_inj, b_inj, s_inj, eC_eq, eU_eq, eW_eq, eY_eq, eS_eq, rng64, List.take_succ_cons, List.take_zero, List.nil_append, List.cons_append, decide_true, decide_false, Bool.or_true, true_and, and_true, dT_eT, eT_0, eT_1, eT_2, eT_3, eT_eq, eT_z, e0, hil]

def eM (ms : List Sy) : List D := ms.map fun y => .a [eY y, .b true]
def dM (d : D) : List Sy := d.ms.map fun p => dY (p.fld 0)
theorem dM_eM (ms : List Sy) : dM (.mp (eM ms)) = ms := by
  show (ms.map fun y => D.a [eY y, .b true]).map (fun p => dY (p.fld 0)) = ms
  rw [List.map_map]
  exact List.map_id'' (fun x => rfl) ms
theorem mfind_eM (y : Sy) : ∀ ms : List Sy, mfind (eY y) (eM ms) = if y ∈ ms then some (.b true) else none
  | [] => by simp [eM, mfind]
  | z :: ms => by
    have ih := mfind_eM y ms
    show (if eY z = eY y then some (D.b true) else mfind (eY y) (eM ms)) = _
    by_cases h : z = y
    · subst h
      rw [if_pos rfl]
      simp
    · have h' : ¬ y = z := fun e => h e.symm
      rw [if_neg (fun e => h (eY_inj e)), ih]
      simp [h']
theorem mset_eM {y : Sy} : ∀ {ms : List Sy}, y ∉ ms → mset (eY y) (.b true) (eM ms) = eM (ms ++ [y])
  | [], _ => by simp [eM, mset]
  | z :: ms, h => by
    have h1 : ¬ z = y := fun e => h (by simp [e])
    have h2 : y ∉ ms := fun e => h (by simp [e])
    have ih := mset_eM h2
    show (if eY z = eY y then D.a [eY y, .b true] :: eM ms else D.a [eY z, .b true] :: mset (eY y) (.b true) (eM ms)) = _
    rw [if_neg (fun e => h1 (eY_inj e)), ih]
    rfl
theorem visMs_app (ys : List Sy) : ∀ (l m : List Te) (ms : List Sy), visMs ys ms (l ++ m) = visMs ys (visMs ys ms l) m
  | [], m, ms => rfl
  | t :: l, m, ms => by rw [List.cons_append, visMs, visMs, visMs_app ys l m]
theorem cntTs_app : ∀ (l m : List Te), cntTs (l ++ m) = cntTs l + cntTs m
  | [], m => by simp [cntTs]
  | t :: l, m => by rw [List.cons_append, cntTs, cntTs, cntTs_app l m]; omega
theorem visM_t (ys ms : List Sy) (t : Te) : visM ys ms t = visMs ys (if t.k = 2 ∨ t.k = 3 then symM ys ms ⟨t.s, (t.l.length : Nat)⟩ else ms) t.l := by
  cases t
  rw [visM]
  rfl
theorem cntT_t (t : Te) : cntT t = if t.k = 3 then 1 + t.l.length + cntTs t.l else 0 := by
  cases t
  rw [cntT]
  rfl
theorem node_l {t : Te} (h : nodeT t = true) (h3 : ¬ t.k = 3) : t.l = [] := by
  obtain ⟨k, n, nm, l⟩ := t
  rcases node_cases h with h | h | h | h
  · exact h.2.1
  · exact h.2
  · exact h.2.1
  · exact (h3 h.1).elim
def gRo1 : List D → Option (List D)
  | [t, m, n, s] => if m = .mp (eM (dM m)) ∧ nodesT (dT t) = true ∧ 0 ≤ n.int ∧ n.int + cntT (dT t) ≤ 1099511627776 then some [.mp (eM (visM (dS s).ys (dM m) (dT t))), .i (n.int + cntT (dT t))] else none
  | _ => none
theorem ok_cells_room_1 : FOk q0d gRo1 := fok_cut (m := mT) q3d fun N ih => fok_cells_room_1 ih ok_cells_find fun ds outs hw hg => by
  obtain ⟨d, r, rfl, hd, e, r', rfl, he, f, r2, rfl, hf, q, r3, rfl, hq, rfl⟩ := hw
  obtain ⟨t, rfl, ht⟩ := wfT hd
  obtain ⟨n, rfl, hn⟩ := wfI hf
  obtain ⟨s, rfl, hs⟩ := wfS hq
  simp only [cutM, mT, gRo1, List.getD_cons_zero, dT_eT, int_i, dS_eS, Option.ite_none_right_eq_some, Option.some.injEq] at hg
  obtain ⟨hsz, ⟨hm, hnd, h0, h1⟩, rfl⟩ := hg
  obtain ⟨ms, hms⟩ : ∃ ms, e = .mp (eM ms) := ⟨_, hm⟩
  subst hms
  rw [dM_eM]
  have hl := ht.l
  have hnl := (nodes_iff t).1 hnd
  have key : ∀ (x1 x2 : X) (ms0 : List Sy) (n0 : Int), x1.ev (evl (tblS [(q0d, cutM mT N gRo1), (q0k, gFind1)]) [eT t, .mp (eM ms), .i n, eS s]) = .mp (eM ms0) → x2.ev (evl (tblS [(q0d, cutM mT N gRo1), (q0k, gFind1)]) [eT t, .mp (eM ms), .i n, eS s]) = .i n0 → 0 ≤ n0 → n0 + cntTs t.l = n + cntT t → visMs s.ys ms0 t.l = visM s.ys ms t → Tree.go (tblS [(q0d, cutM mT N gRo1), (q0k, gFind1)]) (fun o => o = [.mp (eM (visM s.ys ms t)), .i (n + cntT t)]) (.loop 8 4 [(.lit (.i 0)), x1, x2] (.br (.lt (.tok 4) (.len (.fld (.tok 0) 3))) (.need [(.le (.lit (.i 0)) (.tok 4)), (.lt (.tok 4) (.len (.fld (.tok 0) 3)))] (.need [(.ok 0 [(.get (.fld (.tok 0) 3) (.tok 4)), (.tok 5), (.tok 6), (.tok 3)])] (.need [(.rng .i64 (.add (.tok 4) (.lit (.i 1))))] (.back 8 [(.add (.tok 4) (.lit (.i 1))), (.call 0 0 [(.get (.fld (.tok 0) 3) (.tok 4)), (.tok 5), (.tok 6), (.tok 3)]), (.call 0 1 [(.get (.fld (.tok 0) 3) (.tok 4)), (.tok 5), (.tok 6), (.tok 3)])])))) (.leaf [(.tok 5), (.tok 6)]))) [eT t, .mp (eM ms), .i n, eS s] fun _ _ => False := by
    intro x1 x2 ms0 n0 hx1 hx2 hn0 hc hv
    rw [q1y]
    refine ⟨fun st => ∃ k : Nat, k ≤ t.l.length ∧ st = [.i k, .mp (eM (visMs s.ys ms0 (t.l.take k))), .i (n0 + cntTs (t.l.take k))], fun st => t.l.length - (st.getD 0 .u).int.toNat, ⟨0, Nat.zero_le _, by simp only [X.evs, hx1, hx2, X.ev]; simp [visMs, cntTs]⟩, ?_⟩
    rintro st - ⟨k, hk, rfl⟩
    rw [go_br]
    refine ⟨fun hlt => ?_, fun hlt => ?_⟩
    · simp only [q02, go_br, q01, q03, allSay, X.says, X.ev, X.evs, evl, tblS, List.getD_cons_zero, List.getD_cons_succ, List.getElem?_cons_zero, List.getElem?_cons_succ, tt_b, int_i, str_s, rs_r, Option.isSome_some, Option.getD_some, decide_eq_true_eq, decide_eq_false_iff_not, dS_eS, dC_eC, dU_eU, dW_eW, dY_eY, eC_0, eC_1, eU_0, eU_1, eW_0, eW_1, eW_2, eY_0, eY_1, eS_0, eS_1, eS_2, eS_3, eS_4, eS_5, List.length_map, i_inj, b_inj, s_inj, eC_eq, eU_eq, eW_eq, eY_eq, eS_eq, rng64, List.take_succ_cons, List.take_zero, List.nil_append, List.cons_append, decide_true, decide_false, Bool.or_true, true_and, and_true, dT_eT, eT_0, eT_1, eT_2, eT_3, eT_eq, eT_z] at hlt
      have hkl : k < t.l.length := by omega
      have ha := arg_sz hkl
      have hsn : cntTs (t.l.take (k + 1)) = cntTs (t.l.take k) + cntT (t.l.getD k default) := by
        rw [take_snoc hkl, cntTs_app]
        simp [cntTs]
      have hle : cntTs (t.l.take (k + 1)) ≤ cntTs t.l := by
        have := cntTs_app (t.l.take (k + 1)) (t.l.drop (k + 1))
        rw [List.take_append_drop] at this
        omega
      have hvs : visMs s.ys ms0 (t.l.take (k + 1)) = visM s.ys (visMs s.ys ms0 (t.l.take k)) (t.l.getD k default) := by
        rw [take_snoc hkl, visMs_app]
        rfl
      have hq : (nodesT (t.l.getD k default) = true ∧ 0 ≤ n0 + (cntTs (t.l.take k) : Int) ∧ n0 + (cntTs (t.l.take k) : Int) + cntT (t.l.getD k default) ≤ 1099511627776) := ⟨hnl.2 k hkl, by omega, by omega⟩
      simp only [q02, go_br, q01, q03, allSay, X.says, X.ev, X.evs, evl, tblS, List.getD_cons_zero, List.getD_cons_succ, List.getElem?_cons_zero, List.getElem?_cons_succ, tt_b, int_i, str_s, rs_r, Option.isSome_some, Option.getD_some, decide_eq_true_eq, decide_eq_false_iff_not, dS_eS, dC_eC, dU_eU, dW_eW, dY_eY, eC_0, eC_1, eU_0, eU_1, eW_0, eW_1, eW_2, eY_0, eY_1, eS_0, eS_1, eS_2, eS_3, eS_4, eS_5, List.length_map, i_inj, b_inj, s_inj, eC_eq, eU_eq, eW_eq, eY_eq, eS_eq, rng64, List.take_succ_cons, List.take_zero, List.nil_append, List.cons_append, decide_true, decide_false, Bool.or_true, true_and, and_true, dT_eT, eT_0, eT_1, eT_2, eT_3, eT_eq, eT_z, get_t hkl, cutM, mT, gRo1, if_pos hq, if_pos (show szT (t.l.getD k default) < N by omega), dM_eM]
      refine ⟨⟨by omega, by omega⟩, ⟨by omega, by omega⟩, ?_⟩
      rw [updB, if_pos rfl]
      refine ⟨⟨k + 1, by omega, ?_⟩, ?_⟩
      · rw [hvs, hsn]
        simp
        omega
      · simp [D.int]
        omega
    · simp only [q02, go_br, q01, q03, allSay, X.says, X.ev, X.evs, evl, tblS, List.getD_cons_zero, List.getD_cons_succ, List.getElem?_cons_zero, List.getElem?_cons_succ, tt_b, int_i, str_s, rs_r, Option.isSome_some, Option.getD_some, decide_eq_true_eq, decide_eq_false_iff_not, dS_eS, dC_eC, dU_eU, dW_eW, dY_eY, eC_0, eC_1, eU_0, eU_1, eW_0, eW_1, eW_2, eY_0, eY_1, eS_0, eS_1, eS_2, eS_3, eS_4, eS_5, List.length_map, i_inj, b_inj, s_inj, eC_eq, eU_eq, eW_eq, eY_eq, eS_eq, rng64, List.take_succ_cons, List.take_zero, List.nil_append, List.cons_append, decide_true, decide_false, Bool.or_true, true_and, and_true, dT_eT, eT_0, eT_1, eT_2, eT_3, eT_eq, eT_z] at hlt ⊢
      have : k = t.l.length := by omega
      subst this
      rw [List.take_length, hv, hc]
  rw [q2o]
  have ey : D.a [.s t.s, .i (t.l.length : Nat)] = eY ⟨t.s, (t.l.length : Nat)⟩ := rfl
  simp only [q02, go_br, q01, q03, allSay, X.says, X.ev, X.evs, evl, tblS, List.getD_cons_zero, List.getD_cons_succ, List.getElem?_cons_zero, List.getElem?_cons_succ, tt_b, int_i, str_s, rs_r, Option.isSome_some, Option.getD_some, decide_eq_true_eq, decide_eq_false_iff_not, dS_eS, dC_eC, dU_eU, dW_eW, dY_eY, eC_0, eC_1, eU_0, eU_1, eW_0, eW_1, eW_2, eY_0, eY_1, eS_0, eS_1, eS_2, eS_3, eS_4, eS_5, List.length_map, i_inj, b_inj, s_inj, eC_eq, eU_eq, eW_eq, eY_eq, eS_eq, rng64, List.take_succ_cons, List.take_zero, List.nil_append, List.cons_append, decide_true, decide_false, Bool.or_true, true_and, and_true, dT_eT, eT_0, eT_1, eT_2, eT_3, eT_eq, eT_z, gFind1, fnD, ey, ms_mp, mfind_eM]
  have hc3 : t.k = 3 → cntT t = 1 + t.l.length + cntTs t.l := fun h => by rw [cntT_t, if_pos h]
  have hc0 : ¬ t.k = 3 → cntT t = 0 ∧ cntTs t.l = 0 := fun h => by
    rw [cntT_t, if_neg h, node_l hnl.1 h]
    exact ⟨rfl, rfl⟩
  have hvm := visM_t s.ys ms t
  have hput : ∀ ms0, ms0 = symM s.ys ms ⟨t.s, (t.l.length : Nat)⟩ → (decide (t.k = 2) || decide (t.k = 3)) = true → visMs s.ys ms0 t.l = visM s.ys ms t := fun ms0 e h => by
    rw [hvm, e, if_pos (by simpa using h)]
  have hM : (X.fn 2 [.tok 1, .mk [.fld (.tok 0) 2, .len (.fld (.tok 0) 3)], .lit (.b true)]).ev (evl (tblS [(q0d, cutM mT N gRo1), (q0k, gFind1)]) [eT t, .mp (eM ms), .i n, eS s]) = .mp (mset (eY ⟨t.s, (t.l.length : Nat)⟩) (.b true) (eM ms)) := by
    simp only [q02, go_br, q01, q03, allSay, X.says, X.ev, X.evs, evl, tblS, List.getD_cons_zero, List.getD_cons_succ, List.getElem?_cons_zero, List.getElem?_cons_succ, tt_b, int_i, str_s, rs_r, Option.isSome_some, Option.getD_some, decide_eq_true_eq, decide_eq_false_iff_not, dS_eS, dC_eC, dU_eU, dW_eW, dY_eY, eC_0, eC_1, eU_0, eU_1, eW_0, eW_1, eW_2, eY_0, eY_1, eS_0, eS_1, eS_2, eS_3, eS_4, eS_5, List.length_map, i_inj, b_inj, s_inj, eC_eq, eU_eq, eW_eq, eY_eq, eS_eq, rng64, List.take_succ_cons, List.take_zero, List.nil_append, List.cons_append, decide_true, decide_false, Bool.or_true, true_and, and_true, dT_eT, eT_0, eT_1, eT_2, eT_3, eT_eq, eT_z, fnD, ey, ms_mp]
  have hN : (X.add (.tok 2) (.add (.len (.fld (.tok 0) 3)) (.lit (.i 1)))).ev (evl (tblS [(q0d, cutM mT N gRo1), (q0k, gFind1)]) [eT t, .mp (eM ms), .i n, eS s]) = .i (n + ((t.l.length : Nat) + 1)) := by
    simp only [q02, go_br, q01, q03, allSay, X.says, X.ev, X.evs, evl, tblS, List.getD_cons_zero, List.getD_cons_succ, List.getElem?_cons_zero, List.getElem?_cons_succ, tt_b, int_i, str_s, rs_r, Option.isSome_some, Option.getD_some, decide_eq_true_eq, decide_eq_false_iff_not, dS_eS, dC_eC, dU_eU, dW_eW, dY_eY, eC_0, eC_1, eU_0, eU_1, eW_0, eW_1, eW_2, eY_0, eY_1, eS_0, eS_1, eS_2, eS_3, eS_4, eS_5, List.length_map, i_inj, b_inj, s_inj, eC_eq, eU_eq, eW_eq, eY_eq, eS_eq, rng64, List.take_succ_cons, List.take_zero, List.nil_append, List.cons_append, decide_true, decide_false, Bool.or_true, true_and, and_true, dT_eT, eT_0, eT_1, eT_2, eT_3, eT_eq, eT_z]
  have hno : ((!((if (⟨t.s, (t.l.length : Nat)⟩ : Sy) ∈ ms then some (D.b true) else none).getD (D.b false)).tt && decide (findS s t.s (t.l.length : Nat) < 0)) = true) ↔ ¬ ((⟨t.s, (t.l.length : Nat)⟩ : Sy) ∈ ms ∨ (⟨t.s, (t.l.length : Nat)⟩ : Sy) ∈ s.ys) := by
    rw [← findS_mem (s := s) (nm := t.s) (ar := (t.l.length : Nat))]
    by_cases hm : (⟨t.s, (t.l.length : Nat)⟩ : Sy) ∈ ms
    · simp [hm, D.tt]
    · simp [hm, D.tt]
  refine ⟨fun h23 => ⟨fun hc => ?_, fun hc => ?_⟩, fun h23 => ?_⟩
  · have hc' := hno.1 hc
    have e1 : symM s.ys ms ⟨t.s, (t.l.length : Nat)⟩ = ms ++ [⟨t.s, (t.l.length : Nat)⟩] := by rw [symM, if_neg hc']
    rw [mset_eM fun q => hc' (.inl q), ← e1] at hM
    exact ⟨fun h3 => ⟨⟨⟨by omega, by omega⟩, by omega, by have := hc3 h3; omega⟩, key _ _ _ _ hM hN (by omega) (by have := hc3 h3; omega) (hput _ rfl h23)⟩, fun h3 => key _ _ _ _ hM rfl h0 (by have := hc0 h3; omega) (hput _ rfl h23)⟩
  · have hc' : (⟨t.s, (t.l.length : Nat)⟩ : Sy) ∈ ms ∨ (⟨t.s, (t.l.length : Nat)⟩ : Sy) ∈ s.ys := Classical.byContradiction fun q => by
      rw [hno.2 q] at hc
      cases hc
    have e1 : ms = symM s.ys ms ⟨t.s, (t.l.length : Nat)⟩ := by rw [symM, if_pos hc']
    exact ⟨fun h3 => ⟨⟨⟨by omega, by omega⟩, by omega, by have := hc3 h3; omega⟩, key _ _ _ _ rfl hN (by omega) (by have := hc3 h3; omega) (hput _ e1 h23)⟩, fun h3 => key _ _ _ _ rfl rfl h0 (by have := hc0 h3; omega) (hput _ e1 h23)⟩
  · have h3 : ¬ t.k = 3 := fun q => by simp [q] at h23
    have h4 : ¬ (t.k = 2 ∨ t.k = 3) := fun q => by
      rcases q with q | q <;> simp [q] at h23
    rw [if_neg h4] at hvm
    exact ⟨fun q => (h3 q).elim, fun _ => key _ _ _ _ rfl rfl h0 (by have := hc0 h3; omega) hvm.symm⟩
end Go.Proofs.Ytinclokohcommaa


namespace Go.Proofs.Ytinclokohcommaa
open Go.RowKit
set_option linter.unusedVariables false
set_option linter.unusedSimpArgs false

theorem ok_slices_Clone_VarCell : FOk q0j (gCl 5864062014634) := q3g fun ds outs hw hg => by
  obtain ⟨d, r, rfl, hd, rfl⟩ := hw
  obtain ⟨l, te, rfl, -⟩ := hd.row
  simp only [gCl, rowQ_r, Option.ite_none_right_eq_some, Option.some.injEq] at hg
  obtain ⟨h1, rfl⟩ := hg
  exact clT_ok h1 rfl

def vAt (s : So) (l : List Vc) (k : Nat) : Bool := decide (0 ≤ (l.getD k default).v) && (decide ((l.getD k default).v ≤ 1099511627776) && (decide (k = 0 ∨ (l.getD (k - 1) default).v < (l.getD k default).v) && vcP s (l.getD k default).c))
def vvP (s : So) (l : List Vc) : Bool := (List.range l.length).all (vAt s l)
theorem getD_el {l : List Vc} {i : Nat} (h : i < l.length) : l.getD i default = l[i] := by
  rw [List.getD_eq_getElem?_getD, List.getElem?_eq_getElem h]
  rfl
theorem vvP_iff {s : So} {l : List Vc} : vvP s l = true ↔ SV l ∧ ∀ x ∈ l, vcP s x.c = true := by
  unfold vvP
  rw [List.all_eq_true]
  constructor
  · intro h
    have h' : ∀ k, k < l.length → vAt s l k = true := fun k hk => h k (List.mem_range.2 hk)
    have step : ∀ j i, i < j → j < l.length → (l.getD i default).v < (l.getD j default).v := by
      intro j
      induction j with
      | zero => intro i hi; omega
      | succ j ih =>
        intro i hi hj
        have h1 := h' (j + 1) hj
        simp only [vAt, Bool.and_eq_true, decide_eq_true_eq] at h1
        have h2 : (l.getD j default).v < (l.getD (j + 1) default).v := by
          rcases h1.2.2.1 with h | h
          · omega
          · exact h
        rcases Nat.lt_or_eq_of_le (Nat.le_of_lt_succ hi) with h3 | rfl
        · have := ih i h3 (by omega)
          omega
        · exact h2
    refine ⟨⟨List.pairwise_iff_getElem.2 fun i j hi hj hij => ?_, fun x hx => ?_⟩, fun x hx => ?_⟩
    · have := step j i hij hj
      rw [getD_el hi, getD_el hj] at this
      exact this
    · obtain ⟨i, hi, rfl⟩ := List.mem_iff_getElem.1 hx
      have h1 := h' i hi
      simp only [vAt, Bool.and_eq_true, decide_eq_true_eq, getD_el hi] at h1
      exact ⟨h1.1, h1.2.1⟩
    · obtain ⟨i, hi, rfl⟩ := List.mem_iff_getElem.1 hx
      have h1 := h' i hi
      simp only [vAt, Bool.and_eq_true, decide_eq_true_eq, getD_el hi] at h1
      exact h1.2.2.2
  · rintro ⟨hs, hc⟩ k hk
    have hk := List.mem_range.1 hk
    have hm := getD_mem hk
    simp only [vAt, Bool.and_eq_true, decide_eq_true_eq]
    refine ⟨(hs.2 _ hm).1, (hs.2 _ hm).2, ?_, hc _ hm⟩
    rcases Nat.eq_zero_or_pos k with h | h
    · exact .inl h
    · right
      have h1 : k - 1 < l.length := by omega
      rw [getD_el h1, getD_el hk]
      exact List.pairwise_iff_getElem.1 hs.1 (k - 1) k h1 hk (by omega)
def gVV (f : So → List Vc → Bool) : List D → Option (List D)
  | [s, l] => some [.b (f (dS s) (dVs l))]
  | _ => none
theorem ok_cells_validVars : FOk q0w (gVV vvP) := q4i ok_cells_ValidCell fun ds outs hw hg => by
  obtain ⟨d, r, rfl, hd, e, r', rfl, he, rfl⟩ := hw
  obtain ⟨s, rfl, hs⟩ := wfS hd
  obtain ⟨l, rfl, hl, hok⟩ := wfVs he
  simp only [gVV, dS_eS, dVs_eVs, Option.some.injEq] at hg
  subst hg
  rw [q2e, q1y]
  refine ⟨fun st => ∃ k : Nat, k ≤ l.length ∧ st = [.b false, .i k] ∧ ∀ j, j < k → vAt s l j = true, fun st => l.length - (st.getD 1 .u).int.toNat, ⟨0, Nat.zero_le _, rfl, fun j hj => absurd hj (Nat.not_lt_zero _)⟩, ?_⟩
  rintro st - ⟨k, hk, rfl, hP⟩
  rw [go_br]
  refine ⟨fun hlt => ?_, fun hlt => ?_⟩
  · simp only [q02, go_br, q01, q03, allSay, X.says, X.ev, X.evs, evl, tblS, List.getD_cons_zero, List.getD_cons_succ, List.getElem?_cons_zero, List.getElem?_cons_succ, tt_b, int_i, str_s, rs_r, Option.isSome_some, Option.getD_some, decide_eq_true_eq, decide_eq_false_iff_not, dS_eS, dC_eC, dU_eU, dW_eW, dY_eY, eC_0, eC_1, eU_0, eU_1, eW_0, eW_1, eW_2, eY_0, eY_1, eS_0, eS_1, eS_2, eS_3, eS_4, eS_5, List.length_map, i_inj, b_inj, s_inj, eC_eq, eU_eq, eW_eq, eY_eq, eS_eq, rng64, List.take_succ_cons, List.take_zero, List.nil_append, List.cons_append, decide_true, decide_false, Bool.or_true, true_and, and_true, dT_eT, eT_0, eT_1, eT_2, eT_3, eT_eq, eT_z] at hlt
    have hkl : k < l.length := by omega
    have hvb := (hok _ (getD_mem hkl)).1
    by_cases h0 : k = 0
    · subst h0
      have e1 : decide ((0 : Int) < ((0 : Nat) : Int)) = false := by decide
      simp only [q02, go_br, q01, q03, allSay, X.says, X.ev, X.evs, evl, tblS, List.getD_cons_zero, List.getD_cons_succ, List.getElem?_cons_zero, List.getElem?_cons_succ, tt_b, int_i, str_s, rs_r, Option.isSome_some, Option.getD_some, decide_eq_true_eq, decide_eq_false_iff_not, dS_eS, dC_eC, dU_eU, dW_eW, dY_eY, eC_0, eC_1, eU_0, eU_1, eW_0, eW_1, eW_2, eY_0, eY_1, eS_0, eS_1, eS_2, eS_3, eS_4, eS_5, List.length_map, i_inj, b_inj, s_inj, eC_eq, eU_eq, eW_eq, eY_eq, eS_eq, rng64, List.take_succ_cons, List.take_zero, List.nil_append, List.cons_append, decide_true, decide_false, Bool.or_true, true_and, and_true, dT_eT, eT_0, eT_1, eT_2, eT_3, eT_eq, eT_z, get_n eV hkl, eV_0, eV_1, gSCb, e1, Bool.and_false, Bool.false_and, Bool.not_false, Bool.true_or, Bool.or_false, true_and, and_self]
      refine ⟨⟨by omega, by omega⟩, fun hb => ?_, fun hb => ⟨⟨by omega, by omega⟩, ?_⟩⟩
      · have hv : vAt s l 0 = false := by
          simp only [vAt, true_or, decide_true, Bool.true_and]
          generalize l.getD 0 default = z at hb ⊢
          cases hvc : vcP s z.c
          · simp
          · simp [hvc] at hb ⊢
            omega
        rw [vvP, all_not hkl hv]
      · have hv : vAt s l 0 = true := by
          simp only [vAt, true_or, decide_true, Bool.true_and]
          generalize l.getD 0 default = z at hb ⊢
          cases hvc : vcP s z.c
          · simp [hvc] at hb
          · simp [hvc] at hb ⊢
            omega
        rw [updB, if_pos rfl]
        exact ⟨⟨1, by omega, by simp, upto_succ hP hv⟩, by simp [D.int]; omega⟩
    · have hk1 : ((k : Int) - 1) = ((k - 1 : Nat) : Int) := by omega
      have hkp : k - 1 < l.length := by omega
      have hp : (0 : Int) < k := by omega
      have hr1 : rngB .i64 ((k - 1 : Nat) : Int) = true := by simp [rngB]; omega
      have hr2 : (0 : Int) ≤ ((k - 1 : Nat) : Int) := by omega
      have hr3 : ((k - 1 : Nat) : Int) < l.length := by omega
      simp only [q02, go_br, q01, q03, allSay, X.says, X.ev, X.evs, evl, tblS, List.getD_cons_zero, List.getD_cons_succ, List.getElem?_cons_zero, List.getElem?_cons_succ, tt_b, int_i, str_s, rs_r, Option.isSome_some, Option.getD_some, decide_eq_true_eq, decide_eq_false_iff_not, dS_eS, dC_eC, dU_eU, dW_eW, dY_eY, eC_0, eC_1, eU_0, eU_1, eW_0, eW_1, eW_2, eY_0, eY_1, eS_0, eS_1, eS_2, eS_3, eS_4, eS_5, List.length_map, i_inj, b_inj, s_inj, eC_eq, eU_eq, eW_eq, eY_eq, eS_eq, rng64, List.take_succ_cons, List.take_zero, List.nil_append, List.cons_append, decide_true, decide_false, Bool.or_true, true_and, and_true, dT_eT, eT_0, eT_1, eT_2, eT_3, eT_eq, eT_z, hk1, hp, hr1, hr2, hr3, get_n eV hkl, get_n eV hkp, eV_0, eV_1, gSCb, Bool.and_true, Bool.true_and]
      refine ⟨⟨by omega, by omega⟩, fun hb => ?_, fun hb => ⟨⟨by omega, by omega⟩, ?_⟩⟩
      · have hv : vAt s l k = false := by
          simp only [vAt, h0, false_or]
          generalize l.getD k default = z at hb ⊢
          cases hvc : vcP s z.c
          · simp
          · simp [hvc] at hb ⊢
            omega
        rw [vvP, all_not hkl hv]
      · have hv : vAt s l k = true := by
          simp only [vAt, h0, false_or]
          generalize l.getD k default = z at hb ⊢
          cases hvc : vcP s z.c
          · simp [hvc] at hb
          · simp [hvc] at hb ⊢
            omega
        rw [updB, if_pos rfl]
        exact ⟨⟨k + 1, by omega, by simp, upto_succ hP hv⟩, by simp [D.int]; omega⟩
  · simp only [q02, go_br, q01, q03, allSay, X.says, X.ev, X.evs, evl, tblS, List.getD_cons_zero, List.getD_cons_succ, List.getElem?_cons_zero, List.getElem?_cons_succ, tt_b, int_i, str_s, rs_r, Option.isSome_some, Option.getD_some, decide_eq_true_eq, decide_eq_false_iff_not, dS_eS, dC_eC, dU_eU, dW_eW, dY_eY, eC_0, eC_1, eU_0, eU_1, eW_0, eW_1, eW_2, eY_0, eY_1, eS_0, eS_1, eS_2, eS_3, eS_4, eS_5, List.length_map, i_inj, b_inj, s_inj, eC_eq, eU_eq, eW_eq, eY_eq, eS_eq, rng64, List.take_succ_cons, List.take_zero, List.nil_append, List.cons_append, decide_true, decide_false, Bool.or_true, true_and, and_true, dT_eT, eT_0, eT_1, eT_2, eT_3, eT_eq, eT_z] at hlt ⊢
    have : k = l.length := by omega
    subst this
    simp only [vvP, all_yes hP]

def roomB (s : So) (t : Te) (l : List Vc) : Bool := decide ((nedT t l : Int) ≤ s.mx - s.cs.length) && decide (((visM s.ys [] t).length : Int) ≤ 1048576 - s.ys.length)
def gRoom : List D → Option (List D)
  | [s, t, l] => if nodesT (dT t) = true ∧ szT (dT t) ≤ 2000 ∧ SV (dVs l) ∧ 0 ≤ (dS s).mx ∧ (dS s).cs.length ≤ 1048576 ∧ (dS s).ys.length ≤ 1048576 then some [.b (roomB (dS s) (dT t) (dVs l))] else none
  | _ => none
theorem ok_cells_room : FOk q1f gRoom := fok_cells_room ok_cells_room_1 q2d fun ds outs hw hg => by
  obtain ⟨d, r, rfl, hd, e, r', rfl, he, f, r2, rfl, hf, rfl⟩ := hw
  obtain ⟨s, rfl, hs⟩ := wfS hd
  obtain ⟨t, rfl, ht⟩ := wfT he
  obtain ⟨l, rfl, hl, hok⟩ := wfVs hf
  simp only [gRoom, dS_eS, dT_eT, dVs_eVs, Option.ite_none_right_eq_some, Option.some.injEq] at hg
  obtain ⟨⟨hnd, hsz, hsv, hmx, hcl, hyl⟩, rfl⟩ := hg
  have hc := cntT_sz t
  have hv := visM_len t s.ys []
  have hc0 : nodesT t = true ∧ (0 : Int) ≤ 0 ∧ 0 + (cntT t : Int) ≤ 1099511627776 := ⟨hnd, by omega, by omega⟩
  have hc1 : nodesT t = true ∧ (0 : Int) ≤ 1 ∧ 1 + (cntT t : Int) ≤ 1099511627776 := ⟨hnd, by omega, by omega⟩
  have hme : (D.mp [] = D.mp (eM [])) = True := eq_true rfl
  have hmd : dM (D.mp []) = [] := rfl
  simp only [q34, q02, go_br, q01, q03, allSay, X.says, X.ev, X.evs, evl, tblS, List.getD_cons_zero, List.getD_cons_succ, List.getElem?_cons_zero, List.getElem?_cons_succ, tt_b, int_i, str_s, rs_r, Option.isSome_some, Option.getD_some, decide_eq_true_eq, decide_eq_false_iff_not, dS_eS, dC_eC, dU_eU, dW_eW, dY_eY, eC_0, eC_1, eU_0, eU_1, eW_0, eW_1, eW_2, eY_0, eY_1, eS_0, eS_1, eS_2, eS_3, eS_4, eS_5, List.length_map, i_inj, b_inj, s_inj, eC_eq, eU_eq, eW_eq, eY_eq, eS_eq, rng64, List.take_succ_cons, List.take_zero, List.nil_append, List.cons_append, decide_true, decide_false, Bool.or_true, true_and, and_true, dT_eT, eT_0, eT_1, eT_2, eT_3, eT_eq, eT_z, gRo1, gBin, dVs_eVs, if_pos hsv, fnD, ms_mp, hmd, hme, if_pos hc0, if_pos hc1, roomB]
  have hlen : (eM (visM s.ys [] t)).length = (visM s.ys [] t).length := List.length_map _
  have hr1 : rngB .i64 ((visM s.ys [] t).length : Int) = true := by simp [rngB] at hv ⊢; omega
  have hr2 : rngB .i64 (1048576 - (s.ys.length : Int)) = true := by simp [rngB]; omega
  have hx := hs.mx
  simp only [hlen, hr1, hr2, Bool.or_true, true_and]
  refine ⟨fun h0 => ⟨fun hn => ⟨⟨by omega, by omega⟩, ⟨by omega, by omega⟩, ?_⟩, fun hn => ⟨⟨by omega, by omega⟩, ?_⟩⟩, fun h0 => ⟨⟨by omega, by omega⟩, ?_⟩⟩
  · have e : ofV l t.n = none := by simpa using hn
    rw [nedT, if_pos ⟨h0, e⟩, Nat.add_comm]
    rfl
  · have e : ¬ ofV l t.n = none := fun q => by rw [q] at hn; cases hn
    rw [nedT, if_neg fun q => e q.2]
    simp
  · rw [nedT, if_neg fun q => h0 q.1]
    simp

def addQ (s : So) (all : List Vc) (t : Te) (a : Int) : Bool := nodesT t && (decide (SV all) && (decide ((s.cs.length : Int) + ((if a < 0 then nedT t all else cntT t : Nat) : Int) ≤ s.mx) && (decide (s.mx ≤ 1048576) && (decide ((symsT s.ys t).length ≤ 1048576) && decide (a ≤ 1048576)))))
def gAdd : List D → Option (List D)
  | [t, a, all, s] => if addQ (dS s) (dVs all) (dT t) a.int then some [eC (addD (dS s, dVs all) (dT t) a.int).1, .r ((addD (dS s, dVs all) (dT t) a.int).2.2.map eV), eS (addD (dS s, dVs all) (dT t) a.int).2.1] else none
  | _ => none
theorem sym_N {s : So} {nm : ByteArray} {ar : Int} (h : symBad nm ar = false) (hl : (symX s.ys ⟨nm, ar⟩).length ≤ 1048576) : gSym [eS s, .s nm, .i ar] = some [.i (symN s nm ar).1, .i 0, eS (symN s nm ar).2] := by
  simp only [gSym, dS_eS, str_s, int_i, h, symN]
  by_cases h0 : 0 ≤ findS s nm ar
  · simp [h0]
  · have h1 : ¬ (⟨nm, ar⟩ : Sy) ∈ s.ys := fun q => h0 (findS_mem.2 q)
    rw [symX, if_neg h1] at hl
    have h2 : ¬ 1048576 ≤ s.ys.length := by simp at hl; omega
    simp [h0, h2]
theorem set_cs (s : So) (i : Nat) (c : Ce) : D.a ((eS s).fs.set 0 (.r ((s.cs.map eC).set i (eC c)))) = eS (setC s i c) := by
  rw [← List.map_set]
  rfl
theorem cs_apps (s : So) (l : List Ce) : D.a ((eS s).fs.set 0 (.r (s.cs.map eC ++ l.map eC))) = eS { s with cs := s.cs ++ l } := by
  rw [← List.map_append]
  rfl
theorem ok_cells_Put_1 : FOk q0u gAdd := fok_cut (m := mT) q3m fun N ih => fok_cells_Put_1 ih ok_cells_Symbol q2d ok_cells_kept ok_cells_Fresh q4z fun ds outs hw hg => by
  obtain ⟨d, r, rfl, hd, e, r', rfl, he, f, r2, rfl, hf, q, r3, rfl, hq, rfl⟩ := hw
  obtain ⟨t, rfl, ht⟩ := wfT hd
  obtain ⟨a, rfl, ha⟩ := wfI he
  obtain ⟨all, rfl, hal, hok⟩ := wfVs hf
  obtain ⟨s, rfl, hs⟩ := wfS hq
  simp only [cutM, mT, gAdd, List.getD_cons_zero, dT_eT, int_i, dS_eS, dVs_eVs, Option.ite_none_right_eq_some, Option.some.injEq] at hg
  obtain ⟨hsz, hA, rfl⟩ := hg
  simp only [addQ, Bool.and_eq_true, decide_eq_true_eq] at hA
  obtain ⟨hnd, hsv, hcs, hmx, hys, hamx⟩ := hA
  have hnl := (nodes_iff t).1 hnd
  obtain ⟨k, n, nm, l⟩ := t
  have hlo := loV_le n all
  have hlen := SV.len hsv
  rcases node_cases hnl.1 with ⟨rfl, rfl, h1, h2⟩ | ⟨rfl, rfl⟩ | ⟨rfl, rfl, h1⟩ | ⟨rfl, h1, h2, h3⟩
  · have hins : ∀ c : Ce, gIns [.r (all.map eV), .i (loV all n), .r [eV ⟨n, c⟩]] = some [.r ((insV all n c).map eV)] := fun c => by
      simp only [gIns, rs_r, int_i, List.length_map, List.length_singleton, Int.toNat_natCast]
      rw [if_pos ⟨trivial, by omega, by omega, by omega⟩, insV_eq]
      simp [List.map_take, List.map_drop]
    have hof := ofV_lo (v := n) hsv
    rw [addD_0]
    simp only [q1x, q02, go_br, q01, q03, allSay, X.says, X.ev, X.evs, evl, tblS, List.getD_cons_zero, List.getD_cons_succ, List.getElem?_cons_zero, List.getElem?_cons_succ, tt_b, int_i, str_s, rs_r, Option.isSome_some, Option.getD_some, decide_eq_true_eq, decide_eq_false_iff_not, dS_eS, dC_eC, dU_eU, dW_eW, dY_eY, eC_0, eC_1, eU_0, eU_1, eW_0, eW_1, eW_2, eY_0, eY_1, eS_0, eS_1, eS_2, eS_3, eS_4, eS_5, List.length_map, i_inj, b_inj, s_inj, eC_eq, eU_eq, eW_eq, eY_eq, eS_eq, rng64, List.take_succ_cons, List.take_zero, List.nil_append, List.cons_append, decide_true, decide_false, Bool.or_true, true_and, and_true, dT_eT, eT_0, eT_1, eT_2, eT_3, eT_eq, eT_z, Te.k, Te.n, Te.s, Te.l, gKept, eC_mk, eV_mk, gBin, dVs_eVs, if_pos hsv, hins]
    refine ⟨fun h => absurd h (by decide), fun _ => ⟨fun h => absurd h (by decide), fun _ => ⟨fun _ => ⟨fun ho => ?_, fun ho => ⟨fun ha0 => ?_, fun ha0 => ?_⟩⟩, fun h => (by cases h)⟩⟩⟩
    · split at hof
      · rename_i hq
        simp only [get_n eV hq.1, eV_1, hof, dC_eC]
        exact ⟨⟨by omega, by omega⟩, trivial⟩
      · rw [hof] at ho
        cases ho
    · have e : ofV all n = none := by simpa using ho
      have hn : nedT (.mk 0 n nm []) all = 1 := by
        rw [nedT, cnt_no (by decide), if_pos ⟨rfl, e⟩]
      rw [if_pos ha0, hn] at hcs
      have h4 : ¬ s.mx ≤ s.cs.length := by omega
      have h5 : s.cs.length < 8796093021952 := by omega
      simp only [gFresh, dS_eS, h4, h5, decide_false, decide_true, Bool.false_eq_true, if_false, if_true, Option.getD_some, Option.isSome_some, List.getD_cons_zero, List.getD_cons_succ, eV_mk, hins, e, ha0, true_and]
      done
    · have e : ofV all n = none := by simpa using ho
      simp only [e, if_neg ha0]
      done
  · rw [addD_1]
    simp [q1x, q02, go_br, q01, q03, allSay, X.says, X.ev, X.evs, evl, tblS, List.getD_cons_zero, List.getD_cons_succ, List.getElem?_cons_zero, List.getElem?_cons_succ, tt_b, int_i, str_s, rs_r, Option.isSome_some, Option.getD_some, decide_eq_true_eq, decide_eq_false_iff_not, dS_eS, dC_eC, dU_eU, dW_eW, dY_eY, eC_0, eC_1, eU_0, eU_1, eW_0, eW_1, eW_2, eY_0, eY_1, eS_0, eS_1, eS_2, eS_3, eS_4, eS_5, List.length_map, i_inj, b_inj, s_inj, eC_eq, eU_eq, eW_eq, eY_eq, eS_eq, rng64, List.take_succ_cons, List.take_zero, List.nil_append, List.cons_append, decide_true, decide_false, Bool.or_true, true_and, and_true, dT_eT, eT_0, eT_1, eT_2, eT_3, eT_eq, eT_z, Te.k, Te.n, Te.s, Te.l, eC_mk]
    done
  · rw [syms_2] at hys
    have hb : symBad nm 0 = false := by simp [symBad]; omega
    rw [addD_2]
    simp [q1x, q02, go_br, q01, q03, allSay, X.says, X.ev, X.evs, evl, tblS, List.getD_cons_zero, List.getD_cons_succ, List.getElem?_cons_zero, List.getElem?_cons_succ, tt_b, int_i, str_s, rs_r, Option.isSome_some, Option.getD_some, decide_eq_true_eq, decide_eq_false_iff_not, dS_eS, dC_eC, dU_eU, dW_eW, dY_eY, eC_0, eC_1, eU_0, eU_1, eW_0, eW_1, eW_2, eY_0, eY_1, eS_0, eS_1, eS_2, eS_3, eS_4, eS_5, List.length_map, i_inj, b_inj, s_inj, eC_eq, eU_eq, eW_eq, eY_eq, eS_eq, rng64, List.take_succ_cons, List.take_zero, List.nil_append, List.cons_append, decide_true, decide_false, Bool.or_true, true_and, and_true, dT_eT, eT_0, eT_1, eT_2, eT_3, eT_eq, eT_z, Te.k, Te.n, Te.s, Te.l, eC_mk, sym_N hb hys]
    done
  · rw [syms_3] at hys
    have hb : symBad nm (l.length : Nat) = false := by simp [symBad]; omega
    have hys0 : (symX s.ys ⟨nm, (l.length : Nat)⟩).length ≤ 1048576 := Nat.le_trans (symsTs_len l _) hys
    have hl8 : (l.length : Int) ≤ 16777216 := by omega
    obtain ⟨y1, y2, y3, y4, y5, y6⟩ := symN_cs s nm (l.length : Nat)
    have hcn : (s.cs.length : Int) + ((1 + l.length + cntTs l : Nat) : Int) ≤ s.mx := by
      rw [ned_no (by decide), cnt_3] at hcs
      split at hcs <;> exact hcs
    rw [addD_3, ← y1]
    rw [← y1] at hcn
    rw [← y3] at hys
    have hS := sym_N (s := s) hb hys0
    generalize symN s nm (l.length : Nat) = S at hS hys hcn y2 ⊢
    have hz : List.replicate l.length (eC ⟨0, 0⟩) = (List.replicate l.length (⟨0, 0⟩ : Ce)).map eC := by rw [List.map_replicate]
    simp only [q1x, q02, go_br, q01, q03, allSay, X.says, X.ev, X.evs, evl, tblS, List.getD_cons_zero, List.getD_cons_succ, List.getElem?_cons_zero, List.getElem?_cons_succ, tt_b, int_i, str_s, rs_r, Option.isSome_some, Option.getD_some, decide_eq_true_eq, decide_eq_false_iff_not, dS_eS, dC_eC, dU_eU, dW_eW, dY_eY, eC_0, eC_1, eU_0, eU_1, eW_0, eW_1, eW_2, eY_0, eY_1, eS_0, eS_1, eS_2, eS_3, eS_4, eS_5, List.length_map, i_inj, b_inj, s_inj, eC_eq, eU_eq, eW_eq, eY_eq, eS_eq, rng64, List.take_succ_cons, List.take_zero, List.nil_append, List.cons_append, decide_true, decide_false, Bool.or_true, true_and, and_true, dT_eT, eT_0, eT_1, eT_2, eT_3, eT_eq, eT_z, Te.k, Te.n, Te.s, Te.l, eC_mk, hS, cs_app, Int.toNat_natCast]
    refine ⟨fun h => absurd h (by decide), fun _ => ⟨fun h => absurd h (by decide), fun _ => ⟨fun h => absurd h (by decide), fun _ => ⟨by omega, ⟨by omega, by omega, by simp; omega⟩, ?_⟩⟩⟩⟩
    rw [q1y]
    refine ⟨fun st => ∃ (k : Nat) (al : List Vc) (s' : So), k ≤ l.length ∧ st = [.i k, .r (al.map eV), eS s'] ∧ SV al ∧ s'.mx = s.mx ∧ (s'.cs.length : Int) + (cntTs (l.drop k) : Int) ≤ s.mx ∧ S.2.cs.length + 1 + l.length ≤ s'.cs.length ∧ (symsTs s'.ys (l.drop k)).length ≤ 1048576 ∧ addAs (s', al) (l.drop k) (S.2.cs.length + 1 + k) = addAs ({ S.2 with cs := S.2.cs ++ (⟨4, S.1⟩ :: List.replicate l.length ⟨0, 0⟩) }, all) l (S.2.cs.length + 1), fun st => l.length - (st.getD 0 .u).int.toNat, ⟨0, all, { S.2 with cs := S.2.cs ++ (⟨4, S.1⟩ :: List.replicate l.length ⟨0, 0⟩) }, Nat.zero_le _, ?_, hsv, y2, by simp; omega, by simp; omega, hys, rfl⟩, ?_⟩
    · simp only [X.evs, q02, go_br, q01, q03, allSay, X.says, X.ev, X.evs, evl, tblS, List.getD_cons_zero, List.getD_cons_succ, List.getElem?_cons_zero, List.getElem?_cons_succ, tt_b, int_i, str_s, rs_r, Option.isSome_some, Option.getD_some, decide_eq_true_eq, decide_eq_false_iff_not, dS_eS, dC_eC, dU_eU, dW_eW, dY_eY, eC_0, eC_1, eU_0, eU_1, eW_0, eW_1, eW_2, eY_0, eY_1, eS_0, eS_1, eS_2, eS_3, eS_4, eS_5, List.length_map, i_inj, b_inj, s_inj, eC_eq, eU_eq, eW_eq, eY_eq, eS_eq, rng64, List.take_succ_cons, List.take_zero, List.nil_append, List.cons_append, decide_true, decide_false, Bool.or_true, true_and, and_true, dT_eT, eT_0, eT_1, eT_2, eT_3, eT_eq, eT_z, Te.k, Te.n, Te.s, Te.l, eC_mk, hS, cs_app, Int.toNat_natCast, hz, cs_apps]
      simp [eS, D.fs]
    rintro st - ⟨k, al, s', hk, rfl, hsv', hmx', hc', hb', hy', hP⟩
    rw [go_br]
    refine ⟨fun hlt => ?_, fun hlt => ?_⟩
    · simp only [q02, go_br, q01, q03, allSay, X.says, X.ev, X.evs, evl, tblS, List.getD_cons_zero, List.getD_cons_succ, List.getElem?_cons_zero, List.getElem?_cons_succ, tt_b, int_i, str_s, rs_r, Option.isSome_some, Option.getD_some, decide_eq_true_eq, decide_eq_false_iff_not, dS_eS, dC_eC, dU_eU, dW_eW, dY_eY, eC_0, eC_1, eU_0, eU_1, eW_0, eW_1, eW_2, eY_0, eY_1, eS_0, eS_1, eS_2, eS_3, eS_4, eS_5, List.length_map, i_inj, b_inj, s_inj, eC_eq, eU_eq, eW_eq, eY_eq, eS_eq, rng64, List.take_succ_cons, List.take_zero, List.nil_append, List.cons_append, decide_true, decide_false, Bool.or_true, true_and, and_true, dT_eT, eT_0, eT_1, eT_2, eT_3, eT_eq, eT_z, Te.l] at hlt
      have hkl : k < l.length := by omega
      have ha := arg_sz (t := .mk 3 n nm l) hkl
      simp only [Te.l] at ha
      have hto : ((S.2.cs.length : Int) + 1 + (k : Int)) = ((S.2.cs.length + 1 + k : Nat) : Int) := by omega
      have hdr := drop_get' hkl
      rw [hdr, cntTs] at hc'
      rw [hdr, symsTs] at hy'
      rw [hdr, addAs] at hP
      have hsy := Nat.le_trans (symsTs_len (l.drop (k + 1)) (symsT s'.ys (l.getD k default))) hy'
      have hnk := hnl.2 k hkl
      simp only [Te.l] at hnk
      have hQ : addQ s' al (l.getD k default) ((S.2.cs.length + 1 + k : Nat) : Int) = true := by
        have h0 : ¬ (((S.2.cs.length + 1 + k : Nat) : Int) < 0) := by omega
        simp only [addQ, if_neg h0, Bool.and_eq_true, decide_eq_true_eq]
        exact ⟨hnk, hsv', by omega, by omega, hsy, by omega⟩
      obtain ⟨g1, g2, g3, g4⟩ := addD_len (l.getD k default) (s', al) ((S.2.cs.length + 1 + k : Nat) : Int) hnk hsv'
      rw [if_neg (by omega)] at g1
      simp only [q02, go_br, q01, q03, allSay, X.says, X.ev, X.evs, evl, tblS, List.getD_cons_zero, List.getD_cons_succ, List.getElem?_cons_zero, List.getElem?_cons_succ, tt_b, int_i, str_s, rs_r, Option.isSome_some, Option.getD_some, decide_eq_true_eq, decide_eq_false_iff_not, dS_eS, dC_eC, dU_eU, dW_eW, dY_eY, eC_0, eC_1, eU_0, eU_1, eW_0, eW_1, eW_2, eY_0, eY_1, eS_0, eS_1, eS_2, eS_3, eS_4, eS_5, List.length_map, i_inj, b_inj, s_inj, eC_eq, eU_eq, eW_eq, eY_eq, eS_eq, rng64, List.take_succ_cons, List.take_zero, List.nil_append, List.cons_append, decide_true, decide_false, Bool.or_true, true_and, and_true, dT_eT, eT_0, eT_1, eT_2, eT_3, eT_eq, eT_z, Te.k, Te.n, Te.s, Te.l, hS, get_t hkl, hto, cutM, mT, gAdd, dVs_eVs, if_pos hQ, if_pos (show szT (l.getD k default) < N by omega)]
      generalize addD (s', al) (l.getD k default) ((S.2.cs.length + 1 + k : Nat) : Int) = R at g1 g2 g3 g4 hP ⊢
      simp only at g1
      simp only [q02, go_br, q01, q03, allSay, X.says, X.ev, X.evs, evl, tblS, List.getD_cons_zero, List.getD_cons_succ, List.getElem?_cons_zero, List.getElem?_cons_succ, tt_b, int_i, str_s, rs_r, Option.isSome_some, Option.getD_some, decide_eq_true_eq, decide_eq_false_iff_not, dS_eS, dC_eC, dU_eU, dW_eW, dY_eY, eC_0, eC_1, eU_0, eU_1, eW_0, eW_1, eW_2, eY_0, eY_1, eS_0, eS_1, eS_2, eS_3, eS_4, eS_5, List.length_map, i_inj, b_inj, s_inj, eC_eq, eU_eq, eW_eq, eY_eq, eS_eq, rng64, List.take_succ_cons, List.take_zero, List.nil_append, List.cons_append, decide_true, decide_false, Bool.or_true, true_and, and_true, dT_eT, eT_0, eT_1, eT_2, eT_3, eT_eq, eT_z, Int.toNat_natCast, set_cs]
      refine ⟨⟨by omega, by omega⟩, ⟨⟨by omega, by omega⟩, by omega, by omega⟩, ⟨by omega, by omega⟩, ⟨by omega, by omega⟩, ?_⟩
      rw [updB, if_pos rfl]
      refine ⟨⟨k + 1, R.2.2, setC R.2.1 (S.2.cs.length + 1 + k) R.1, by omega, by simp, g4, g3.1.trans hmx', ?_, ?_, ?_, hP⟩, ?_⟩
      · rw [setC_len, g1]
        omega
      · rw [setC_len, g1]
        omega
      · show (symsTs R.2.1.ys _).length ≤ _
        rw [g2]
        exact hy'
      · simp [D.int]
        omega
    · simp only [q02, go_br, q01, q03, allSay, X.says, X.ev, X.evs, evl, tblS, List.getD_cons_zero, List.getD_cons_succ, List.getElem?_cons_zero, List.getElem?_cons_succ, tt_b, int_i, str_s, rs_r, Option.isSome_some, Option.getD_some, decide_eq_true_eq, decide_eq_false_iff_not, dS_eS, dC_eC, dU_eU, dW_eW, dY_eY, eC_0, eC_1, eU_0, eU_1, eW_0, eW_1, eW_2, eY_0, eY_1, eS_0, eS_1, eS_2, eS_3, eS_4, eS_5, List.length_map, i_inj, b_inj, s_inj, eC_eq, eU_eq, eW_eq, eY_eq, eS_eq, rng64, List.take_succ_cons, List.take_zero, List.nil_append, List.cons_append, decide_true, decide_false, Bool.or_true, true_and, and_true, dT_eT, eT_0, eT_1, eT_2, eT_3, eT_eq, eT_z, Te.l] at hlt
      have : k = l.length := by omega
      subst this
      rw [List.drop_length, addAs] at hP
      simp only [q02, go_br, q01, q03, allSay, X.says, X.ev, X.evs, evl, tblS, List.getD_cons_zero, List.getD_cons_succ, List.getElem?_cons_zero, List.getElem?_cons_succ, tt_b, int_i, str_s, rs_r, Option.isSome_some, Option.getD_some, decide_eq_true_eq, decide_eq_false_iff_not, dS_eS, dC_eC, dU_eU, dW_eW, dY_eY, eC_0, eC_1, eU_0, eU_1, eW_0, eW_1, eW_2, eY_0, eY_1, eS_0, eS_1, eS_2, eS_3, eS_4, eS_5, List.length_map, i_inj, b_inj, s_inj, eC_eq, eU_eq, eW_eq, eY_eq, eS_eq, rng64, List.take_succ_cons, List.take_zero, List.nil_append, List.cons_append, decide_true, decide_false, Bool.or_true, true_and, and_true, dT_eT, eT_0, eT_1, eT_2, eT_3, eT_eq, eT_z, Te.k, Te.n, Te.s, Te.l, eC_mk, hS, ← hP]
end Go.Proofs.Ytinclokohcommaa


namespace Go.Proofs.Ytinclokohcommaa
open Go.RowKit
set_option linter.unusedVariables false
set_option linter.unusedSimpArgs false

def putV (s : So) (t : Te) (l : List Vc) : Ce × List Vc × Int × So :=
  if validT t && vvP s l then (if roomB s t l then ((addD (s, l) t (-1)).1, (addD (s, l) t (-1)).2.2, 0, (addD (s, l) t (-1)).2.1) else (⟨0, 0⟩, [], 13, s)) else (⟨0, 0⟩, [], 1, s)
def gPut : List D → Option (List D)
  | [s, t, l] => if validR (dS s) then some [eC (putV (dS s) (dT t) (dVs l)).1, .r ((putV (dS s) (dT t) (dVs l)).2.1.map eV), .i (putV (dS s) (dT t) (dVs l)).2.2.1, eS (putV (dS s) (dT t) (dVs l)).2.2.2] else none
  | _ => none
theorem vr_hd {s : So} (h : validR s = true) : 1 ≤ s.mx ∧ s.mx ≤ 1048576 ∧ (s.cs.length : Int) ≤ s.mx ∧ s.ys.length ≤ 1048576 := by
  have h := vr_head h
  simp only [headB, symsB, Bool.and_eq_true, decide_eq_true_eq] at h
  omega
theorem room_add {s : So} {t : Te} {l : List Vc} (hs : validR s = true) (ht : validT t = true) (hl : vvP s l = true) (hr : roomB s t l = true) : addQ s l t (-1) = true := by
  obtain ⟨h1, h2, h3, h4⟩ := vr_hd hs
  simp only [validT, Bool.and_eq_true, decide_eq_true_eq] at ht
  simp only [roomB, Bool.and_eq_true, decide_eq_true_eq] at hr
  have hv := visM_T t s.ys []
  rw [List.append_nil] at hv
  have hv' := congrArg List.length hv
  rw [List.length_append] at hv'
  simp only [addQ, Bool.and_eq_true, decide_eq_true_eq]
  exact ⟨ht.2, (vvP_iff.1 hl).1, by rw [if_pos (by decide)]; omega, h2, by omega, by decide⟩
theorem ok_cells_Put : FOk q1c gPut := fok_cells_Put ok_cells_Put_1 ok_term_Valid ok_cells_validVars ok_cells_room ok_slices_Clone_VarCell fun ds outs hw hg => by
  obtain ⟨d, r, rfl, hd, e, r', rfl, he, f, r2, rfl, hf, rfl⟩ := hw
  obtain ⟨s, rfl, hs⟩ := wfS hd
  obtain ⟨t, rfl, ht⟩ := wfT he
  obtain ⟨l, rfl, hl, hok⟩ := wfVs hf
  simp only [gPut, dS_eS, dT_eT, dVs_eVs, Option.ite_none_right_eq_some, Option.some.injEq] at hg
  obtain ⟨hv, rfl⟩ := hg
  obtain ⟨h1, h2, h3, h4⟩ := vr_hd hv
  have hz : D.a [.i 0, .i 0] = eC ⟨0, 0⟩ := rfl
  have hR : roomB s t l = true → validT t = true → vvP s l = true → addQ s l t (-1) = true := fun a b c => room_add hv b c a
  have hgr : validT t = true → vvP s l = true → gRoom [eS s, eT t, .r (l.map eV)] = some [.b (roomB s t l)] := fun a b => by
    simp only [validT, Bool.and_eq_true, decide_eq_true_eq] at a
    simp only [gRoom, dS_eS, dT_eT, dVs_eVs]
    rw [if_pos ⟨a.2, a.1, (vvP_iff.1 b).1, by omega, by omega, h4⟩]
  simp only [q3i, q02, go_br, q01, q03, allSay, X.says, X.ev, X.evs, evl, tblS, List.getD_cons_zero, List.getD_cons_succ, List.getElem?_cons_zero, List.getElem?_cons_succ, tt_b, int_i, str_s, rs_r, Option.isSome_some, Option.getD_some, decide_eq_true_eq, decide_eq_false_iff_not, dS_eS, dC_eC, dU_eU, dW_eW, dY_eY, eC_0, eC_1, eU_0, eU_1, eW_0, eW_1, eW_2, eY_0, eY_1, eS_0, eS_1, eS_2, eS_3, eS_4, eS_5, List.length_map, i_inj, b_inj, s_inj, eC_eq, eU_eq, eW_eq, eY_eq, eS_eq, rng64, List.take_succ_cons, List.take_zero, List.nil_append, List.cons_append, decide_true, decide_false, Bool.or_true, true_and, and_true, dT_eT, eT_0, eT_1, eT_2, eT_3, eT_eq, eT_z, gTb, gVV, gCl, rowQ_r, hl, hz, dVs_eVs, putV]
  cases hvt : validT t
  · simp
  cases hvl : vvP s l
  · simp
  simp only [hgr hvt hvl]
  cases hrm : roomB s t l
  · simp [D.tt]
  simp [gAdd, dS_eS, dT_eT, dVs_eVs, D.int, D.tt, hR hrm hvt hvl]
end Go.Proofs.Ytinclokohcommaa


namespace Go.Proofs.Ytinclokohcommaa
open Go.RowKit
set_option linter.unusedVariables false
set_option linter.unusedSimpArgs false
set_option maxRecDepth 100000

abbrev nS : TypeId := match T_Store with
  | .st S => S
  | _ => 0
theorem flSt : flds nS = some [.row 37, .row 72, .row 80, .row 82, .int .i64, .int .i64] := by kernel_rfl
theorem ownSt : ownAll 0 T_Store = [(0, 1), (1, 2), (2, 3), (3, 4)] := by kernel_rfl
theorem tySy : tyOf 72 = some T_Symbol := by kernel_rfl
theorem tySys : tyOf 23 = some (.row 72) := by kernel_rfl
abbrev nY : TypeId := match T_Symbol with
  | .st S => S
  | _ => 0
theorem flSy : flds nY = some [.str, .int .i64] := by kernel_rfl
theorem wSy : T_Symbol.w = 2 := by kernel_rfl
theorem lmSy : LM T_Symbol = 5864062014634 := by kernel_rfl

section
variable {A : Nat → Prop} {p : Pins} {w : World} {dep : List Nat}
theorem fl_row {pin E : Nat} {te : Ty} (hte : tyOf E = some te) {l : List D} {cs : List Value} (h : Fl A p w dep (some pin) (.r l) (.row E) cs) : ∃ v, cs = [v] ∧ OwnR A p w dep pin E te l v := by
  rcases h with ⟨E', te', l', v, e, hte', e2, rfl, hv⟩ | ⟨K, V, kt, vt, l', g, es, clock, e, -⟩
  · injection e with e
    subst e
    injection e2 with e2
    subst e2
    obtain rfl := Option.some.inj (hte.symm.trans hte')
    exact ⟨v, rfl, hv⟩
  · cases e
theorem fl_int {n : Int} {cs : List Value} (h : Fl A p w dep none (.i n) (.int .i64) cs) : cs = [.int .i64 n] ∧ rngB .i64 n = true := by
  obtain ⟨k, e, h1, h2⟩ := h
  injection e with e
  subst e
  exact ⟨h1, h2⟩

theorem con_store {s : So} {cs : List Value} {tC tU tW : Ty} (hC : tyOf 37 = some tC) (hU : tyOf 80 = some tU) (hW : tyOf 82 = some tW) (h : Con A p w (eS s) T_Store (ownAll 0 T_Store) [] cs) :
    ∃ v0 v1 v2 v3, cs = [v0, v1, v2, v3, .int .i64 s.ser, .int .i64 s.mx] ∧ OwnR A p w [] 1 37 tC (s.cs.map eC) v0 ∧ OwnR A p w [] 2 72 T_Symbol (s.ys.map eY) v1 ∧ OwnR A p w [] 3 80 tU (s.tr.map eU) v2 ∧ OwnR A p w [] 4 82 tW (s.wk.map eW) v3 ∧ rngB .i64 s.ser = true ∧ rngB .i64 s.mx = true := by
  rw [ownSt] at h
  obtain ⟨fs, ds, hf, e, t0, ts0, c0, r0, e0, q0, h0, t1, ts1, c1, r1, e1, q1, h1, t2, ts2, c2, r2, e2, q2, h2, t3, ts3, c3, r3, e3, q3, h3, t4, ts4, c4, r4, e4, q4, h4, t5, ts5, c5, r5, e5, q5, h5, hn⟩ : ∃ fs ds, flds nS = some fs ∧ eS s = .a ds ∧ ∃ t0 ts0 c0 r0, fs = t0 :: ts0 ∧ cs = c0 ++ r0 ∧ Fl A p w [] (some 1) (.r (s.cs.map eC)) t0 c0 ∧ ∃ t1 ts1 c1 r1, ts0 = t1 :: ts1 ∧ r0 = c1 ++ r1 ∧ Fl A p w [] (some 2) (.r (s.ys.map eY)) t1 c1 ∧ ∃ t2 ts2 c2 r2, ts1 = t2 :: ts2 ∧ r1 = c2 ++ r2 ∧ Fl A p w [] (some 3) (.r (s.tr.map eU)) t2 c2 ∧ ∃ t3 ts3 c3 r3, ts2 = t3 :: ts3 ∧ r2 = c3 ++ r3 ∧ Fl A p w [] (some 4) (.r (s.wk.map eW)) t3 c3 ∧ ∃ t4 ts4 c4 r4, ts3 = t4 :: ts4 ∧ r3 = c4 ++ r4 ∧ Fl A p w [] none (.i s.ser) t4 c4 ∧ ∃ t5 ts5 c5 r5, ts4 = t5 :: ts5 ∧ r4 = c5 ++ r5 ∧ Fl A p w [] none (.i s.mx) t5 c5 ∧ ts5 = [] ∧ r5 = [] := by
    obtain ⟨fs, ds, hf, e, h⟩ := h
    have e' := e
    unfold eS at e'
    injection e' with e'
    subst e'
    exact ⟨fs, _, hf, e, h⟩
  rw [flSt] at hf
  obtain rfl := Option.some.inj hf
  obtain ⟨rfl, rfl⟩ := List.cons.inj e0
  obtain ⟨rfl, rfl⟩ := List.cons.inj e1
  obtain ⟨rfl, rfl⟩ := List.cons.inj e2
  obtain ⟨rfl, rfl⟩ := List.cons.inj e3
  obtain ⟨rfl, rfl⟩ := List.cons.inj e4
  obtain ⟨rfl, rfl⟩ := List.cons.inj e5
  obtain ⟨v0, rfl, g0⟩ := fl_row hC h0
  obtain ⟨v1, rfl, g1⟩ := fl_row tySy h1
  obtain ⟨v2, rfl, g2⟩ := fl_row hU h2
  obtain ⟨v3, rfl, g3⟩ := fl_row hW h3
  obtain ⟨rfl, g4⟩ := fl_int h4
  obtain ⟨rfl, g5⟩ := fl_int h5
  obtain ⟨-, rfl⟩ := hn
  refine ⟨v0, v1, v2, v3, ?_, g0, g1, g2, g3, g4, g5⟩
  rw [q0, q1, q2, q3, q4, q5]
  rfl
theorem con_mk {s : So} {tC tU tW : Ty} (hC : tyOf 37 = some tC) (hU : tyOf 80 = some tU) (hW : tyOf 82 = some tW) {v0 v1 v2 v3 : Value} (h0 : OwnR A p w [] 1 37 tC (s.cs.map eC) v0) (h1 : OwnR A p w [] 2 72 T_Symbol (s.ys.map eY) v1) (h2 : OwnR A p w [] 3 80 tU (s.tr.map eU) v2) (h3 : OwnR A p w [] 4 82 tW (s.wk.map eW) v3) (h4 : rngB .i64 s.ser = true) (h5 : rngB .i64 s.mx = true) :
    Con A p w (eS s) T_Store (ownAll 0 T_Store) [] [v0, v1, v2, v3, .int .i64 s.ser, .int .i64 s.mx] := by
  rw [ownSt]
  refine ⟨_, _, flSt, rfl, .row 37, _, [v0], [v1, v2, v3, .int .i64 s.ser, .int .i64 s.mx], rfl, rfl, .inl ⟨_, tC, _, v0, rfl, hC, rfl, rfl, h0⟩, .row 72, _, [v1], [v2, v3, .int .i64 s.ser, .int .i64 s.mx], rfl, rfl, .inl ⟨_, _, _, v1, rfl, tySy, rfl, rfl, h1⟩, .row 80, _, [v2], [v3, .int .i64 s.ser, .int .i64 s.mx], rfl, rfl, .inl ⟨_, tU, _, v2, rfl, hU, rfl, rfl, h2⟩, .row 82, _, [v3], [.int .i64 s.ser, .int .i64 s.mx], rfl, rfl, .inl ⟨_, tW, _, v3, rfl, hW, rfl, rfl, h3⟩, .int .i64, _, [.int .i64 s.ser], [.int .i64 s.mx], rfl, rfl, ⟨.i64, rfl, rfl, h4⟩, .int .i64, [], [.int .i64 s.mx], [], rfl, rfl, ⟨.i64, rfl, rfl, h5⟩, rfl, rfl⟩
end

def gSymR : List D → Option (List D)
  | [s, nm, ar] => if (dS s).ys.length < 5864062014634 then some [.i (symN (dS s) nm.str ar.int).1, eS (symN (dS s) nm.str ar.int).2] else none
  | _ => none

theorem sym_keep (A : Nat → Prop) (p : Pins) (w : World) (vs us : List Value) (ds outs : List D) (hg : gSymR ds = some outs) (hpre : Pre q0g.ar.length A p w) (hvl : vs.length = q0g.ar.length) (hargs : ArgsOk (vs ++ us) A p w q0g.all (vs ++ us) ds) :
    Calls Try.prog q0g.f vs.toArray w fun e w' => ∃ rs p', e = .returned (retV rs) ∧ Bs A w (pinned p) p' w' ∧ ResL A p' w' q0g.rs q0g.ar.length rs (outs.take q0g.rs.length) ∧ RefL A p p' w' q0g.all (outs.drop q0g.rs.length) ∧ Kpt q0g.kp p p' w w' := by
  obtain ⟨hwf, -, -⟩ := hargs.wf
  rw [all_map] at hwf
  obtain ⟨d, r, rfl, hd, e, r', rfl, he, f, r2, rfl, hf', rfl⟩ := hwf
  obtain ⟨s, rfl, hs⟩ := wfS hd
  obtain ⟨nm, rfl, hn⟩ := he.str
  obtain ⟨ar, rfl, ha⟩ := wfI hf'
  simp only [gSymR, dS_eS, str_s, int_i, Option.ite_none_right_eq_some, Option.some.injEq] at hg
  obtain ⟨hlen, rfl⟩ := hg
  obtain ⟨x0, r0, d0, ds0, e0, e00, ⟨gv, cs, TS, hp0, rfl, hgv, hcon⟩, x1, r1, d1, ds1, e1, e11, ⟨cs1, hpk1, hc1⟩, x2, r2, d2, ds2, e2', e22, ⟨cs2, hpk2, hc2⟩, hr⟩ := hargs
  obtain rfl : r2 = [] := hr.1
  subst e1 e2'
  obtain ⟨rfl, rfl⟩ := List.cons.inj e00
  obtain ⟨rfl, rfl⟩ := List.cons.inj e11
  obtain ⟨rfl, -⟩ := List.cons.inj e22
  clear e00 e11 e22 hr
  obtain ⟨rfl, rfl⟩ : vs = [.pointer (some ⟨gv, 0, none⟩), x1, x2] ∧ us = [] := by
    have hl3 : vs.length = 3 := hvl
    have hus : us.length = 0 := by
      have := congrArg List.length e0
      simp at this
      omega
    obtain rfl := List.length_eq_zero_iff.1 hus
    exact ⟨by simpa using e0, rfl⟩
  clear e0
  obtain ⟨-, rfl, hnm⟩ : D.str (.s nm) = nm ∧ cs1 = [.string nm] ∧ nm.size ≤ LIM := ⟨rfl, hc1.2.1, hc1.2.2⟩
  obtain rfl : Value.string nm = x1 := (List.cons.inj hpk1).1
  obtain ⟨k2, ek2, rfl, hra⟩ := hc2
  injection ek2 with ek2
  subst ek2
  obtain rfl : Value.int .i64 ar = x2 := (List.cons.inj hpk2).1
  obtain ⟨tC, hC⟩ : ∃ t, tyOf 37 = some t := ⟨T_Cell, by kernel_rfl⟩
  obtain ⟨tU, hU⟩ : ∃ t, tyOf 80 = some t := ⟨T_Undo, by kernel_rfl⟩
  obtain ⟨tW, hW⟩ : ∃ t, tyOf 82 = some t := ⟨T_Wake, by kernel_rfl⟩
  obtain ⟨v0, v1, v2, v3, hcs, o0, o1, o2, o3, i4, i5⟩ := con_store hC hU hW hcon
  have hp0 : p 0 = some gv := hp0
  obtain rfl : cs = #[v0, v1, v2, v3, .int .i64 s.ser, .int .i64 s.mx] := by
    apply Array.ext'
    exact hcs
  obtain ⟨A1, l1, c1, rfl, hl1⟩ : ∃ A1 l1 c1, v1 = .slice A1 l1 c1 ∧ l1 = s.ys.length := by
    rcases o1 with ⟨rfl, h⟩ | ⟨g, cap, cur, rfl, -⟩
    · exact ⟨_, _, _, rfl, by have := congrArg List.length h; simp at this; simp [this]⟩
    · exact ⟨_, _, _, rfl, by simp⟩
  have hflat : flatB 8 T_Symbol = true := by kernel_rfl
  have hy : ∀ (W : World) (F : Nat → Prop), Rd W F (eY ⟨nm, ar⟩) T_Symbol [.string nm, .int .i64 ar] := fun W F => ⟨nY, _, rfl, flSy, .str, _, [.string nm], [.int .i64 ar], rfl, rfl, ⟨rfl, rfl, hnm⟩, .int .i64, [], [.int .i64 ar], [], rfl, rfl, ⟨.i64, rfl, rfl, hra⟩, rfl, rfl⟩
  have hrd : Rd w (FFD A (fun _ => none) []) (eS s) T_Store [v0, .slice A1 l1 c1, v2, v3, .int .i64 s.ser, .int .i64 s.mx] :=
    Rd.mono (fun b _ hb => by
      rcases hb with ⟨h, -⟩ | ⟨x, -, h⟩
      · exact .inl ⟨h, fun x hx => by cases hx⟩
      · exact .inl ⟨hpre.pa x b h, fun x hx => by cases hx⟩) (hcon.rd (dep' := (ownAll 0 T_Store).map (·.2)) (fun _ h => by cases h) (fun _ h => h))
  have hfind : Calls Try.prog 53 #[.agg #[v0, .slice A1 l1 c1, v2, v3, .int .i64 s.ser, .int .i64 s.mx], .string nm, .int .i64 ar] w fun e w' => e = .returned (.int .i64 (findS s nm ar)) ∧ But Nil w w' := by
    refine (ok_ref30_Find.call A (fun _ => none) w [.agg #[v0, .slice A1 l1 c1, v2, v3, .int .i64 s.ser, .int .i64 s.mx], .string nm, .int .i64 ar] [] [eS s, .s nm, .i ar] _ rfl ⟨by simp, by simp, by simp, by simp, hpre.new, by simp⟩ rfl
      ⟨_, _, _, _, rfl, rfl, ⟨_, rfl, hrd⟩, _, _, _, _, rfl, rfl, ⟨[.string nm], rfl, rfl, rfl, hnm⟩, _, _, _, _, rfl, rfl, ⟨[.int .i64 ar], rfl, .i64, rfl, rfl, hra⟩, rfl, rfl⟩).mono ?_
    rintro e w' (⟨T, hT, -⟩ | ⟨rs, p', rfl, hb, ⟨v, r, d, ds', rfl, hd', ⟨cs', hpk, hcn⟩, hr0⟩, -⟩)
    · cases hT
    · obtain rfl : r = [] := hr0
      obtain ⟨rfl, -⟩ := List.cons.inj hd'
      obtain ⟨k, ek, rfl, -⟩ := hcn
      injection ek with ek
      subst ek
      obtain rfl : Value.int .i64 (findS (dS (eS s)) (D.s nm).str (D.i ar).int) = v := (List.cons.inj hpk).1
      exact ⟨by rw [dS_eS]; rfl, hb.but.mono fun i ⟨x, hx⟩ _ => by cases hx⟩
  have hst1 : ∀ {w1 : World}, But Nil w w1 → Stab A no no p w p w1 := fun {w1} hb1 => ⟨hb1.size, fun b hlt _ hf => ⟨hb1.block b hlt id, hf⟩, fun _ _ _ h => h, fun x b _ hx => hb1.block b (hpre.bd x b hx) id⟩
  have hbs1 : ∀ {w1 : World}, But Nil w w1 → Bs A w (pinned p) p w1 := fun {w1} hb1 => ⟨hpre.inj, fun x b hx => Nat.lt_of_lt_of_le (hpre.bd x b hx) hb1.size, hb1.of_nil, fun x b hx => .inl ⟨x, hx⟩, hpre.new, hpre.pa, fun x b hx => (hpre.obj x b hx).same (hb1.block b (hpre.bd x b hx) id)⟩
  refine (sym_any w gv v0 v2 v3 (.int .i64 s.ser) (.int .i64 s.mx) TS A1 l1 c1 (by omega) hgv nm ar (findS s nm ar) hfind (K := fun v' w2 => ∃ w1 p', But Nil w w1 ∧ AppOut A w (pinned p) p w1 (some 2) 2 72 T_Symbol (s.ys.map eY).length [.string nm, .int .i64 ar] [eY ⟨nm, ar⟩].length v' p' w2) fun hneg w1 ty hb1 hcell hge => ?_).mono ?_
  · have o1' := o1.kept (hst1 hb1) (fun x hx => by cases hx) ⟨rfl, rfl⟩
    obtain ⟨v', p', w2, hr, hap⟩ := run_app (T := 23) tySys tySy (pin := some 2) (P' := 2) (hbs1 hb1) (fun _ _ => rfl) (n := (s.ys.map eY).length) (m := [eY ⟨nm, ar⟩].length) (cb := 1) (va := .slice A1 l1 c1) (by
        rcases o1' with ⟨h1, h2⟩ | ⟨g, cap, cur, h1, h2, h3, h4, h5, h6, h7, -⟩
        · exact .inl ⟨h1, by rw [h2]; rfl⟩
        · exact .inr ⟨2, g, cap, cur, rfl, h1, h2, h3, h4, h5, h6⟩) (Ab := some ⟨w1.heap.size - 1, 0, none⟩) (news := [.string nm, .int .i64 ar]) (by rw [wSy]; rfl) (fun ad h j u hj => by
        injection h with h
        subst h
        rw [Addr.add_lit, Nat.zero_add, cell_of_row w1 _ j _ _ (0, 0) hcell]
        simpa using hj) (fun h => by cases h) (fun c hc => by simp at hc; rcases hc with rfl | rfl <;> rfl) (by rw [lmSy, List.length_map]; simp; omega) ty
    obtain ⟨A2, l2, c2, rfl⟩ : ∃ A2 l2 c2, v' = .slice A2 l2 c2 := by
      rcases hap.res with ⟨rfl, -⟩ | ⟨g', cap', cur', rfl, -⟩ <;> exact ⟨_, _, _, rfl⟩
    exact ⟨A2, l2, c2, w2, hr, ⟨w1, p', hb1, hap⟩, (hap.stab.con 0 gv rfl hp0).trans (hb1.block gv (lt_of_heap hgv) id)⟩
  · rintro e w' (⟨h0, rfl, hb⟩ | ⟨h0, rfl, v', w2, ⟨w1, p', hb1, hap⟩, rfl⟩)
    · have hN : symN s nm ar = (findS s nm ar, s) := by unfold symN; rw [if_pos h0]
      rw [hN]
      have hrn : rngB .i64 (findS s nm ar) = true := by
        rcases fnd_rng (nm := nm) (ar := ar) 0 s.ys with h | ⟨h1, h2⟩
        · exact absurd (show 0 ≤ fnd nm ar 0 s.ys from h0) (by omega)
        · show rngB .i64 (fnd nm ar 0 s.ys) = true
          simp [rngB]
          omega
      refine ⟨[.int .i64 (findS s nm ar)], p, rfl, hbs1 hb, ⟨_, _, _, _, rfl, rfl, ⟨[.int .i64 (findS s nm ar)], rfl, .i64, rfl, rfl, hrn⟩, rfl⟩, ⟨_, _, rfl, ⟨gv, _, TS, hp0, hp0, (hb.block gv (lt_of_heap hgv) id).trans hgv, hcon.kept (hst1 hb) (fun x hx => by cases hx) fun _ _ => ⟨rfl, rfl⟩⟩, rfl⟩, fun q hq b hb' => ⟨hb', hb.block b (hpre.bd q b hb') id⟩⟩
    · have hN : symN s nm ar = (((s.ys.length : Nat) : Int), ({ s with ys := s.ys ++ [⟨nm, ar⟩] } : So)) := by unfold symN; rw [if_neg (by omega)]
      rw [hN]
      have hg2 : w2.heap[gv]? = some (.cells #[v0, .slice A1 l1 c1, v2, v3, .int .i64 s.ser, .int .i64 s.mx] TS (0, 0)) := ((hap.stab.con 0 gv rfl hp0).trans (hb1.block gv (lt_of_heap hgv) id)).trans hgv
      have hp0' : p' 0 = some gv := hap.stab.loc 0 gv rfl hp0
      have hg3 : (w2.setCell ⟨gv, 1, none⟩ v').heap[gv]? = some (.cells #[v0, v', v2, v3, .int .i64 s.ser, .int .i64 s.mx] TS (0, 0)) := by
        have := set_blk (i := 1) hg2 v'
        simpa using this
      have hne : ∀ {k : Nat}, k ≠ gv → (w2.setCell ⟨gv, 1, none⟩ v').heap[k]? = w2.heap[k]? := fun {k} hk => Below.heap_setCell _ _ _ _ hk
      have hsz : (w2.setCell ⟨gv, 1, none⟩ v').heap.size = w2.heap.size := by simp [World.setCell]
      have hst : Stab A (fun x => Nat.beq x 0 || Nat.beq x 2) (fun x => Nat.beq x 2) p w p' (w2.setCell ⟨gv, 1, none⟩ v') := by
        refine ⟨by rw [hsz]; exact Nat.le_trans hb1.size hap.stab.size, fun b hlt ha' hf => ?_, fun x b hl hx => hap.stab.loc x b (by show (Nat.beq x 2 || Nat.beq x 2) = false; rw [show Nat.beq x 2 = false from hl]; rfl) hx, fun x b hz hx => ?_⟩
        · obtain ⟨q1, q2⟩ := hap.stab.free b (Nat.lt_of_lt_of_le hlt hb1.size) ha' hf
          exact ⟨((hne (fun e : b = gv => hf 0 (by rw [e]; exact hp0))).trans q1).trans (hb1.block b hlt id), q2⟩
        · simp only [Bool.or_eq_false_iff] at hz
          have hb0 : b ≠ gv := fun e => by
            subst e
            have := hpre.inj x 0 b hx hp0
            subst this
            simp at hz
          exact ((hne hb0).trans (hap.stab.con x b (by show (Nat.beq x 2 || Nat.beq x 2) = false; rw [hz.2]; rfl) hx)).trans (hb1.block b (hpre.bd x b hx) id)
      have hst2 : Stab A (fun x => Nat.beq x 0) no p' w2 p' (w2.setCell ⟨gv, 1, none⟩ v') := by
        refine ⟨by rw [hsz]; exact Nat.le_refl _, fun b hlt ha' hf => ⟨hne (fun e : b = gv => hf 0 (by rw [e]; exact hp0')), hf⟩, fun x b _ hx => hx, fun x b hz hx => hne fun e => ?_⟩
        subst e
        have := hap.bs.inj x 0 b hx hp0'
        subst this
        simp at hz
      have hown := AppOut.own (c := cxA [] q0g A p [] [] []) tySy (la := s.ys.map eY) (lb := [eY ⟨nm, ar⟩]) hap (dep := []) (by rw [lmSy, List.length_map]; simp; omega) (by rw [wSy]; rfl) (fun j hj => by
          have hj0 : j = 0 := by simpa using hj
          subst hj0
          rw [wSy]
          exact hy _ _) (fun x g hx hg j hj => by
          injection hx with hx
          subst hx
          rcases o1.kept (hst1 hb1) (fun x hx => by cases hx) ⟨rfl, rfl⟩ with ⟨-, h⟩ | ⟨g', cap, cur, -, h2, -, -, -, -, -, h5⟩
          · rw [h] at hj
            cases hj
          · obtain rfl := Option.some.inj (hg.symm.trans h2)
            obtain ⟨vs, q1, q2⟩ := h5 j hj
            exact ⟨vs, q1, Rd.flat 8 _ hflat q2⟩)
      have hown' := hown.kept hst2 (fun x hx => by cases hx) ⟨rfl, rfl⟩
      have hbs : Bs A w (pinned p) p' (w2.setCell ⟨gv, 1, none⟩ v') := ⟨hap.bs.inj, fun x b hx => by rw [hsz]; exact hap.bs.bd x b hx, hap.bs.but.setCell (.inl ⟨0, hp0⟩) _, hap.bs.pin, hap.bs.new, hap.bs.pa, fun x b hx => by
        by_cases e : b = gv
        · subst e
          exact .inl ⟨_, _, hg3⟩
        · exact (hap.bs.obj x b hx).same (hne e)⟩
      refine ⟨[.int .i64 l1], p', rfl, hbs, ⟨_, _, _, _, rfl, rfl, ⟨[.int .i64 l1], rfl, .i64, rfl, by rw [hl1], by simp [rngB]; omega⟩, rfl⟩, ⟨_, _, rfl, ⟨gv, _, TS, hp0, hp0', hg3, ?_⟩, rfl⟩, fun q hq b hb' => ?_⟩
      · refine con_mk (s := { s with ys := s.ys ++ [⟨nm, ar⟩] }) hC hU hW (o0.kept hst (fun x hx => by cases hx) ⟨rfl, rfl⟩) ?_ (o2.kept hst (fun x hx => by cases hx) ⟨rfl, rfl⟩) (o3.kept hst (fun x hx => by cases hx) ⟨rfl, rfl⟩) i4 i5
        show OwnR _ _ _ _ _ _ _ ((s.ys ++ [(⟨nm, ar⟩ : Sy)]).map eY) _
        rw [List.map_append]
        exact hown'
      · obtain rfl : q = 1 := by simpa [q0g] using hq
        exact ⟨hst.loc 1 b rfl hb', hst.con 1 b rfl hb'⟩
theorem ok_ref30_symbol : FOk q0g gSymR :=
  ⟨enter_ref30_symbol, fun A p w vs us ds outs hg hpre hvl hargs => (sym_keep A p w vs us ds outs hg hpre hvl hargs).mono fun e w' ⟨rs, p', h1, h2, h3, h4, _⟩ => .inr ⟨rs, p', h1, h2, h3, h4⟩,
    fun _ A p w vs us ds outs hg hpre hvl hargs => (sym_keep A p w vs us ds outs hg hpre hvl hargs).mono fun e w' h => .inr h⟩
end Go.Proofs.Ytinclokohcommaa

