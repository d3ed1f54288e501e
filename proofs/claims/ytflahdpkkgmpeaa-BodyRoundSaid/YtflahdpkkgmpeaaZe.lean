/-
  Lemmas of the walk and plain laws, put together. No condition.
-/
import Derived.Defers
import Derived.Recover
import Derived.TacticsInMore
import Derived.WalkLawsBesides
import Derived.Test.YtflahdpkkgmpeaaZd
namespace Go.Proofs.Ytflahdpkkgmpeaa
open Go.RowKit
set_option linter.unusedVariables false

abbrev i64 (n : Int) : Prop := -9223372036854775808 ≤ n ∧ n ≤ 9223372036854775807
theorem wfI {d : D} (h : Wf d (.int .i64)) : ∃ n, d = .i n ∧ i64 n := by
  obtain ⟨n, rfl, hn⟩ := h.int
  exact ⟨n, rfl, rng64.1 hn⟩
end Go.Proofs.Ytflahdpkkgmpeaa

namespace Go.Proofs.Ytflahdpkkgmpeaa
open Go.RowKit
set_option linter.unusedVariables false
set_option linter.unusedSimpArgs false

/-- A term: kind, number, name, arguments. -/
inductive Te where
  | mk (k n : Int) (s : ByteArray) (l : List Te)
instance : Inhabited Te := ⟨.mk 0 0 ⟨#[]⟩ []⟩
def Te.k : Te → Int | .mk k _ _ _ => k
def Te.n : Te → Int | .mk _ n _ _ => n
def Te.s : Te → ByteArray | .mk _ _ s _ => s
def Te.l : Te → List Te | .mk _ _ _ l => l

mutual
theorem Te.ind0 {P : Te → Prop} (h : ∀ k n s l, (∀ t ∈ l, P t) → P (.mk k n s l)) : ∀ t, P t
  | .mk k n s l => h k n s l (Te.inds h l)
theorem Te.inds {P : Te → Prop} (h : ∀ k n s l, (∀ t ∈ l, P t) → P (.mk k n s l)) : ∀ (l : List Te), ∀ t ∈ l, P t
  | [], _, ht => by cases ht
  | u :: l, t, ht => by
    exact (List.mem_cons.1 ht).elim (fun e => e ▸ Te.ind0 h u) fun h' => Te.inds h l t h'
end
theorem Te.ind {P : Te → Prop} (h : ∀ k n s l, (∀ t ∈ l, P t) → P (.mk k n s l)) (t : Te) : P t := Te.ind0 h t

mutual
def eT : Te → D
  | .mk k n s l => .a [.i k, .i n, .s s, .r (eTs l)]
def eTs : List Te → List D
  | [] => []
  | t :: l => eT t :: eTs l
end
theorem eTs_map : ∀ l, eTs l = l.map eT
  | [] => rfl
  | t :: l => by rw [eTs, eTs_map l, List.map_cons]
theorem eT_mk (k n : Int) (s : ByteArray) (l : List Te) : eT (.mk k n s l) = .a [.i k, .i n, .s s, .r (l.map eT)] := by rw [eT, eTs_map]
mutual
def dT : D → Te
  | .a [.i k, .i n, .s s, .r l] => .mk k n s (dTs l)
  | _ => .mk 0 0 ⟨#[]⟩ []
def dTs : List D → List Te
  | [] => []
  | d :: l => dT d :: dTs l
end
mutual
theorem dT_eT : ∀ t, dT (eT t) = t
  | .mk k n s l => by simp only [eT, dT, dTs_eTs l]
theorem dTs_eTs : ∀ l, dTs (eTs l) = l
  | [] => rfl
  | t :: l => by simp only [eTs, dTs, dT_eT t, dTs_eTs l]
end
theorem eT_inj {t u : Te} (h : eT t = eT u) : t = u := by rw [← dT_eT t, h, dT_eT u]
theorem eT_eq (t u : Te) : (eT t = eT u) = (t = u) := propext ⟨eT_inj, fun h => h ▸ rfl⟩
theorem eT_0 (t : Te) : (eT t).fld 0 = .i t.k := by cases t; rfl
theorem eT_1 (t : Te) : (eT t).fld 1 = .i t.n := by cases t; rfl
theorem eT_2 (t : Te) : (eT t).fld 2 = .s t.s := by cases t; rfl
theorem eT_3 (t : Te) : (eT t).fld 3 = .r (t.l.map eT) := by cases t; rw [eT_mk]; rfl
theorem eT_a (t : Te) : D.a [.i t.k, .i t.n, .s t.s, .r (t.l.map eT)] = eT t := by cases t; rw [eT_mk]; rfl
theorem eT_s3 (k n : Int) (s : ByteArray) (l m : List Te) : D.a ((eT (.mk k n s l)).fs.set 3 (.r (m.map eT))) = eT (.mk k n s m) := by rw [eT_mk, eT_mk]; rfl
theorem eT_snoc (k n : Int) (s : ByteArray) (l : List Te) (x : Te) : D.a ((eT (.mk k n s l)).fs.set 3 (.r (l.map eT ++ [eT x]))) = eT (.mk k n s (l ++ [x])) := by
  rw [eT_mk, eT_mk]
  simp [D.fs]
def zT : Te := .mk 0 0 ⟨#[]⟩ []
theorem eT_z : D.a [.i 0, .i 0, .s ⟨#[]⟩, .r []] = eT zT := rfl

mutual
def szT : Te → Nat
  | .mk _ _ _ l => szTs l + 1
def szTs : List Te → Nat
  | [] => 0
  | t :: l => szT t + szTs l
end
theorem szT_pos (t : Te) : 1 ≤ szT t := by cases t; rw [szT]; omega
theorem szTs_mem {t : Te} : ∀ {l : List Te}, t ∈ l → szT t ≤ szTs l
  | u :: l, h => by
    rcases List.mem_cons.1 h with rfl | h
    · rw [szTs]; omega
    · have := szTs_mem h; rw [szTs]; omega
theorem szT_arg {t u : Te} (h : u ∈ t.l) : szT u < szT t := by
  cases t
  have := szTs_mem h
  rw [szT]
  exact Nat.lt_succ_of_le this
theorem szTs_app : ∀ (l m : List Te), szTs (l ++ m) = szTs l + szTs m
  | [], m => by simp [szTs]
  | t :: l, m => by rw [List.cons_append, szTs, szTs, szTs_app l m]; omega
theorem szTs_snoc {l : List Te} {k : Nat} (h : k < l.length) : szTs (l.take (k + 1)) = szTs (l.take k) + szT (l.getD k default) := by
  rw [take_snoc h, szTs_app]
  simp [szTs]
theorem szTs_len : ∀ (l : List Te), l.length ≤ szTs l
  | [] => Nat.le_refl _
  | t :: l => by have := szTs_len l; have := szT_pos t; rw [szTs, List.length_cons]; omega
theorem szT_l (t : Te) : szT t = szTs t.l + 1 := by cases t; rw [szT]; rfl

mutual
def okT : Te → Prop
  | .mk k n s l => i64 k ∧ i64 n ∧ s.size ≤ LIM ∧ l.length ≤ 2513169434843 ∧ okTs l
def okTs : List Te → Prop
  | [] => True
  | t :: l => okT t ∧ okTs l
end
theorem okTs_iff : ∀ {l : List Te}, okTs l ↔ ∀ t ∈ l, okT t
  | [] => ⟨fun _ t h => (by cases h), fun _ => trivial⟩
  | t :: l => by rw [okTs, okTs_iff]; simp
theorem okT_mk {k n : Int} {s : ByteArray} {l : List Te} : okT (.mk k n s l) ↔ i64 k ∧ i64 n ∧ s.size ≤ LIM ∧ l.length ≤ 2513169434843 ∧ ∀ t ∈ l, okT t := by rw [okT, okTs_iff]
theorem okT.k {t : Te} (h : okT t) : i64 t.k := by cases t; exact (okT_mk.1 h).1
theorem okT.n {t : Te} (h : okT t) : i64 t.n := by cases t; exact (okT_mk.1 h).2.1
theorem okT.s {t : Te} (h : okT t) : t.s.size ≤ LIM := by cases t; exact (okT_mk.1 h).2.2.1
theorem okT.l {t : Te} (h : okT t) : t.l.length ≤ 2513169434843 := by cases t; exact (okT_mk.1 h).2.2.2.1
theorem okT.arg {t u : Te} (h : okT t) (hu : u ∈ t.l) : okT u := by cases t; exact (okT_mk.1 h).2.2.2.2 u hu

theorem wfT_all (d : D) : (Wf d T_Term → ∃ t, d = eT t ∧ okT t) ∧ (Wf d T_Terms → ∃ l : List Te, d = .r (l.map eT) ∧ l.length ≤ 2513169434843 ∧ ∀ t ∈ l, okT t) := by
  have noS : ∀ {d : D}, Wf d T_Term → ∃ l, d = .a l := fun h => let ⟨l, e, _⟩ := h.st_of (fs := [.int .i64, .int .i64, .str, T_Terms]) rfl; ⟨l, e⟩
  have noR : ∀ {d : D}, Wf d T_Terms → ∃ l, d = .r l := fun h => let ⟨l, e, _⟩ := h.row_of (te := T_Term) rfl; ⟨l, e⟩
  induction d using D.ind with
  | hu => exact ⟨fun h => (by obtain ⟨_, e⟩ := noS h; cases e), fun h => (by obtain ⟨_, e⟩ := noR h; cases e)⟩
  | hi n => exact ⟨fun h => (by obtain ⟨_, e⟩ := noS h; cases e), fun h => (by obtain ⟨_, e⟩ := noR h; cases e)⟩
  | hb n => exact ⟨fun h => (by obtain ⟨_, e⟩ := noS h; cases e), fun h => (by obtain ⟨_, e⟩ := noR h; cases e)⟩
  | hs n => exact ⟨fun h => (by obtain ⟨_, e⟩ := noS h; cases e), fun h => (by obtain ⟨_, e⟩ := noR h; cases e)⟩
  | hm n => exact ⟨fun h => (by obtain ⟨_, e⟩ := noS h; cases e), fun h => (by obtain ⟨_, e⟩ := noR h; cases e)⟩
  | ha l ih =>
    refine ⟨fun h => ?_, fun h => (by obtain ⟨_, e⟩ := noR h; cases e)⟩
    obtain ⟨ds, e, hl⟩ := h.st_of (fs := [.int .i64, .int .i64, .str, T_Terms]) rfl
    injection e with e
    subst e
    obtain ⟨d0, r, rfl, h0, hl⟩ := wfL_cons hl
    obtain ⟨d1, r, rfl, h1, hl⟩ := wfL_cons hl
    obtain ⟨d2, d3, rfl, h2, h3⟩ := wfL2 hl
    obtain ⟨k, rfl, hk⟩ := wfI h0
    obtain ⟨n, rfl, hn⟩ := wfI h1
    obtain ⟨s, rfl, hs⟩ := h2.str
    obtain ⟨ts, rfl, h4, h5⟩ := (ih d3 (by simp)).2 h3
    exact ⟨.mk k n s ts, (eT_mk _ _ _ _).symm, okT_mk.2 ⟨hk, hn, hs, h4, h5⟩⟩
  | hr l ih =>
    refine ⟨fun h => (by obtain ⟨_, e⟩ := noS h; cases e), fun h => ?_⟩
    obtain ⟨l', e, h1, h2⟩ := h.row_of (te := T_Term) rfl
    injection e with e
    subst e
    obtain ⟨m, rfl, h3⟩ := of_all (e := eT) (P := okT) fun x hx => (ih x hx).1 (h2 x hx)
    have e : LM T_Term = 2513169434843 := by kernel_rfl
    rw [e, List.length_map] at h1
    exact ⟨m, rfl, h1, h3⟩
theorem wfT {d : D} (h : Wf d T_Term) : ∃ t, d = eT t ∧ okT t := (wfT_all d).1 h
theorem wfTs {d : D} (h : Wf d T_Terms) : ∃ l : List Te, d = .r (l.map eT) ∧ l.length ≤ 2513169434843 ∧ ∀ t ∈ l, okT t := (wfT_all d).2 h

/-- A node is valid; a term is. -/
def nodeT (t : Te) : Bool :=
  if t.k = 0 then decide (0 ≤ t.n) && (decide (t.n ≤ 1099511627776) && (decide (t.s = ⟨#[]⟩) && decide ((t.l.length : Int) = 0)))
  else if t.k = 1 then decide (t.s = ⟨#[]⟩) && decide ((t.l.length : Int) = 0)
  else if t.k = 2 then decide (t.n = 0) && (decide ((t.s.size : Int) ≤ 100) && decide ((t.l.length : Int) = 0))
  else if t.k = 3 then decide (t.n = 0) && (decide ((t.s.size : Int) ≤ 100) && (decide (1 ≤ (t.l.length : Int)) && decide ((t.l.length : Int) ≤ 8)))
  else false
mutual
def nodesT : Te → Bool
  | .mk k n s l => nodeT (.mk k n s l) && nodesTs l
def nodesTs : List Te → Bool
  | [] => true
  | t :: l => nodesT t && nodesTs l
end
theorem nodesTs_iff : ∀ {l : List Te}, nodesTs l = true ↔ ∀ t ∈ l, nodesT t = true
  | [] => ⟨fun _ t h => (by cases h), fun _ => rfl⟩
  | t :: l => by rw [nodesTs, Bool.and_eq_true, nodesTs_iff]; simp
theorem nodesT_all (t : Te) : nodesT t = (nodeT t && (List.range t.l.length).all fun i => nodesT (t.l.getD i default)) := by
  cases t with
  | mk k n s l =>
    rw [nodesT]
    congr 1
    rw [Bool.eq_iff_iff, nodesTs_iff, List.all_eq_true]
    refine ⟨fun h i hi => h _ (getD_mem (List.mem_range.1 hi)), fun h t ht => ?_⟩
    obtain ⟨i, hi, rfl⟩ := List.getElem_of_mem ht
    have := h i (List.mem_range.2 hi)
    rwa [show (Te.mk k n s l).l.getD i default = l[i] by simp [Te.l, List.getD_eq_getElem?_getD, List.getElem?_eq_getElem hi]] at this
def validT (t : Te) : Bool := decide (szT t ≤ 2000) && nodesT t

mutual
def idT : Te → Te → Bool
  | .mk k n s l, .mk k' n' s' l' => decide (k = k') && (decide (n = n') && (decide (s = s') && idTs l l'))
def idTs : List Te → List Te → Bool
  | [], [] => true
  | t :: l, u :: m => idT t u && idTs l m
  | _, _ => false
end
mutual
theorem idT_iff : ∀ (t u : Te), idT t u = true ↔ t = u
  | .mk k n s l, .mk k' n' s' l' => by simp [idT, idTs_iff l l']
theorem idTs_iff : ∀ (l m : List Te), idTs l m = true ↔ l = m
  | [], [] => by simp [idTs]
  | t :: l, u :: m => by simp [idTs, idT_iff t u, idTs_iff l m]
  | [], _ :: _ => by simp [idTs]
  | _ :: _, [] => by simp [idTs]
end
instance : DecidableEq Te := fun t u => if h : idT t u = true then .isTrue ((idT_iff t u).1 h) else .isFalse fun e => h ((idT_iff t u).2 e)
end Go.Proofs.Ytflahdpkkgmpeaa

namespace Go.Proofs.Ytflahdpkkgmpeaa
open Go.RowKit
set_option linter.unusedVariables false
set_option linter.unusedSimpArgs false

def mT (ds : List D) : Nat := szT (dT (ds.getD 0 .u))
def gCnt : List D → Option (List D)
  | [t, m] => if 1 ≤ m.int then some [.i (min (szT (dT t) : Int) m.int)] else none
  | _ => none
def gTi (f : Te → Int) : List D → Option (List D)
  | [t] => some [.i (f (dT t))]
  | _ => none
def gTb (f : Te → Bool) : List D → Option (List D)
  | [t] => some [.b (f (dT t))]
  | _ => none
def gTT (f : Te → Te) : List D → Option (List D)
  | [t] => some [eT (f (dT t))]
  | _ => none
def gTTb (f : Te → Te → Bool) : List D → Option (List D)
  | [t, v] => some [.b (f (dT t) (dT v))]
  | _ => none

theorem Te_l (k n : Int) (s : ByteArray) (l : List Te) : (Te.mk k n s l).l = l := rfl
theorem get_t {l : List Te} {k : Nat} (h : k < l.length) : (D.r (l.map eT)).get (k : Int) = eT (l.getD k default) := get_n eT h
theorem arg_sz {t : Te} {k : Nat} (h : k < t.l.length) : szT (t.l.getD k default) < szT t := szT_arg (getD_mem h)

theorem ok_ref03_Count : FOk ct_ref03_Count gCnt := fok_cut (m := mT) enter_ref03_Count fun N ih => fok_ref03_Count ih fun ds outs hw hg => by
  obtain ⟨d, r, rfl, hd, e, r', rfl, he, rfl⟩ := hw
  obtain ⟨t, rfl, ht⟩ := wfT hd
  obtain ⟨m, rfl, hm⟩ := wfI he
  simp only [cutM, mT, gCnt, List.getD_cons_zero, dT_eT, int_i, Option.ite_none_right_eq_some, Option.some.injEq] at hg
  obtain ⟨hsz, h1, rfl⟩ := hg
  have hl := ht.l
  rw [tree_ref03_Count, go_loop]
  refine ⟨fun st => ∃ k : Nat, k ≤ t.l.length ∧ st = [.i (min ((szTs (t.l.take k) : Int) + 1) m), .i k], fun st => t.l.length - (st.getD 1 .u).int.toNat, ⟨0, Nat.zero_le _, by simp [X.evs, X.ev, szTs]; omega⟩, ?_⟩
  rintro st - ⟨k, hk, rfl⟩
  rw [go_br]
  refine ⟨fun hlt => ?_, fun hlt => ?_⟩
  · simp only [go_need, go_br, go_leaf, go_back, allSay, X.says, X.ev, X.evs, evl, tblS, List.getD_cons_zero, List.getD_cons_succ, List.getElem?_cons_zero, List.getElem?_cons_succ, tt_b, int_i, str_s, rs_r, Option.isSome_some, Option.getD_some, decide_eq_true_eq, decide_eq_false_iff_not, List.length_map, i_inj, b_inj, s_inj, rng64, List.take_succ_cons, List.take_zero, List.nil_append, List.cons_append, decide_true, decide_false, Bool.or_true, true_and, and_true, dT_eT, eT_0, eT_1, eT_2, eT_3, eT_eq, eT_z, Bool.and_eq_true] at hlt
    obtain ⟨hkl, hlm⟩ := hlt
    have hkl' : k < t.l.length := by omega
    have ha := arg_sz hkl'
    have hs := szTs_snoc hkl'
    have hmn : 1 ≤ m - min ((szTs (t.l.take k) : Int) + 1) m := by omega
    simp only [go_need, go_br, go_leaf, go_back, allSay, X.says, X.ev, X.evs, evl, tblS, List.getD_cons_zero, List.getD_cons_succ, List.getElem?_cons_zero, List.getElem?_cons_succ, tt_b, int_i, str_s, rs_r, Option.isSome_some, Option.getD_some, decide_eq_true_eq, decide_eq_false_iff_not, List.length_map, i_inj, b_inj, s_inj, rng64, List.take_succ_cons, List.take_zero, List.nil_append, List.cons_append, decide_true, decide_false, Bool.or_true, true_and, and_true, dT_eT, eT_0, eT_1, eT_2, eT_3, eT_eq, eT_z, get_t hkl', cutM, mT, gCnt, if_pos hmn, if_pos (show szT (t.l.getD k default) < N by omega)]
    refine ⟨⟨by omega, by omega, by omega, by omega⟩, ⟨by omega, by omega⟩, ?_⟩
    rw [updB, if_pos rfl]
    refine ⟨⟨k + 1, by omega, ?_⟩, ?_⟩
    · rw [hs]
      simp
      omega
    · simp [D.int]
      omega
  · simp only [go_need, go_br, go_leaf, go_back, allSay, X.says, X.ev, X.evs, evl, tblS, List.getD_cons_zero, List.getD_cons_succ, List.getElem?_cons_zero, List.getElem?_cons_succ, tt_b, int_i, str_s, rs_r, Option.isSome_some, Option.getD_some, decide_eq_true_eq, decide_eq_false_iff_not, List.length_map, i_inj, b_inj, s_inj, rng64, List.take_succ_cons, List.take_zero, List.nil_append, List.cons_append, decide_true, decide_false, Bool.or_true, true_and, and_true, dT_eT, eT_0, eT_1, eT_2, eT_3, eT_eq, eT_z, Bool.and_eq_false_iff] at hlt
    simp only [go_need, go_br, go_leaf, go_back, allSay, X.says, X.ev, X.evs, evl, tblS, List.getD_cons_zero, List.getD_cons_succ, List.getElem?_cons_zero, List.getElem?_cons_succ, tt_b, int_i, str_s, rs_r, Option.isSome_some, Option.getD_some, decide_eq_true_eq, decide_eq_false_iff_not, List.length_map, i_inj, b_inj, s_inj, rng64, List.take_succ_cons, List.take_zero, List.nil_append, List.cons_append, decide_true, decide_false, Bool.or_true, true_and, and_true, dT_eT, eT_0, eT_1, eT_2, eT_3, eT_eq, eT_z]
    have hz := szT_l t
    have : min ((szTs (t.l.take k) : Int) + 1) m = min (szT t : Int) m := by
      rcases hlt with h | h
      · have : k = t.l.length := by omega
        subst this
        rw [List.take_length]
        omega
      · have h2 := szTs_app (t.l.take k) (t.l.drop k)
        rw [List.take_append_drop] at h2
        omega
    rw [this]
theorem ok_ref03_Size : FOk ct_ref03_Size (gTi fun t => min (szT t : Int) 2001) := fok_ref03_Size ok_ref03_Count fun ds outs hw hg => by
  obtain ⟨d, r, rfl, hd, rfl⟩ := hw
  obtain ⟨t, rfl, ht⟩ := wfT hd
  simp only [gTi, dT_eT, Option.some.injEq] at hg
  subst hg
  simp [tree_ref03_Size, go_need, go_br, go_leaf, go_back, allSay, X.says, X.ev, X.evs, evl, tblS, List.getD_cons_zero, List.getD_cons_succ, List.getElem?_cons_zero, List.getElem?_cons_succ, tt_b, int_i, str_s, rs_r, Option.isSome_some, Option.getD_some, decide_eq_true_eq, decide_eq_false_iff_not, List.length_map, i_inj, b_inj, s_inj, rng64, List.take_succ_cons, List.take_zero, List.nil_append, List.cons_append, decide_true, decide_false, Bool.or_true, true_and, and_true, dT_eT, eT_0, eT_1, eT_2, eT_3, eT_eq, eT_z, gCnt]
theorem ok_ref03_node : FOk ct_ref03_node (gTb nodeT) := fok_ref03_node fun ds outs hw hg => by
  obtain ⟨d, r, rfl, hd, rfl⟩ := hw
  obtain ⟨t, rfl, ht⟩ := wfT hd
  simp only [gTb, dT_eT, Option.some.injEq] at hg
  subst hg
  simp only [tree_ref03_node, go_need, go_br, go_leaf, go_back, allSay, X.says, X.ev, X.evs, evl, tblS, List.getD_cons_zero, List.getD_cons_succ, List.getElem?_cons_zero, List.getElem?_cons_succ, tt_b, int_i, str_s, rs_r, Option.isSome_some, Option.getD_some, decide_eq_true_eq, decide_eq_false_iff_not, List.length_map, i_inj, b_inj, s_inj, rng64, List.take_succ_cons, List.take_zero, List.nil_append, List.cons_append, decide_true, decide_false, Bool.or_true, true_and, and_true, dT_eT, eT_0, eT_1, eT_2, eT_3, eT_eq, eT_z, nodeT]
  by_cases h0 : t.k = 0
  · simp [h0, Bool.and_assoc]
  · by_cases h1 : t.k = 1
    · simp [h1]
    · by_cases h2 : t.k = 2
      · simp [h2, Bool.and_assoc]
      · by_cases h3 : t.k = 3
        · simp [h3, Bool.and_assoc]
        · simp [h0, h1, h2, h3]
theorem nodes_iff (t : Te) : nodesT t = true ↔ nodeT t = true ∧ ∀ j, j < t.l.length → nodesT (t.l.getD j default) = true := by
  rw [nodesT_all, Bool.and_eq_true, List.all_eq_true]
  simp
theorem ok_ref03_nodes : FOk ct_ref03_nodes (gTb nodesT) := fok_cut (m := mT) enter_ref03_nodes fun N ih => fok_ref03_nodes ok_ref03_node ih fun ds outs hw hg => by
  obtain ⟨d, r, rfl, hd, rfl⟩ := hw
  obtain ⟨t, rfl, ht⟩ := wfT hd
  simp only [cutM, mT, gTb, List.getD_cons_zero, dT_eT, int_i, Option.ite_none_right_eq_some, Option.some.injEq] at hg
  obtain ⟨hsz, rfl⟩ := hg
  have hl := ht.l
  simp only [tree_ref03_nodes, go_need, go_br, go_leaf, go_back, allSay, X.says, X.ev, X.evs, evl, tblS, List.getD_cons_zero, List.getD_cons_succ, List.getElem?_cons_zero, List.getElem?_cons_succ, tt_b, int_i, str_s, rs_r, Option.isSome_some, Option.getD_some, decide_eq_true_eq, decide_eq_false_iff_not, List.length_map, i_inj, b_inj, s_inj, rng64, List.take_succ_cons, List.take_zero, List.nil_append, List.cons_append, decide_true, decide_false, Bool.or_true, true_and, and_true, dT_eT, eT_0, eT_1, eT_2, eT_3, eT_eq, eT_z, gTb]
  refine ⟨fun hn => ?_, fun hn => ?_⟩
  · rw [nodesT_all, show nodeT t = false by simpa using hn]
    rfl
  have hn : nodeT t = true := by simpa using hn
  rw [go_loop]
  refine ⟨fun st => ∃ k : Nat, k ≤ t.l.length ∧ st = [.b false, .i k] ∧ ∀ j, j < k → nodesT (t.l.getD j default) = true, fun st => t.l.length - (st.getD 1 .u).int.toNat, ⟨0, Nat.zero_le _, rfl, fun j hj => absurd hj (Nat.not_lt_zero _)⟩, ?_⟩
  rintro st - ⟨k, hk, rfl, hP⟩
  rw [go_br]
  refine ⟨fun hlt => ?_, fun hlt => ?_⟩
  · simp only [go_need, go_br, go_leaf, go_back, allSay, X.says, X.ev, X.evs, evl, tblS, List.getD_cons_zero, List.getD_cons_succ, List.getElem?_cons_zero, List.getElem?_cons_succ, tt_b, int_i, str_s, rs_r, Option.isSome_some, Option.getD_some, decide_eq_true_eq, decide_eq_false_iff_not, List.length_map, i_inj, b_inj, s_inj, rng64, List.take_succ_cons, List.take_zero, List.nil_append, List.cons_append, decide_true, decide_false, Bool.or_true, true_and, and_true, dT_eT, eT_0, eT_1, eT_2, eT_3, eT_eq, eT_z] at hlt
    have hkl' : k < t.l.length := by omega
    have ha := arg_sz hkl'
    simp only [go_need, go_br, go_leaf, go_back, allSay, X.says, X.ev, X.evs, evl, tblS, List.getD_cons_zero, List.getD_cons_succ, List.getElem?_cons_zero, List.getElem?_cons_succ, tt_b, int_i, str_s, rs_r, Option.isSome_some, Option.getD_some, decide_eq_true_eq, decide_eq_false_iff_not, List.length_map, i_inj, b_inj, s_inj, rng64, List.take_succ_cons, List.take_zero, List.nil_append, List.cons_append, decide_true, decide_false, Bool.or_true, true_and, and_true, dT_eT, eT_0, eT_1, eT_2, eT_3, eT_eq, eT_z, get_t hkl', cutM, mT, gTb, if_pos (show szT (t.l.getD k default) < N by omega)]
    refine ⟨⟨by omega, by omega⟩, fun hx => ?_, fun hx => ⟨⟨by omega, by omega⟩, ?_⟩⟩
    · have : nodesT t = false := by
        cases hh : nodesT t with
        | false => rfl
        | true => rw [((nodes_iff t).1 hh).2 k hkl'] at hx; cases hx
      rw [this]
    · rw [updB, if_pos rfl]
      refine ⟨⟨k + 1, by omega, by simp, upto_succ hP (by simpa using hx)⟩, ?_⟩
      simp [D.int]
      omega
  · simp only [go_need, go_br, go_leaf, go_back, allSay, X.says, X.ev, X.evs, evl, tblS, List.getD_cons_zero, List.getD_cons_succ, List.getElem?_cons_zero, List.getElem?_cons_succ, tt_b, int_i, str_s, rs_r, Option.isSome_some, Option.getD_some, decide_eq_true_eq, decide_eq_false_iff_not, List.length_map, i_inj, b_inj, s_inj, rng64, List.take_succ_cons, List.take_zero, List.nil_append, List.cons_append, decide_true, decide_false, Bool.or_true, true_and, and_true, dT_eT, eT_0, eT_1, eT_2, eT_3, eT_eq, eT_z] at hlt ⊢
    have : k = t.l.length := by omega
    subst this
    rw [(nodes_iff t).2 ⟨hn, hP⟩]
theorem ok_ref03_Valid : FOk ct_ref03_Valid (gTb validT) := fok_ref03_Valid ok_ref03_Size ok_ref03_nodes fun ds outs hw hg => by
  obtain ⟨d, r, rfl, hd, rfl⟩ := hw
  obtain ⟨t, rfl, ht⟩ := wfT hd
  simp only [gTb, dT_eT, Option.some.injEq] at hg
  subst hg
  have e : decide (min (szT t : Int) 2001 ≤ 2000) = decide (szT t ≤ 2000) := by rw [decide_eq_decide]; omega
  simp [tree_ref03_Valid, go_need, go_br, go_leaf, go_back, allSay, X.says, X.ev, X.evs, evl, tblS, List.getD_cons_zero, List.getD_cons_succ, List.getElem?_cons_zero, List.getElem?_cons_succ, tt_b, int_i, str_s, rs_r, Option.isSome_some, Option.getD_some, decide_eq_true_eq, decide_eq_false_iff_not, List.length_map, i_inj, b_inj, s_inj, rng64, List.take_succ_cons, List.take_zero, List.nil_append, List.cons_append, decide_true, decide_false, Bool.or_true, true_and, and_true, dT_eT, eT_0, eT_1, eT_2, eT_3, eT_eq, eT_z, gTi, gTb, validT, e]
theorem same_iff {t u : Te} : idT t u = true ↔ t.k = u.k ∧ t.n = u.n ∧ t.s = u.s ∧ t.l.length = u.l.length ∧ ∀ j, j < t.l.length → idT (t.l.getD j default) (u.l.getD j default) = true := by
  rw [idT_iff]
  cases t with
  | mk k n s l =>
    cases u with
    | mk k' n' s' l' =>
      simp only [Te.k, Te.n, Te.s, Te.l, Te.mk.injEq, idT_iff]
      refine ⟨?_, ?_⟩
      · rintro ⟨rfl, rfl, rfl, rfl⟩
        exact ⟨rfl, rfl, rfl, rfl, fun _ _ => rfl⟩
      · rintro ⟨rfl, rfl, rfl, h1, h2⟩
        refine ⟨rfl, rfl, rfl, List.ext_getElem h1 fun i hi hi' => ?_⟩
        have := h2 i hi
        simpa [List.getD_eq_getElem?_getD, List.getElem?_eq_getElem hi, List.getElem?_eq_getElem hi'] using this
theorem ok_ref03_identical : FOk ct_ref03_identical (gTTb idT) := fok_cut (m := mT) enter_ref03_identical fun N ih => fok_ref03_identical ih fun ds outs hw hg => by
  obtain ⟨d, r, rfl, hd, e, r', rfl, he, rfl⟩ := hw
  obtain ⟨t, rfl, ht⟩ := wfT hd
  obtain ⟨u, rfl, hu⟩ := wfT he
  simp only [cutM, mT, gTTb, List.getD_cons_zero, dT_eT, int_i, Option.ite_none_right_eq_some, Option.some.injEq] at hg
  obtain ⟨hsz, rfl⟩ := hg
  have hl := ht.l
  have no : (¬ idT t u = true) → [D.b false] = [D.b (idT t u)] := fun h => by rw [Bool.eq_false_iff.2 h]
  simp only [tree_ref03_identical, go_need, go_br, go_leaf, go_back, allSay, X.says, X.ev, X.evs, evl, tblS, List.getD_cons_zero, List.getD_cons_succ, List.getElem?_cons_zero, List.getElem?_cons_succ, tt_b, int_i, str_s, rs_r, Option.isSome_some, Option.getD_some, decide_eq_true_eq, decide_eq_false_iff_not, List.length_map, i_inj, b_inj, s_inj, rng64, List.take_succ_cons, List.take_zero, List.nil_append, List.cons_append, decide_true, decide_false, Bool.or_true, true_and, and_true, dT_eT, eT_0, eT_1, eT_2, eT_3, eT_eq, eT_z, gTTb]
  refine ⟨fun hn => no fun h => ?_, fun hn => ?_⟩
  · obtain ⟨e1, e2, e3, e4, -⟩ := same_iff.1 h
    simp [e1, e2, e3, e4] at hn
  simp only [Bool.or_eq_false_iff, Bool.not_eq_false', decide_eq_true_eq] at hn
  obtain ⟨⟨⟨e1, e2⟩, e3⟩, e4⟩ := hn
  have e4 : t.l.length = u.l.length := by omega
  rw [go_loop]
  refine ⟨fun st => ∃ k : Nat, k ≤ t.l.length ∧ st = [.b false, .i k] ∧ ∀ j, j < k → idT (t.l.getD j default) (u.l.getD j default) = true, fun st => t.l.length - (st.getD 1 .u).int.toNat, ⟨0, Nat.zero_le _, rfl, fun j hj => absurd hj (Nat.not_lt_zero _)⟩, ?_⟩
  rintro st - ⟨k, hk, rfl, hP⟩
  rw [go_br]
  refine ⟨fun hlt => ?_, fun hlt => ?_⟩
  · simp only [go_need, go_br, go_leaf, go_back, allSay, X.says, X.ev, X.evs, evl, tblS, List.getD_cons_zero, List.getD_cons_succ, List.getElem?_cons_zero, List.getElem?_cons_succ, tt_b, int_i, str_s, rs_r, Option.isSome_some, Option.getD_some, decide_eq_true_eq, decide_eq_false_iff_not, List.length_map, i_inj, b_inj, s_inj, rng64, List.take_succ_cons, List.take_zero, List.nil_append, List.cons_append, decide_true, decide_false, Bool.or_true, true_and, and_true, dT_eT, eT_0, eT_1, eT_2, eT_3, eT_eq, eT_z] at hlt
    have hkl' : k < t.l.length := by omega
    have hku' : k < u.l.length := by omega
    have ha := arg_sz hkl'
    simp only [go_need, go_br, go_leaf, go_back, allSay, X.says, X.ev, X.evs, evl, tblS, List.getD_cons_zero, List.getD_cons_succ, List.getElem?_cons_zero, List.getElem?_cons_succ, tt_b, int_i, str_s, rs_r, Option.isSome_some, Option.getD_some, decide_eq_true_eq, decide_eq_false_iff_not, List.length_map, i_inj, b_inj, s_inj, rng64, List.take_succ_cons, List.take_zero, List.nil_append, List.cons_append, decide_true, decide_false, Bool.or_true, true_and, and_true, dT_eT, eT_0, eT_1, eT_2, eT_3, eT_eq, eT_z, get_t hkl', get_t hku', cutM, mT, gTTb, if_pos (show szT (t.l.getD k default) < N by omega)]
    refine ⟨⟨by omega, by omega, by omega, by omega⟩, fun hx => no fun h => ?_, fun hx => ⟨⟨by omega, by omega⟩, ?_⟩⟩
    · rw [(same_iff.1 h).2.2.2.2 k hkl'] at hx
      cases hx
    · rw [updB, if_pos rfl]
      refine ⟨⟨k + 1, by omega, by simp, upto_succ hP (by simpa using hx)⟩, ?_⟩
      simp [D.int]
      omega
  · simp only [go_need, go_br, go_leaf, go_back, allSay, X.says, X.ev, X.evs, evl, tblS, List.getD_cons_zero, List.getD_cons_succ, List.getElem?_cons_zero, List.getElem?_cons_succ, tt_b, int_i, str_s, rs_r, Option.isSome_some, Option.getD_some, decide_eq_true_eq, decide_eq_false_iff_not, List.length_map, i_inj, b_inj, s_inj, rng64, List.take_succ_cons, List.take_zero, List.nil_append, List.cons_append, decide_true, decide_false, Bool.or_true, true_and, and_true, dT_eT, eT_0, eT_1, eT_2, eT_3, eT_eq, eT_z] at hlt ⊢
    have : k = t.l.length := by omega
    subst this
    rw [same_iff.2 ⟨e1, e2, e3, e4, hP⟩]
def sameT (t u : Te) : Bool := validT t && (validT u && idT t u)
theorem ok_ref03_Same : FOk ct_ref03_Same (gTTb sameT) := fok_ref03_Same ok_ref03_Valid ok_ref03_identical fun ds outs hw hg => by
  obtain ⟨d, r, rfl, hd, e, r', rfl, he, rfl⟩ := hw
  obtain ⟨t, rfl, ht⟩ := wfT hd
  obtain ⟨u, rfl, hu⟩ := wfT he
  simp only [gTTb, dT_eT, Option.some.injEq] at hg
  subst hg
  simp [tree_ref03_Same, go_need, go_br, go_leaf, go_back, allSay, X.says, X.ev, X.evs, evl, tblS, List.getD_cons_zero, List.getD_cons_succ, List.getElem?_cons_zero, List.getElem?_cons_succ, tt_b, int_i, str_s, rs_r, Option.isSome_some, Option.getD_some, decide_eq_true_eq, decide_eq_false_iff_not, List.length_map, i_inj, b_inj, s_inj, rng64, List.take_succ_cons, List.take_zero, List.nil_append, List.cons_append, decide_true, decide_false, Bool.or_true, true_and, and_true, dT_eT, eT_0, eT_1, eT_2, eT_3, eT_eq, eT_z, gTb, gTTb, sameT, Bool.and_assoc]

/-- The program's. -/
def gSz1 : List D → Option (List D)
  | [t, m] => if 1 ≤ m.int then some [.i (m.int - min (szT (dT t) : Int) m.int)] else none
  | _ => none
theorem ok_term_Size_1 : FOk ct_term_Size_1 gSz1 := fok_cut (m := mT) enter_term_Size_1 fun N ih => fok_term_Size_1 ih fun ds outs hw hg => by
  obtain ⟨d, r, rfl, hd, e, r', rfl, he, rfl⟩ := hw
  obtain ⟨t, rfl, ht⟩ := wfT hd
  obtain ⟨m, rfl, hm⟩ := wfI he
  simp only [cutM, mT, gSz1, List.getD_cons_zero, dT_eT, int_i, Option.ite_none_right_eq_some, Option.some.injEq] at hg
  obtain ⟨hsz, h1, rfl⟩ := hg
  have hl := ht.l
  rw [tree_term_Size_1, go_need]
  refine ⟨by simp only [go_need, go_br, go_leaf, go_back, allSay, X.says, X.ev, X.evs, evl, tblS, List.getD_cons_zero, List.getD_cons_succ, List.getElem?_cons_zero, List.getElem?_cons_succ, tt_b, int_i, str_s, rs_r, Option.isSome_some, Option.getD_some, decide_eq_true_eq, decide_eq_false_iff_not, List.length_map, i_inj, b_inj, s_inj, rng64, List.take_succ_cons, List.take_zero, List.nil_append, List.cons_append, decide_true, decide_false, Bool.or_true, true_and, and_true, dT_eT, eT_0, eT_1, eT_2, eT_3, eT_eq, eT_z]; omega, ?_⟩
  rw [go_loop]
  refine ⟨fun st => ∃ k : Nat, k ≤ t.l.length ∧ st = [.i k, .i (m - min ((szTs (t.l.take k) : Int) + 1) m)], fun st => t.l.length - (st.getD 0 .u).int.toNat, ⟨0, Nat.zero_le _, by simp [X.evs, X.ev, szTs, evl, D.int]; omega⟩, ?_⟩
  rintro st - ⟨k, hk, rfl⟩
  rw [go_br]
  refine ⟨fun hlt => ?_, fun hlt => ?_⟩
  · simp only [go_need, go_br, go_leaf, go_back, allSay, X.says, X.ev, X.evs, evl, tblS, List.getD_cons_zero, List.getD_cons_succ, List.getElem?_cons_zero, List.getElem?_cons_succ, tt_b, int_i, str_s, rs_r, Option.isSome_some, Option.getD_some, decide_eq_true_eq, decide_eq_false_iff_not, List.length_map, i_inj, b_inj, s_inj, rng64, List.take_succ_cons, List.take_zero, List.nil_append, List.cons_append, decide_true, decide_false, Bool.or_true, true_and, and_true, dT_eT, eT_0, eT_1, eT_2, eT_3, eT_eq, eT_z, Bool.and_eq_true] at hlt
    obtain ⟨hkl, hlm⟩ := hlt
    have hkl' : k < t.l.length := by omega
    have ha := arg_sz hkl'
    have hs := szTs_snoc hkl'
    have hmn : 1 ≤ m - min ((szTs (t.l.take k) : Int) + 1) m := by omega
    simp only [go_need, go_br, go_leaf, go_back, allSay, X.says, X.ev, X.evs, evl, tblS, List.getD_cons_zero, List.getD_cons_succ, List.getElem?_cons_zero, List.getElem?_cons_succ, tt_b, int_i, str_s, rs_r, Option.isSome_some, Option.getD_some, decide_eq_true_eq, decide_eq_false_iff_not, List.length_map, i_inj, b_inj, s_inj, rng64, List.take_succ_cons, List.take_zero, List.nil_append, List.cons_append, decide_true, decide_false, Bool.or_true, true_and, and_true, dT_eT, eT_0, eT_1, eT_2, eT_3, eT_eq, eT_z, get_t hkl', cutM, mT, gSz1, if_pos hmn, if_pos (show szT (t.l.getD k default) < N by omega)]
    refine ⟨⟨by omega, by omega⟩, ⟨by omega, by omega⟩, ?_⟩
    rw [updB, if_pos rfl]
    refine ⟨⟨k + 1, by omega, ?_⟩, ?_⟩
    · rw [hs]
      simp
      omega
    · simp [D.int]
      omega
  · simp only [go_need, go_br, go_leaf, go_back, allSay, X.says, X.ev, X.evs, evl, tblS, List.getD_cons_zero, List.getD_cons_succ, List.getElem?_cons_zero, List.getElem?_cons_succ, tt_b, int_i, str_s, rs_r, Option.isSome_some, Option.getD_some, decide_eq_true_eq, decide_eq_false_iff_not, List.length_map, i_inj, b_inj, s_inj, rng64, List.take_succ_cons, List.take_zero, List.nil_append, List.cons_append, decide_true, decide_false, Bool.or_true, true_and, and_true, dT_eT, eT_0, eT_1, eT_2, eT_3, eT_eq, eT_z, Bool.and_eq_false_iff] at hlt
    simp only [go_need, go_br, go_leaf, go_back, allSay, X.says, X.ev, X.evs, evl, tblS, List.getD_cons_zero, List.getD_cons_succ, List.getElem?_cons_zero, List.getElem?_cons_succ, tt_b, int_i, str_s, rs_r, Option.isSome_some, Option.getD_some, decide_eq_true_eq, decide_eq_false_iff_not, List.length_map, i_inj, b_inj, s_inj, rng64, List.take_succ_cons, List.take_zero, List.nil_append, List.cons_append, decide_true, decide_false, Bool.or_true, true_and, and_true, dT_eT, eT_0, eT_1, eT_2, eT_3, eT_eq, eT_z]
    have hz := szT_l t
    have : m - min ((szTs (t.l.take k) : Int) + 1) m = m - min (szT t : Int) m := by
      rcases hlt with h | h
      · have : k = t.l.length := by omega
        subst this
        rw [List.take_length]
        omega
      · have h2 := szTs_app (t.l.take k) (t.l.drop k)
        rw [List.take_append_drop] at h2
        omega
    rw [this]
theorem ok_term_Size : FOk ct_term_Size (gTi fun t => min (szT t : Int) 2001) := fok_term_Size ok_term_Size_1 fun ds outs hw hg => by
  obtain ⟨d, r, rfl, hd, rfl⟩ := hw
  obtain ⟨t, rfl, ht⟩ := wfT hd
  simp only [gTi, dT_eT, Option.some.injEq] at hg
  subst hg
  simp [tree_term_Size, go_need, go_br, go_leaf, go_back, allSay, X.says, X.ev, X.evs, evl, tblS, List.getD_cons_zero, List.getD_cons_succ, List.getElem?_cons_zero, List.getElem?_cons_succ, tt_b, int_i, str_s, rs_r, Option.isSome_some, Option.getD_some, decide_eq_true_eq, decide_eq_false_iff_not, List.length_map, i_inj, b_inj, s_inj, rng64, List.take_succ_cons, List.take_zero, List.nil_append, List.cons_append, decide_true, decide_false, Bool.or_true, true_and, and_true, dT_eT, eT_0, eT_1, eT_2, eT_3, eT_eq, eT_z, gSz1]
  omega
theorem ok_term_fits : FOk ct_term_fits (gTb nodesT) := fok_cut (m := mT) enter_term_fits fun N ih => fok_term_fits ih fun ds outs hw hg => by
  obtain ⟨d, r, rfl, hd, rfl⟩ := hw
  obtain ⟨t, rfl, ht⟩ := wfT hd
  simp only [cutM, mT, gTb, List.getD_cons_zero, dT_eT, int_i, Option.ite_none_right_eq_some, Option.some.injEq] at hg
  obtain ⟨hsz, rfl⟩ := hg
  have hl := ht.l
  have key : ∀ (x : X), x.ev (evl (tblS [(ct_term_fits, cutM mT N (gTb nodesT))]) [eT t]) = .b (nodeT t) → Tree.go (tblS [(ct_term_fits, cutM mT N (gTb nodesT))]) (fun o => o = [D.b (nodesT t)]) (.loop 12 1 [x, (.lit (.i 0))] (.br (.and (.lt (.tok 2) (.len (.fld (.tok 0) 3))) (.tok 1)) (.need [(.le (.lit (.i 0)) (.tok 2)), (.lt (.tok 2) (.len (.fld (.tok 0) 3))), (.ok 0 [(.get (.fld (.tok 0) 3) (.tok 2))])] (.need [(.rng .i64 (.add (.tok 2) (.lit (.i 1))))] (.back 12 [(.call 0 0 [(.get (.fld (.tok 0) 3) (.tok 2))]), (.add (.tok 2) (.lit (.i 1)))]))) (.leaf [(.tok 1)]))) [eT t] fun _ _ => False := by
    intro x hx
    rw [go_loop]
    refine ⟨fun st => ∃ (k : Nat) (v : Bool), k ≤ t.l.length ∧ st = [.b v, .i k] ∧ (v = true ↔ nodeT t = true ∧ ∀ j, j < k → nodesT (t.l.getD j default) = true), fun st => t.l.length - (st.getD 1 .u).int.toNat, ⟨0, nodeT t, Nat.zero_le _, by simp only [X.evs, hx, X.ev]; rfl, by simp⟩, ?_⟩
    rintro st - ⟨k, v, hk, rfl, hv⟩
    rw [go_br]
    refine ⟨fun hlt => ?_, fun hlt => ?_⟩
    · simp only [go_need, go_br, go_leaf, go_back, allSay, X.says, X.ev, X.evs, evl, tblS, List.getD_cons_zero, List.getD_cons_succ, List.getElem?_cons_zero, List.getElem?_cons_succ, tt_b, int_i, str_s, rs_r, Option.isSome_some, Option.getD_some, decide_eq_true_eq, decide_eq_false_iff_not, List.length_map, i_inj, b_inj, s_inj, rng64, List.take_succ_cons, List.take_zero, List.nil_append, List.cons_append, decide_true, decide_false, Bool.or_true, true_and, and_true, dT_eT, eT_0, eT_1, eT_2, eT_3, eT_eq, eT_z, Bool.and_eq_true] at hlt
      obtain ⟨hlt, rfl⟩ := hlt
      have hkl' : k < t.l.length := by omega
      have ha := arg_sz hkl'
      simp only [go_need, go_br, go_leaf, go_back, allSay, X.says, X.ev, X.evs, evl, tblS, List.getD_cons_zero, List.getD_cons_succ, List.getElem?_cons_zero, List.getElem?_cons_succ, tt_b, int_i, str_s, rs_r, Option.isSome_some, Option.getD_some, decide_eq_true_eq, decide_eq_false_iff_not, List.length_map, i_inj, b_inj, s_inj, rng64, List.take_succ_cons, List.take_zero, List.nil_append, List.cons_append, decide_true, decide_false, Bool.or_true, true_and, and_true, dT_eT, eT_0, eT_1, eT_2, eT_3, eT_eq, eT_z, get_t hkl', cutM, mT, gTb, if_pos (show szT (t.l.getD k default) < N by omega)]
      refine ⟨⟨by omega, by omega⟩, ⟨by omega, by omega⟩, ?_⟩
      rw [updB, if_pos rfl]
      have hv' := hv.1 rfl
      refine ⟨⟨k + 1, _, by omega, rfl, ⟨fun h => ⟨hv'.1, upto_succ hv'.2 h⟩, fun h => h.2 k (Nat.lt_succ_self _)⟩⟩, ?_⟩
      simp [D.int]
      omega
    · simp only [go_need, go_br, go_leaf, go_back, allSay, X.says, X.ev, X.evs, evl, tblS, List.getD_cons_zero, List.getD_cons_succ, List.getElem?_cons_zero, List.getElem?_cons_succ, tt_b, int_i, str_s, rs_r, Option.isSome_some, Option.getD_some, decide_eq_true_eq, decide_eq_false_iff_not, List.length_map, i_inj, b_inj, s_inj, rng64, List.take_succ_cons, List.take_zero, List.nil_append, List.cons_append, decide_true, decide_false, Bool.or_true, true_and, and_true, dT_eT, eT_0, eT_1, eT_2, eT_3, eT_eq, eT_z, Bool.and_eq_false_iff] at hlt
      simp only [go_need, go_br, go_leaf, go_back, allSay, X.says, X.ev, X.evs, evl, tblS, List.getD_cons_zero, List.getD_cons_succ, List.getElem?_cons_zero, List.getElem?_cons_succ, tt_b, int_i, str_s, rs_r, Option.isSome_some, Option.getD_some, decide_eq_true_eq, decide_eq_false_iff_not, List.length_map, i_inj, b_inj, s_inj, rng64, List.take_succ_cons, List.take_zero, List.nil_append, List.cons_append, decide_true, decide_false, Bool.or_true, true_and, and_true, dT_eT, eT_0, eT_1, eT_2, eT_3, eT_eq, eT_z]
      rw [show v = nodesT t from ?_]
      cases hvv : v with
      | false =>
        cases hh : nodesT t with
        | false => rfl
        | true =>
          have h2 := (nodes_iff t).1 hh
          rw [hv.2 ⟨h2.1, fun j hj => h2.2 j (by omega)⟩] at hvv
          cases hvv
      | true =>
        have : k = t.l.length := by
          rcases hlt with h | h
          · omega
          · rw [hvv] at h; cases h
        subst this
        exact ((nodes_iff t).2 (hv.1 hvv)).symm
  rw [tree_term_fits]
  simp only [go_br]
  have e0 : ∀ z : Int, (X.eq (.fld (.tok 0) 0) (.lit (.i z))).ev (evl (tblS [(ct_term_fits, cutM mT N (gTb nodesT))]) [eT t]) = .b (decide (t.k = z)) := fun z => by
    simp only [go_need, go_br, go_leaf, go_back, allSay, X.says, X.ev, X.evs, evl, tblS, List.getD_cons_zero, List.getD_cons_succ, List.getElem?_cons_zero, List.getElem?_cons_succ, tt_b, int_i, str_s, rs_r, Option.isSome_some, Option.getD_some, decide_eq_true_eq, decide_eq_false_iff_not, List.length_map, i_inj, b_inj, s_inj, rng64, List.take_succ_cons, List.take_zero, List.nil_append, List.cons_append, decide_true, decide_false, Bool.or_true, true_and, and_true, dT_eT, eT_0, eT_1, eT_2, eT_3, eT_eq, eT_z]
  simp only [e0, tt_b, decide_eq_true_eq, decide_eq_false_iff_not]
  refine ⟨fun h => key _ ?_, fun h0 => ⟨fun h => key _ ?_, fun h1 => ⟨fun h => key _ ?_, fun h2 => ⟨fun h => key _ ?_, fun h3 => key _ ?_⟩⟩⟩⟩
  all_goals simp only [go_need, go_br, go_leaf, go_back, allSay, X.says, X.ev, X.evs, evl, tblS, List.getD_cons_zero, List.getD_cons_succ, List.getElem?_cons_zero, List.getElem?_cons_succ, tt_b, int_i, str_s, rs_r, Option.isSome_some, Option.getD_some, decide_eq_true_eq, decide_eq_false_iff_not, List.length_map, i_inj, b_inj, s_inj, rng64, List.take_succ_cons, List.take_zero, List.nil_append, List.cons_append, decide_true, decide_false, Bool.or_true, true_and, and_true, dT_eT, eT_0, eT_1, eT_2, eT_3, eT_eq, eT_z, nodeT]
  · simp [h, Bool.and_assoc]
  · simp [h, Bool.and_assoc]
  · simp [h, Bool.and_assoc]
  · have e8 : decide (0 < (t.l.length : Int)) = decide (1 ≤ (t.l.length : Int)) := rfl
    rw [e8]
    simp [h, Bool.and_assoc]
  · simp [h0, h1, h2, h3]
theorem ok_term_Valid : FOk ct_term_Valid (gTb validT) := fok_term_Valid ok_term_Size ok_term_fits fun ds outs hw hg => by
  obtain ⟨d, r, rfl, hd, rfl⟩ := hw
  obtain ⟨t, rfl, ht⟩ := wfT hd
  simp only [gTb, dT_eT, Option.some.injEq] at hg
  subst hg
  have e : decide (min (szT t : Int) 2001 ≤ 2000) = decide (szT t ≤ 2000) := by rw [decide_eq_decide]; omega
  simp [tree_term_Valid, go_need, go_br, go_leaf, go_back, allSay, X.says, X.ev, X.evs, evl, tblS, List.getD_cons_zero, List.getD_cons_succ, List.getElem?_cons_zero, List.getElem?_cons_succ, tt_b, int_i, str_s, rs_r, Option.isSome_some, Option.getD_some, decide_eq_true_eq, decide_eq_false_iff_not, List.length_map, i_inj, b_inj, s_inj, rng64, List.take_succ_cons, List.take_zero, List.nil_append, List.cons_append, decide_true, decide_false, Bool.or_true, true_and, and_true, dT_eT, eT_0, eT_1, eT_2, eT_3, eT_eq, eT_z, gTi, gTb, validT, e]
theorem ok_term_Clone_1 : FOk ct_term_Clone_1 (gTT id) := fok_term_Clone_1 fun ds outs hw hg => by
  obtain ⟨d, r, rfl, hd, rfl⟩ := hw
  obtain ⟨t, rfl, ht⟩ := wfT hd
  simp only [gTT, dT_eT, Option.some.injEq] at hg
  subst hg
  simp only [tree_term_Clone_1, go_need, go_br, go_leaf, go_back, allSay, X.says, X.ev, X.evs, evl, tblS, List.getD_cons_zero, List.getD_cons_succ, List.getElem?_cons_zero, List.getElem?_cons_succ, tt_b, int_i, str_s, rs_r, Option.isSome_some, Option.getD_some, decide_eq_true_eq, decide_eq_false_iff_not, List.length_map, i_inj, b_inj, s_inj, rng64, List.take_succ_cons, List.take_zero, List.nil_append, List.cons_append, decide_true, decide_false, Bool.or_true, true_and, and_true, dT_eT, eT_0, eT_1, eT_2, eT_3, eT_eq, eT_z, id]
def gAp : List D → Option (List D)
  | [t] => if (dT t).k = 0 ∨ (dT t).k ≠ 0 then some [t] else none
  | _ => none
theorem ok_term_apply : FOk ct_term_apply (gTT id) := fok_cut (m := mT) enter_term_apply fun N ih => fok_term_apply ok_term_Clone_1 ih fun ds outs hw hg => by
  obtain ⟨d, r, rfl, hd, rfl⟩ := hw
  obtain ⟨t, rfl, ht⟩ := wfT hd
  simp only [cutM, mT, gTT, List.getD_cons_zero, dT_eT, int_i, Option.ite_none_right_eq_some, Option.some.injEq] at hg
  obtain ⟨hsz, rfl⟩ := hg
  have hl := ht.l
  rw [tree_term_apply, go_br]
  refine ⟨fun h => ?_, fun h => ?_⟩
  · simp only [go_need, go_br, go_leaf, go_back, allSay, X.says, X.ev, X.evs, evl, tblS, List.getD_cons_zero, List.getD_cons_succ, List.getElem?_cons_zero, List.getElem?_cons_succ, tt_b, int_i, str_s, rs_r, Option.isSome_some, Option.getD_some, decide_eq_true_eq, decide_eq_false_iff_not, List.length_map, i_inj, b_inj, s_inj, rng64, List.take_succ_cons, List.take_zero, List.nil_append, List.cons_append, decide_true, decide_false, Bool.or_true, true_and, and_true, dT_eT, eT_0, eT_1, eT_2, eT_3, eT_eq, eT_z, gTT, id]
  rw [go_loop]
  refine ⟨fun st => ∃ k : Nat, k ≤ t.l.length ∧ st = [.i k, eT (.mk t.k t.n t.s (t.l.take k))], fun st => t.l.length - (st.getD 0 .u).int.toNat, ⟨0, Nat.zero_le _, by simp only [X.evs, X.ev, evl, List.getD_cons_zero, eT_0, eT_1, eT_2, eT_mk]; rfl⟩, ?_⟩
  rintro st - ⟨k, hk, rfl⟩
  rw [go_br]
  refine ⟨fun hlt => ?_, fun hlt => ?_⟩
  · simp only [go_need, go_br, go_leaf, go_back, allSay, X.says, X.ev, X.evs, evl, tblS, List.getD_cons_zero, List.getD_cons_succ, List.getElem?_cons_zero, List.getElem?_cons_succ, tt_b, int_i, str_s, rs_r, Option.isSome_some, Option.getD_some, decide_eq_true_eq, decide_eq_false_iff_not, List.length_map, i_inj, b_inj, s_inj, rng64, List.take_succ_cons, List.take_zero, List.nil_append, List.cons_append, decide_true, decide_false, Bool.or_true, true_and, and_true, dT_eT, eT_0, eT_1, eT_2, eT_3, eT_eq, eT_z] at hlt
    have hkl' : k < t.l.length := by omega
    have ha := arg_sz hkl'
    simp only [go_need, go_br, go_leaf, go_back, allSay, X.says, X.ev, X.evs, evl, tblS, List.getD_cons_zero, List.getD_cons_succ, List.getElem?_cons_zero, List.getElem?_cons_succ, tt_b, int_i, str_s, rs_r, Option.isSome_some, Option.getD_some, decide_eq_true_eq, decide_eq_false_iff_not, List.length_map, i_inj, b_inj, s_inj, rng64, List.take_succ_cons, List.take_zero, List.nil_append, List.cons_append, decide_true, decide_false, Bool.or_true, true_and, and_true, dT_eT, eT_0, eT_1, eT_2, eT_3, eT_eq, eT_z, get_t hkl', cutM, mT, gTT, if_pos (show szT (t.l.getD k default) < N by omega), id, Te_l, List.length_take]
    refine ⟨⟨by omega, by omega⟩, by omega, ⟨by omega, by omega⟩, ?_⟩
    rw [updB, if_pos rfl]
    refine ⟨⟨k + 1, by omega, ?_⟩, ?_⟩
    · rw [take_snoc hkl', eT_snoc]
      rfl
    · simp [D.int]
      omega
  · simp only [go_need, go_br, go_leaf, go_back, allSay, X.says, X.ev, X.evs, evl, tblS, List.getD_cons_zero, List.getD_cons_succ, List.getElem?_cons_zero, List.getElem?_cons_succ, tt_b, int_i, str_s, rs_r, Option.isSome_some, Option.getD_some, decide_eq_true_eq, decide_eq_false_iff_not, List.length_map, i_inj, b_inj, s_inj, rng64, List.take_succ_cons, List.take_zero, List.nil_append, List.cons_append, decide_true, decide_false, Bool.or_true, true_and, and_true, dT_eT, eT_0, eT_1, eT_2, eT_3, eT_eq, eT_z] at hlt ⊢
    have : k = t.l.length := by omega
    subst this
    rw [List.take_length]
    cases t
    rfl
theorem ok_term_Clone : FOk ct_term_Clone (gTT fun t => if validT t then t else zT) := fok_term_Clone ok_term_Valid ok_term_apply fun ds outs hw hg => by
  obtain ⟨d, r, rfl, hd, rfl⟩ := hw
  obtain ⟨t, rfl, ht⟩ := wfT hd
  simp only [gTT, dT_eT, Option.some.injEq] at hg
  subst hg
  simp only [tree_term_Clone, go_need, go_br, go_leaf, go_back, allSay, X.says, X.ev, X.evs, evl, tblS, List.getD_cons_zero, List.getD_cons_succ, List.getElem?_cons_zero, List.getElem?_cons_succ, tt_b, int_i, str_s, rs_r, Option.isSome_some, Option.getD_some, decide_eq_true_eq, decide_eq_false_iff_not, List.length_map, i_inj, b_inj, s_inj, rng64, List.take_succ_cons, List.take_zero, List.nil_append, List.cons_append, decide_true, decide_false, Bool.or_true, true_and, and_true, dT_eT, eT_0, eT_1, eT_2, eT_3, eT_eq, eT_z, gTb, gTT, id]
  cases validT t <;> simp
def gSt (f : ByteArray → Te) : List D → Option (List D)
  | [s] => some [eT (f s.str)]
  | _ => none
def atomT (s : ByteArray) : Te := if s.size ≤ 100 then .mk 2 0 s [] else zT
theorem atomT_ok {s : ByteArray} (h : s.size ≤ 100) : atomT s = .mk 2 0 s [] := if_pos h
theorem ok_term_Atom : FOk ct_term_Atom (gSt atomT) := fok_term_Atom ok_term_Clone fun ds outs hw hg => by
  obtain ⟨d, r, rfl, hd, rfl⟩ := hw
  obtain ⟨s, rfl, hs⟩ := hd.str
  simp only [gSt, str_s, Option.some.injEq] at hg
  subst hg
  have e : D.a ((D.a ([D.i 0, .i 0, .s ⟨#[]⟩, .r []].set 0 (.i 2))).fs.set 2 (.s s)) = eT (.mk 2 0 s []) := rfl
  simp only [tree_term_Atom, go_need, go_br, go_leaf, go_back, allSay, X.says, X.ev, X.evs, evl, tblS, List.getD_cons_zero, List.getD_cons_succ, List.getElem?_cons_zero, List.getElem?_cons_succ, tt_b, int_i, str_s, rs_r, Option.isSome_some, Option.getD_some, decide_eq_true_eq, decide_eq_false_iff_not, List.length_map, i_inj, b_inj, s_inj, rng64, List.take_succ_cons, List.take_zero, List.nil_append, List.cons_append, decide_true, decide_false, Bool.or_true, true_and, and_true, dT_eT, eT_0, eT_1, eT_2, eT_3, eT_eq, eT_z, gTT, fs_a]
  have e2 : D.a (((eT zT).fs.set 0 (.i 2)).set 2 (.s s)) = eT (.mk 2 0 s []) := rfl
  simp only [e2]
  have : validT (.mk 2 0 s []) = decide (s.size ≤ 100) := by
    rw [Bool.eq_iff_iff]
    simp [validT, szT, szTs, nodesT, nodesTs, nodeT, Te.k, Te.n, Te.s, Te.l]
    exact Iff.trans decide_eq_true_iff (Int.ofNat_le (n := 100))
  simp only [dT_eT, this, atomT, decide_eq_true_eq]
end Go.Proofs.Ytflahdpkkgmpeaa

namespace Go.Proofs.Ytflahdpkkgmpeaa
open Go.RowKit
set_option linter.unusedVariables false
set_option linter.unusedSimpArgs false

mutual
/-- Variables renumbered. -/
def mapV (f : Int → Int) : Te → Te
  | .mk k n s l => .mk k (if k = 0 then f n else n) s (mapVs f l)
def mapVs (f : Int → Int) : List Te → List Te
  | [] => []
  | t :: l => mapV f t :: mapVs f l
end
mutual
/-- The variables in the order of their first occurrence, behind those given. -/
def varsT (vs : List Int) : Te → List Int
  | .mk k n s l => varsTs (if k = 0 ∧ n ∉ vs then vs ++ [n] else vs) l
def varsTs (vs : List Int) : List Te → List Int
  | [] => vs
  | t :: l => varsTs (varsT vs t) l
end
mutual
def inV (V : List Int) : Te → Prop
  | .mk k n s l => (k = 0 → n ∈ V) ∧ inVs V l
def inVs (V : List Int) : List Te → Prop
  | [] => True
  | t :: l => inV V t ∧ inVs V l
end
def posL : List Int → Int → Int
  | [], _ => -1
  | a :: l, x => if a = x then 0 else if posL l x < 0 then -1 else posL l x + 1
/-- Numbered by a list of variables. -/
abbrev numT (V : List Int) : Te → Te := mapV (posL V)
def rangeI (n : Nat) : List Int := (List.range n).map Int.ofNat

section
variable {f g : Int → Int}
theorem mapVs_map : ∀ l, mapVs f l = l.map (mapV f)
  | [] => rfl
  | t :: l => by rw [mapVs, mapVs_map l]; rfl
theorem mapV_mk (k n : Int) (s : ByteArray) (l : List Te) : mapV f (.mk k n s l) = .mk k (if k = 0 then f n else n) s (l.map (mapV f)) := by rw [mapV, mapVs_map]
theorem varsTs_fold : ∀ (l : List Te) (vs : List Int), varsTs vs l = l.foldl varsT vs
  | [], _ => rfl
  | t :: l, vs => by rw [varsTs, varsTs_fold l]; rfl
theorem varsTs_app : ∀ (l m : List Te) (vs : List Int), varsTs vs (l ++ m) = varsTs (varsTs vs l) m
  | [], _, _ => rfl
  | t :: l, m, vs => by rw [List.cons_append, varsTs, varsTs, varsTs_app l]
theorem inVs_iff {V : List Int} : ∀ {l : List Te}, inVs V l ↔ ∀ t ∈ l, inV V t
  | [] => by simp [inVs]
  | t :: l => by rw [inVs, inVs_iff]; simp

mutual
theorem szT_mapV : ∀ t, szT (mapV f t) = szT t
  | .mk k n s l => by rw [mapV, szT, szT, szTs_mapV l]
theorem szTs_mapV : ∀ l, szTs (mapVs f l) = szTs l
  | [] => rfl
  | t :: l => by rw [mapVs, szTs, szTs, szT_mapV t, szTs_mapV l]
end
mutual
theorem mapV_congr {V : List Int} (h : ∀ x ∈ V, f x = g x) : ∀ t, inV V t → mapV f t = mapV g t
  | .mk k n s l, hi => by
    rw [mapV, mapV, mapVs_congr h l hi.2]
    by_cases hk : k = 0
    · rw [if_pos hk, if_pos hk, h n (hi.1 hk)]
    · rw [if_neg hk, if_neg hk]
theorem mapVs_congr {V : List Int} (h : ∀ x ∈ V, f x = g x) : ∀ l, inVs V l → mapVs f l = mapVs g l
  | [], _ => rfl
  | t :: l, hi => by rw [mapVs, mapVs, mapV_congr h t hi.1, mapVs_congr h l hi.2]
end
mutual
theorem mapV_comp : ∀ t, mapV f (mapV g t) = mapV (fun x => f (g x)) t
  | .mk k n s l => by
    rw [mapV, mapV, mapV, mapVs_comp l]
    by_cases hk : k = 0
    · simp [hk]
    · simp [hk]
theorem mapVs_comp : ∀ l, mapVs f (mapVs g l) = mapVs (fun x => f (g x)) l
  | [] => rfl
  | t :: l => by rw [mapVs, mapVs, mapVs, mapV_comp t, mapVs_comp l]
end
mutual
theorem mapV_id {V : List Int} (h : ∀ x ∈ V, f x = x) : ∀ t, inV V t → mapV f t = t
  | .mk k n s l, hi => by
    rw [mapV, mapVs_id h l hi.2]
    by_cases hk : k = 0
    · rw [if_pos hk, h n (hi.1 hk)]
    · rw [if_neg hk]
theorem mapVs_id {V : List Int} (h : ∀ x ∈ V, f x = x) : ∀ l, inVs V l → mapVs f l = l
  | [], _ => rfl
  | t :: l, hi => by rw [mapVs, mapV_id h t hi.1, mapVs_id h l hi.2]
end
mutual
theorem inV_mono {V W : List Int} (h : ∀ x ∈ V, x ∈ W) : ∀ t, inV V t → inV W t
  | .mk k n s l, hi => ⟨fun hk => h n (hi.1 hk), inVs_mono h l hi.2⟩
theorem inVs_mono {V W : List Int} (h : ∀ x ∈ V, x ∈ W) : ∀ l, inVs V l → inVs W l
  | [], _ => trivial
  | t :: l, hi => ⟨inV_mono h t hi.1, inVs_mono h l hi.2⟩
end
mutual
theorem inV_map {V : List Int} : ∀ t, inV V t → inV (V.map f) (mapV f t)
  | .mk k n s l, hi => by
    rw [mapV]
    refine ⟨fun hk => ?_, inVs_map l hi.2⟩
    rw [if_pos hk]
    exact List.mem_map.2 ⟨n, hi.1 hk, rfl⟩
theorem inVs_map {V : List Int} : ∀ l, inVs V l → inVs (V.map f) (mapVs f l)
  | [], _ => trivial
  | t :: l, hi => ⟨inV_map t hi.1, inVs_map l hi.2⟩
end
mutual
theorem varsT_pre : ∀ (t : Te) (vs : List Int), ∃ m, varsT vs t = vs ++ m
  | .mk k n s l, vs => by
    rw [varsT]
    obtain ⟨m, hm⟩ := varsTs_pre l (if k = 0 ∧ n ∉ vs then vs ++ [n] else vs)
    rw [hm]
    split
    · exact ⟨[n] ++ m, by simp⟩
    · exact ⟨m, rfl⟩
theorem varsTs_pre : ∀ (l : List Te) (vs : List Int), ∃ m, varsTs vs l = vs ++ m
  | [], vs => ⟨[], by simp [varsTs]⟩
  | t :: l, vs => by
    rw [varsTs]
    obtain ⟨m, hm⟩ := varsT_pre t vs
    obtain ⟨m', hm'⟩ := varsTs_pre l (varsT vs t)
    exact ⟨m ++ m', by rw [hm', hm]; simp⟩
end
theorem varsT_sub {t : Te} {vs : List Int} {x : Int} (h : x ∈ vs) : x ∈ varsT vs t := by
  obtain ⟨m, hm⟩ := varsT_pre t vs
  rw [hm]
  exact List.mem_append_left _ h
theorem varsTs_sub {t : List Te} {vs : List Int} {x : Int} (h : x ∈ vs) : x ∈ varsTs vs t := by
  obtain ⟨m, hm⟩ := varsTs_pre t vs
  rw [hm]
  exact List.mem_append_left _ h
mutual
theorem varsT_in : ∀ (t : Te) (vs : List Int), inV (varsT vs t) t
  | .mk k n s l, vs => by
    rw [varsT]
    refine ⟨fun hk => varsTs_sub ?_, varsTs_in l _⟩
    split
    · simp
    · rename_i h
      exact Classical.byContradiction fun hn => h ⟨hk, hn⟩
theorem varsTs_in : ∀ (l : List Te) (vs : List Int), inVs (varsTs vs l) l
  | [], vs => trivial
  | t :: l, vs => by
    rw [varsTs]
    exact ⟨inV_mono (fun x hx => varsTs_sub hx) t (varsT_in t vs), varsTs_in l _⟩
end
mutual
theorem varsT_nodup : ∀ (t : Te) (vs : List Int), vs.Nodup → (varsT vs t).Nodup
  | .mk k n s l, vs, h => by
    rw [varsT]
    refine varsTs_nodup l _ ?_
    split
    · rename_i hk
      rw [List.nodup_append]
      exact ⟨h, by simp, fun a ha b hb => by rw [List.mem_singleton.1 hb]; exact fun e => hk.2 (e ▸ ha)⟩
    · exact h
theorem varsTs_nodup : ∀ (l : List Te) (vs : List Int), vs.Nodup → (varsTs vs l).Nodup
  | [], vs, h => h
  | t :: l, vs, h => by
    rw [varsTs]
    exact varsTs_nodup l _ (varsT_nodup t vs h)
end
mutual
theorem varsT_len : ∀ (t : Te) (vs : List Int), (varsT vs t).length ≤ vs.length + szT t
  | .mk k n s l, vs => by
    rw [varsT, szT]
    refine Nat.le_trans (varsTs_len l _) ?_
    split
    · simp; omega
    · omega
theorem varsTs_len : ∀ (l : List Te) (vs : List Int), (varsTs vs l).length ≤ vs.length + szTs l
  | [], vs => by simp [varsTs, szTs]
  | t :: l, vs => by
    rw [varsTs, szTs]
    have h1 := varsTs_len l (varsT vs t)
    have h2 := varsT_len t vs
    omega
end
theorem mem_map_inj {vs : List Int} {n : Int} (h : ∀ x ∈ vs, f x = f n → x = n) : f n ∈ vs.map f ↔ n ∈ vs := by
  rw [List.mem_map]
  exact ⟨fun ⟨x, hx, e⟩ => h x hx e ▸ hx, fun hn => ⟨n, hn, rfl⟩⟩
mutual
theorem varsT_map : ∀ (t : Te) (vs : List Int), (∀ x ∈ varsT vs t, ∀ y ∈ varsT vs t, f x = f y → x = y) → varsT (vs.map f) (mapV f t) = (varsT vs t).map f
  | .mk k n s l, vs, h => by
    rw [mapV, varsT, varsT]
    rw [varsT] at h
    rw [← varsTs_map l _ h]
    congr 1
    by_cases hk : k = 0
    · simp only [if_pos hk]
      by_cases hn : n ∈ vs
      · rw [if_neg (fun q => q.2 (List.mem_map.2 ⟨n, hn, rfl⟩)), if_neg (fun q => q.2 hn)]
      · rw [if_pos ⟨hk, hn⟩] at h
        have hm : f n ∉ vs.map f := fun q => hn ((mem_map_inj (fun x hx e => h x (varsTs_sub (List.mem_append_left _ hx)) n (varsTs_sub (by simp)) e)).1 q)
        rw [if_pos ⟨hk, hm⟩, if_pos ⟨hk, hn⟩]
        simp
    · rw [if_neg (fun q => hk q.1), if_neg (fun q => hk q.1)]
theorem varsTs_map : ∀ (l : List Te) (vs : List Int), (∀ x ∈ varsTs vs l, ∀ y ∈ varsTs vs l, f x = f y → x = y) → varsTs (vs.map f) (mapVs f l) = (varsTs vs l).map f
  | [], vs, _ => rfl
  | t :: l, vs, h => by
    rw [mapVs, varsTs, varsTs]
    rw [varsTs] at h
    rw [varsT_map t vs (fun x hx y hy => h x (varsTs_sub hx) y (varsTs_sub hy)), varsTs_map l _ h]
end
theorem nodeT_mk (k n : Int) (s : ByteArray) (l : List Te) : nodeT (.mk k n s l) = if k = 0 then decide (0 ≤ n) && (decide (n ≤ 1099511627776) && (decide (s = ⟨#[]⟩) && decide ((l.length : Int) = 0)))
  else if k = 1 then decide (s = ⟨#[]⟩) && decide ((l.length : Int) = 0)
  else if k = 2 then decide (n = 0) && (decide ((s.size : Int) ≤ 100) && decide ((l.length : Int) = 0))
  else if k = 3 then decide (n = 0) && (decide ((s.size : Int) ≤ 100) && (decide (1 ≤ (l.length : Int)) && decide ((l.length : Int) ≤ 8)))
  else false := rfl
theorem nodeT_map {V : List Int} (h : ∀ x ∈ V, 0 ≤ f x ∧ f x ≤ 1099511627776) {k n : Int} {s : ByteArray} {l m : List Te} (hm : m.length = l.length) (hi : k = 0 → n ∈ V) (hn : nodeT (.mk k n s l) = true) : nodeT (.mk k (if k = 0 then f n else n) s m) = true := by
  rw [nodeT_mk] at hn ⊢
  rw [hm]
  by_cases hk : k = 0
  · have := h n (hi hk)
    rw [if_pos hk] at hn
    rw [if_pos hk, if_pos hk]
    simp only [Bool.and_eq_true, decide_eq_true_eq] at hn ⊢
    exact ⟨this.1, this.2, hn.2.2⟩
  · rw [if_neg hk] at hn
    rw [if_neg hk, if_neg hk]
    exact hn
mutual
theorem nodesT_map {V : List Int} (h : ∀ x ∈ V, 0 ≤ f x ∧ f x ≤ 1099511627776) : ∀ t, inV V t → nodesT t = true → nodesT (mapV f t) = true
  | .mk k n s l, hi, hn => by
    rw [nodesT, Bool.and_eq_true] at hn
    rw [mapV, nodesT, Bool.and_eq_true]
    exact ⟨nodeT_map h (by rw [mapVs_map, List.length_map]) hi.1 hn.1, nodesTs_map h l hi.2 hn.2⟩
theorem nodesTs_map {V : List Int} (h : ∀ x ∈ V, 0 ≤ f x ∧ f x ≤ 1099511627776) : ∀ l, inVs V l → nodesTs l = true → nodesTs (mapVs f l) = true
  | [], _, _ => rfl
  | t :: l, hi, hn => by
    rw [nodesTs, Bool.and_eq_true] at hn
    rw [mapVs, nodesTs, Bool.and_eq_true]
    exact ⟨nodesT_map h t hi.1 hn.1, nodesTs_map h l hi.2 hn.2⟩
end
theorem validT_map {V : List Int} (h : ∀ x ∈ V, 0 ≤ f x ∧ f x ≤ 1099511627776) {t : Te} (hi : inV V t) (hv : validT t = true) : validT (mapV f t) = true := by
  simp only [validT, Bool.and_eq_true, decide_eq_true_eq, szT_mapV] at hv ⊢
  exact ⟨hv.1, nodesT_map h t hi hv.2⟩
end

/-! ### Positions -/
theorem posL_ge : ∀ (l : List Int) (x : Int), -1 ≤ posL l x
  | [], _ => by simp [posL]
  | a :: l, x => by
    have := posL_ge l x
    unfold posL
    split
    · omega
    · split <;> omega
theorem posL_mem : ∀ {l : List Int} {x : Int}, x ∈ l → 0 ≤ posL l x ∧ posL l x < l.length
  | a :: l, x, h => by
    unfold posL
    split
    · simp only [List.length_cons]; omega
    · rename_i hne
      have := posL_mem (l := l) (x := x) (by
        rcases List.mem_cons.1 h with rfl | h
        · exact absurd rfl hne
        · exact h)
      rw [if_neg (by omega)]
      simp only [List.length_cons]
      omega
theorem posL_not : ∀ {l : List Int} {x : Int}, x ∉ l → posL l x = -1
  | [], _, _ => rfl
  | a :: l, x, h => by
    unfold posL
    rw [if_neg (fun e : a = x => h (by rw [e]; exact List.mem_cons_self)), if_pos (by rw [posL_not fun q => h (List.mem_cons_of_mem _ q)]; omega)]
theorem posL_neg {l : List Int} {x : Int} : posL l x < 0 ↔ x ∉ l := ⟨fun h hm => by have := (posL_mem hm).1; omega, fun h => by rw [posL_not h]; omega⟩
theorem posL_app {l m : List Int} {x : Int} (h : x ∈ l) : posL (l ++ m) x = posL l x := by
  induction l with
  | nil => cases h
  | cons a l ih =>
    rw [List.cons_append]
    unfold posL
    by_cases e : a = x
    · rw [if_pos e, if_pos e]
    · have hx : x ∈ l := by
        rcases List.mem_cons.1 h with rfl | h
        · exact absurd rfl e
        · exact h
      rw [if_neg e, if_neg e, ih hx]
theorem posL_snoc : ∀ {l : List Int} {x : Int}, x ∉ l → posL (l ++ [x]) x = l.length
  | [], x, _ => by simp [posL]
  | a :: l, x, h => by
    rw [List.cons_append]
    unfold posL
    have := posL_snoc (l := l) (x := x) fun q => h (List.mem_cons_of_mem _ q)
    rw [if_neg (fun e : a = x => h (by rw [e]; exact List.mem_cons_self)), this, if_neg (by omega)]
    simp
theorem posL_hit : ∀ {l : List Int} {x : Int} {k : Nat}, k < l.length → l.getD k 0 = x → (∀ j, j < k → l.getD j 0 ≠ x) → posL l x = k
  | a :: l, x, 0, _, h, _ => by
    unfold posL
    rw [if_pos (by simpa using h)]
    rfl
  | a :: l, x, k + 1, hk, h, hn => by
    unfold posL
    have := posL_hit (l := l) (x := x) (k := k) (by simpa using hk) (by simpa using h) (fun j hj => by simpa using hn (j + 1) (by omega))
    rw [if_neg (by simpa using hn 0 (by omega)), this, if_neg (by omega)]
    simp
theorem posL_map {f : Int → Int} : ∀ {V : List Int} {x : Int}, x ∈ V → (∀ y ∈ V, f y = f x → y = x) → posL (V.map f) (f x) = posL V x
  | a :: l, x, h, hi => by
    rw [List.map_cons]
    unfold posL
    by_cases e : a = x
    · rw [if_pos e, if_pos (by rw [e])]
    · have hx : x ∈ l := by
        rcases List.mem_cons.1 h with rfl | h
        · exact absurd rfl e
        · exact h
      rw [if_neg e, if_neg (fun q => e (hi a List.mem_cons_self q)), posL_map hx fun y hy => hi y (List.mem_cons_of_mem _ hy)]
theorem posL_inj : ∀ {l : List Int} {x y : Int}, x ∈ l → y ∈ l → posL l x = posL l y → x = y
  | a :: l, x, y, hx, hy, h => by
    unfold posL at h
    by_cases e1 : a = x
    · by_cases e2 : a = y
      · rw [← e1, ← e2]
      · have hy' : y ∈ l := by
          rcases List.mem_cons.1 hy with rfl | h
          · exact absurd rfl e2
          · exact h
        have := (posL_mem hy').1
        rw [if_pos e1, if_neg e2, if_neg (by omega)] at h
        omega
    · have hx' : x ∈ l := by
        rcases List.mem_cons.1 hx with rfl | h
        · exact absurd rfl e1
        · exact h
      have h1 := (posL_mem hx').1
      by_cases e2 : a = y
      · rw [if_neg e1, if_pos e2, if_neg (by omega)] at h
        omega
      · have hy' : y ∈ l := by
          rcases List.mem_cons.1 hy with rfl | h
          · exact absurd rfl e2
          · exact h
        have h2 := (posL_mem hy').1
        rw [if_neg e1, if_neg e2, if_neg (by omega), if_neg (by omega)] at h
        exact posL_inj hx' hy' (by omega)
theorem posL_range : ∀ (V : List Int), V.Nodup → V.map (posL V) = rangeI V.length
  | [], _ => rfl
  | a :: l, h => by
    have hl := List.nodup_cons.1 h
    have ih := posL_range l hl.2
    have e1 : posL (a :: l) a = 0 := by unfold posL; rw [if_pos rfl]
    have e2 : l.map (posL (a :: l)) = (l.map (posL l)).map (· + 1) := by
      rw [List.map_map]
      refine List.map_congr_left fun x hx => ?_
      have := (posL_mem hx).1
      show posL (a :: l) x = posL l x + 1
      have e : posL (a :: l) x = if a = x then 0 else if posL l x < 0 then -1 else posL l x + 1 := by
        conv => lhs; unfold posL
      rw [e, if_neg (fun e : a = x => hl.1 (by rw [e]; exact hx)), if_neg (by omega)]
    rw [List.map_cons, e1, e2, ih]
    unfold rangeI
    rw [List.length_cons, List.range_succ_eq_map, List.map_cons, List.map_map, List.map_map]
    rfl
theorem rangeI_pos {n : Nat} {x : Int} (h : x ∈ rangeI n) : posL (rangeI n) x = x := by
  obtain ⟨k, hk, rfl⟩ := List.mem_map.1 h
  have hk := List.mem_range.1 hk
  have hg : ∀ j, j < n → (rangeI n).getD j 0 = j := fun j hj => by simp [rangeI, List.getD_eq_getElem?_getD, hj]
  refine posL_hit (k := k) (by simp [rangeI]; exact hk) (hg k hk) fun j hj => ?_
  rw [hg j (by omega)]
  show (j : Int) ≠ (k : Int)
  omega
theorem rangeI_nodup (n : Nat) : (rangeI n).Nodup := by
  unfold rangeI
  exact List.Pairwise.map _ (fun a b h e => h (Int.ofNat.inj e)) List.nodup_range
end Go.Proofs.Ytflahdpkkgmpeaa

namespace Go.Proofs.Ytflahdpkkgmpeaa
open Go.RowKit
set_option linter.unusedVariables false
set_option linter.unusedSimpArgs false

def cloneT (t : Te) : Te := if validT t then t else zT
theorem ok_term_cloneT : FOk ct_term_Clone (gTT cloneT) := ok_term_Clone
theorem ok_term_identical : FOk ct_term_identical (gTTb idT) := fok_cut (m := mT) enter_term_identical fun N ih => fok_term_identical ih fun ds outs hw hg => by
  obtain ⟨d, r, rfl, hd, e, r', rfl, he, rfl⟩ := hw
  obtain ⟨t, rfl, ht⟩ := wfT hd
  obtain ⟨u, rfl, hu⟩ := wfT he
  simp only [cutM, mT, gTTb, List.getD_cons_zero, dT_eT, int_i, Option.ite_none_right_eq_some, Option.some.injEq] at hg
  obtain ⟨hsz, rfl⟩ := hg
  have hl := ht.l
  have no : (¬ idT t u = true) → [D.b false] = [D.b (idT t u)] := fun h => by rw [Bool.eq_false_iff.2 h]
  simp only [tree_term_identical, go_need, go_br, go_leaf, go_back, allSay, X.says, X.ev, X.evs, evl, tblS, List.getD_cons_zero, List.getD_cons_succ, List.getElem?_cons_zero, List.getElem?_cons_succ, tt_b, int_i, str_s, rs_r, Option.isSome_some, Option.getD_some, decide_eq_true_eq, decide_eq_false_iff_not, List.length_map, i_inj, b_inj, s_inj, rng64, List.take_succ_cons, List.take_zero, List.nil_append, List.cons_append, decide_true, decide_false, Bool.or_true, true_and, and_true, dT_eT, eT_0, eT_1, eT_2, eT_3, eT_eq, eT_z, gTTb]
  refine ⟨fun hn => no fun h => ?_, fun hn => ?_⟩
  · obtain ⟨e1, e2, e3, e4, -⟩ := same_iff.1 h
    simp [e1, e2, e3, e4] at hn
  simp only [Bool.or_eq_false_iff, Bool.not_eq_false', decide_eq_true_eq] at hn
  obtain ⟨⟨⟨e1, e2⟩, e3⟩, e4⟩ := hn
  have e4 : t.l.length = u.l.length := by omega
  rw [go_loop]
  refine ⟨fun st => ∃ k : Nat, k ≤ t.l.length ∧ st = [.b false, .i k] ∧ ∀ j, j < k → idT (t.l.getD j default) (u.l.getD j default) = true, fun st => t.l.length - (st.getD 1 .u).int.toNat, ⟨0, Nat.zero_le _, rfl, fun j hj => absurd hj (Nat.not_lt_zero _)⟩, ?_⟩
  rintro st - ⟨k, hk, rfl, hP⟩
  rw [go_br]
  refine ⟨fun hlt => ?_, fun hlt => ?_⟩
  · simp only [go_need, go_br, go_leaf, go_back, allSay, X.says, X.ev, X.evs, evl, tblS, List.getD_cons_zero, List.getD_cons_succ, List.getElem?_cons_zero, List.getElem?_cons_succ, tt_b, int_i, str_s, rs_r, Option.isSome_some, Option.getD_some, decide_eq_true_eq, decide_eq_false_iff_not, List.length_map, i_inj, b_inj, s_inj, rng64, List.take_succ_cons, List.take_zero, List.nil_append, List.cons_append, decide_true, decide_false, Bool.or_true, true_and, and_true, dT_eT, eT_0, eT_1, eT_2, eT_3, eT_eq, eT_z] at hlt
    have hkl' : k < t.l.length := by omega
    have hku' : k < u.l.length := by omega
    have ha := arg_sz hkl'
    simp only [go_need, go_br, go_leaf, go_back, allSay, X.says, X.ev, X.evs, evl, tblS, List.getD_cons_zero, List.getD_cons_succ, List.getElem?_cons_zero, List.getElem?_cons_succ, tt_b, int_i, str_s, rs_r, Option.isSome_some, Option.getD_some, decide_eq_true_eq, decide_eq_false_iff_not, List.length_map, i_inj, b_inj, s_inj, rng64, List.take_succ_cons, List.take_zero, List.nil_append, List.cons_append, decide_true, decide_false, Bool.or_true, true_and, and_true, dT_eT, eT_0, eT_1, eT_2, eT_3, eT_eq, eT_z, get_t hkl', get_t hku', cutM, mT, gTTb, if_pos (show szT (t.l.getD k default) < N by omega)]
    refine ⟨⟨by omega, by omega⟩, ⟨by omega, by omega⟩, fun hx => no fun h => ?_, fun hx => ⟨⟨by omega, by omega⟩, ?_⟩⟩
    · rw [(same_iff.1 h).2.2.2.2 k hkl'] at hx
      cases hx
    · rw [updB, if_pos rfl]
      refine ⟨⟨k + 1, by omega, by simp, upto_succ hP (by simpa using hx)⟩, ?_⟩
      simp [D.int]
      omega
  · simp only [go_need, go_br, go_leaf, go_back, allSay, X.says, X.ev, X.evs, evl, tblS, List.getD_cons_zero, List.getD_cons_succ, List.getElem?_cons_zero, List.getElem?_cons_succ, tt_b, int_i, str_s, rs_r, Option.isSome_some, Option.getD_some, decide_eq_true_eq, decide_eq_false_iff_not, List.length_map, i_inj, b_inj, s_inj, rng64, List.take_succ_cons, List.take_zero, List.nil_append, List.cons_append, decide_true, decide_false, Bool.or_true, true_and, and_true, dT_eT, eT_0, eT_1, eT_2, eT_3, eT_eq, eT_z] at hlt ⊢
    have : k = t.l.length := by omega
    subst this
    rw [same_iff.2 ⟨e1, e2, e3, e4, hP⟩]
theorem ok_term_Same : FOk ct_term_Same (gTTb sameT) := fok_term_Same ok_term_Valid ok_term_identical fun ds outs hw hg => by
  obtain ⟨d, r, rfl, hd, e, r', rfl, he, rfl⟩ := hw
  obtain ⟨t, rfl, ht⟩ := wfT hd
  obtain ⟨u, rfl, hu⟩ := wfT he
  simp only [gTTb, dT_eT, Option.some.injEq] at hg
  subst hg
  simp [tree_term_Same, go_need, go_br, go_leaf, go_back, allSay, X.says, X.ev, X.evs, evl, tblS, List.getD_cons_zero, List.getD_cons_succ, List.getElem?_cons_zero, List.getElem?_cons_succ, tt_b, int_i, str_s, rs_r, Option.isSome_some, Option.getD_some, decide_eq_true_eq, decide_eq_false_iff_not, List.length_map, i_inj, b_inj, s_inj, rng64, List.take_succ_cons, List.take_zero, List.nil_append, List.cons_append, decide_true, decide_false, Bool.or_true, true_and, and_true, dT_eT, eT_0, eT_1, eT_2, eT_3, eT_eq, eT_z, gTb, gTTb, sameT, Bool.and_assoc]
/-- A structure of a name and arguments; an atom without. -/
def struT (s : ByteArray) (l : List Te) : Te := if l.length = 0 then atomT s else cloneT (.mk 3 0 s l)
def gSL (f : ByteArray → List Te → Te) : List D → Option (List D)
  | [s, l] => some [eT (f s.str (l.rs.map dT))]
  | _ => none
theorem map_dT (l : List Te) : (l.map eT).map dT = l := by
  rw [List.map_map]
  have : dT ∘ eT = id := funext dT_eT
  rw [this, List.map_id]
theorem ok_term_Struct : FOk ct_term_Struct (gSL struT) := fok_term_Struct ok_term_Atom ok_term_cloneT fun ds outs hw hg => by
  obtain ⟨d, r, rfl, hd, e, r', rfl, he, rfl⟩ := hw
  obtain ⟨s, rfl, hs⟩ := hd.str
  obtain ⟨l, rfl, hl, -⟩ := wfTs he
  simp only [gSL, str_s, rs_r, map_dT, Option.some.injEq] at hg
  subst hg
  have e : D.a (((D.a [.i 0, .i 0, .s ⟨#[]⟩, .r []]).fs.set 0 (.i 3)).set 2 (.s s) |>.set 3 (.r (l.map eT))) = eT (.mk 3 0 s l) := by rw [eT_mk]; rfl
  have e2 : D.a (((eT zT).fs.set 0 (.i 3)).set 2 (.s s) |>.set 3 (.r (l.map eT))) = eT (.mk 3 0 s l) := e
  simp only [tree_term_Struct, go_need, go_br, go_leaf, go_back, allSay, X.says, X.ev, X.evs, evl, tblS, List.getD_cons_zero, List.getD_cons_succ, List.getElem?_cons_zero, List.getElem?_cons_succ, tt_b, int_i, str_s, rs_r, Option.isSome_some, Option.getD_some, decide_eq_true_eq, decide_eq_false_iff_not, List.length_map, i_inj, b_inj, s_inj, rng64, List.take_succ_cons, List.take_zero, List.nil_append, List.cons_append, decide_true, decide_false, Bool.or_true, true_and, and_true, dT_eT, eT_0, eT_1, eT_2, eT_3, eT_eq, eT_z, gSt, gTT, fs_a, struT, e, e2]
  refine ⟨fun h => ?_, fun h => ?_⟩
  · rw [if_pos (by omega)]
  · rw [if_neg (by omega)]
theorem ok_ref03_copied : FOk ct_ref03_copied (gTT id) := fok_cut (m := mT) enter_ref03_copied fun N ih => fok_ref03_copied ih fun ds outs hw hg => by
  obtain ⟨d, r, rfl, hd, rfl⟩ := hw
  obtain ⟨t, rfl, ht⟩ := wfT hd
  simp only [cutM, mT, gTT, List.getD_cons_zero, dT_eT, int_i, Option.ite_none_right_eq_some, Option.some.injEq] at hg
  obtain ⟨hsz, rfl⟩ := hg
  have hl := ht.l
  rw [tree_ref03_copied, go_loop]
  refine ⟨fun st => ∃ k : Nat, k ≤ t.l.length ∧ st = [.i k, eT (.mk t.k t.n t.s (t.l.take k))], fun st => t.l.length - (st.getD 0 .u).int.toNat, ⟨0, Nat.zero_le _, by simp only [X.evs, X.ev, evl, List.getD_cons_zero, eT_0, eT_1, eT_2, eT_mk]; rfl⟩, ?_⟩
  rintro st - ⟨k, hk, rfl⟩
  rw [go_br]
  refine ⟨fun hlt => ?_, fun hlt => ?_⟩
  · simp only [go_need, go_br, go_leaf, go_back, allSay, X.says, X.ev, X.evs, evl, tblS, List.getD_cons_zero, List.getD_cons_succ, List.getElem?_cons_zero, List.getElem?_cons_succ, tt_b, int_i, str_s, rs_r, Option.isSome_some, Option.getD_some, decide_eq_true_eq, decide_eq_false_iff_not, List.length_map, i_inj, b_inj, s_inj, rng64, List.take_succ_cons, List.take_zero, List.nil_append, List.cons_append, decide_true, decide_false, Bool.or_true, true_and, and_true, dT_eT, eT_0, eT_1, eT_2, eT_3, eT_eq, eT_z] at hlt
    have hkl' : k < t.l.length := by omega
    have ha := arg_sz hkl'
    simp only [go_need, go_br, go_leaf, go_back, allSay, X.says, X.ev, X.evs, evl, tblS, List.getD_cons_zero, List.getD_cons_succ, List.getElem?_cons_zero, List.getElem?_cons_succ, tt_b, int_i, str_s, rs_r, Option.isSome_some, Option.getD_some, decide_eq_true_eq, decide_eq_false_iff_not, List.length_map, i_inj, b_inj, s_inj, rng64, List.take_succ_cons, List.take_zero, List.nil_append, List.cons_append, decide_true, decide_false, Bool.or_true, true_and, and_true, dT_eT, eT_0, eT_1, eT_2, eT_3, eT_eq, eT_z, get_t hkl', cutM, mT, gTT, if_pos (show szT (t.l.getD k default) < N by omega), id, Te_l, List.length_take]
    refine ⟨⟨by omega, by omega, by omega⟩, ⟨by omega, by omega⟩, ?_⟩
    rw [updB, if_pos rfl]
    refine ⟨⟨k + 1, by omega, ?_⟩, ?_⟩
    · rw [take_snoc hkl', eT_snoc]
      rfl
    · simp [D.int]
      omega
  · simp only [go_need, go_br, go_leaf, go_back, allSay, X.says, X.ev, X.evs, evl, tblS, List.getD_cons_zero, List.getD_cons_succ, List.getElem?_cons_zero, List.getElem?_cons_succ, tt_b, int_i, str_s, rs_r, Option.isSome_some, Option.getD_some, decide_eq_true_eq, decide_eq_false_iff_not, List.length_map, i_inj, b_inj, s_inj, rng64, List.take_succ_cons, List.take_zero, List.nil_append, List.cons_append, decide_true, decide_false, Bool.or_true, true_and, and_true, dT_eT, eT_0, eT_1, eT_2, eT_3, eT_eq, eT_z] at hlt ⊢
    have : k = t.l.length := by omega
    subst this
    rw [List.take_length]
    cases t
    rfl
theorem ok_ref03_Clone : FOk ct_ref03_Clone (gTT cloneT) := fok_ref03_Clone ok_ref03_Valid ok_ref03_copied fun ds outs hw hg => by
  obtain ⟨d, r, rfl, hd, rfl⟩ := hw
  obtain ⟨t, rfl, ht⟩ := wfT hd
  simp only [gTT, dT_eT, Option.some.injEq] at hg
  subst hg
  simp only [tree_ref03_Clone, go_need, go_br, go_leaf, go_back, allSay, X.says, X.ev, X.evs, evl, tblS, List.getD_cons_zero, List.getD_cons_succ, List.getElem?_cons_zero, List.getElem?_cons_succ, tt_b, int_i, str_s, rs_r, Option.isSome_some, Option.getD_some, decide_eq_true_eq, decide_eq_false_iff_not, List.length_map, i_inj, b_inj, s_inj, rng64, List.take_succ_cons, List.take_zero, List.nil_append, List.cons_append, decide_true, decide_false, Bool.or_true, true_and, and_true, dT_eT, eT_0, eT_1, eT_2, eT_3, eT_eq, eT_z, gTb, gTT, id, cloneT]
  cases validT t <;> simp
def sameAllT (l m : List Te) : Bool := decide (l.length = m.length) && (List.range l.length).all fun j => sameT (l.getD j default) (m.getD j default)
def gLLb (f : List Te → List Te → Bool) : List D → Option (List D)
  | [l, m] => some [.b (f (l.rs.map dT) (m.rs.map dT))]
  | _ => none
theorem ok_ref03_SameAll : FOk ct_ref03_SameAll (gLLb sameAllT) := fok_ref03_SameAll ok_ref03_Same fun ds outs hw hg => by
  obtain ⟨d, r, rfl, hd, e, r', rfl, he, rfl⟩ := hw
  obtain ⟨l, rfl, hl, -⟩ := wfTs hd
  obtain ⟨m, rfl, hm, -⟩ := wfTs he
  simp only [gLLb, rs_r, map_dT, Option.some.injEq] at hg
  subst hg
  simp only [tree_ref03_SameAll, go_need, go_br, go_leaf, go_back, allSay, X.says, X.ev, X.evs, evl, tblS, List.getD_cons_zero, List.getD_cons_succ, List.getElem?_cons_zero, List.getElem?_cons_succ, tt_b, int_i, str_s, rs_r, Option.isSome_some, Option.getD_some, decide_eq_true_eq, decide_eq_false_iff_not, List.length_map, i_inj, b_inj, s_inj, rng64, List.take_succ_cons, List.take_zero, List.nil_append, List.cons_append, decide_true, decide_false, Bool.or_true, true_and, and_true, dT_eT, eT_0, eT_1, eT_2, eT_3, eT_eq, eT_z, gTTb]
  refine ⟨fun hn => ?_, fun hn => ?_⟩
  · rw [sameAllT, show decide (l.length = m.length) = false by simp at hn ⊢; omega]
    rfl
  have hn : l.length = m.length := by simp at hn; omega
  rw [go_loop]
  refine ⟨fun st => ∃ k : Nat, k ≤ l.length ∧ st = [.b false, .i k] ∧ ∀ j, j < k → sameT (l.getD j default) (m.getD j default) = true, fun st => l.length - (st.getD 1 .u).int.toNat, ⟨0, Nat.zero_le _, rfl, fun j hj => absurd hj (Nat.not_lt_zero _)⟩, ?_⟩
  rintro st - ⟨k, hk, rfl, hP⟩
  rw [go_br]
  refine ⟨fun hlt => ?_, fun hlt => ?_⟩
  · simp only [go_need, go_br, go_leaf, go_back, allSay, X.says, X.ev, X.evs, evl, tblS, List.getD_cons_zero, List.getD_cons_succ, List.getElem?_cons_zero, List.getElem?_cons_succ, tt_b, int_i, str_s, rs_r, Option.isSome_some, Option.getD_some, decide_eq_true_eq, decide_eq_false_iff_not, List.length_map, i_inj, b_inj, s_inj, rng64, List.take_succ_cons, List.take_zero, List.nil_append, List.cons_append, decide_true, decide_false, Bool.or_true, true_and, and_true, dT_eT, eT_0, eT_1, eT_2, eT_3, eT_eq, eT_z] at hlt
    have hkl : k < l.length := by omega
    have hkm : k < m.length := by omega
    simp only [go_need, go_br, go_leaf, go_back, allSay, X.says, X.ev, X.evs, evl, tblS, List.getD_cons_zero, List.getD_cons_succ, List.getElem?_cons_zero, List.getElem?_cons_succ, tt_b, int_i, str_s, rs_r, Option.isSome_some, Option.getD_some, decide_eq_true_eq, decide_eq_false_iff_not, List.length_map, i_inj, b_inj, s_inj, rng64, List.take_succ_cons, List.take_zero, List.nil_append, List.cons_append, decide_true, decide_false, Bool.or_true, true_and, and_true, dT_eT, eT_0, eT_1, eT_2, eT_3, eT_eq, eT_z, get_t hkl, get_t hkm, gTTb]
    refine ⟨⟨by omega, by omega, by omega, by omega⟩, fun hx => ?_, fun hx => ⟨⟨by omega, by omega⟩, ?_⟩⟩
    · rw [sameAllT, all_not hkl (by simpa using hx), Bool.and_false]
    · rw [updB, if_pos rfl]
      refine ⟨⟨k + 1, by omega, by simp, upto_succ hP (by simpa using hx)⟩, ?_⟩
      simp [D.int]
      omega
  · simp only [go_need, go_br, go_leaf, go_back, allSay, X.says, X.ev, X.evs, evl, tblS, List.getD_cons_zero, List.getD_cons_succ, List.getElem?_cons_zero, List.getElem?_cons_succ, tt_b, int_i, str_s, rs_r, Option.isSome_some, Option.getD_some, decide_eq_true_eq, decide_eq_false_iff_not, List.length_map, i_inj, b_inj, s_inj, rng64, List.take_succ_cons, List.take_zero, List.nil_append, List.cons_append, decide_true, decide_false, Bool.or_true, true_and, and_true, dT_eT, eT_0, eT_1, eT_2, eT_3, eT_eq, eT_z] at hlt ⊢
    have : k = l.length := by omega
    subst this
    rw [sameAllT, all_yes hP, Bool.and_true, decide_eq_true hn]

/-- The body of the last loop that a tree shows. -/
def bodyOf : Tree → Tree
  | .br _ _ e => bodyOf e
  | .need _ t => bodyOf t
  | .loop _ _ _ b => b
  | t => t
/-! ### Variables -/
def eIs (l : List Int) : D := .r (l.map .i)
def dIs (d : D) : List Int := d.rs.map D.int
theorem dIs_eIs (l : List Int) : dIs (eIs l) = l := by
  show (l.map .i).map D.int = l
  rw [List.map_map]
  have : D.int ∘ D.i = id := funext fun _ => rfl
  rw [this, List.map_id]
theorem eIs_len (l : List Int) : (eIs l).rs.length = l.length := by simp [eIs, rs_r]
theorem eIs_snoc (l : List Int) (x : Int) : D.r ((eIs l).rs ++ [.i x]) = eIs (l ++ [x]) := by simp [eIs, rs_r]
theorem eIs_get {l : List Int} {k : Nat} (h : k < l.length) : (eIs l).get (k : Int) = .i (l.getD k 0) := by
  show (l.map D.i).getD k .u = _
  simp [List.getD_eq_getElem?_getD, h]
theorem wfIs {d : D} {E : TypeId} (hE : tyOf E = some (.int .i64)) (h : Wf d (.row E)) : ∃ l : List Int, d = eIs l ∧ l.length ≤ 17592186043904 ∧ ∀ x ∈ l, i64 x := by
  obtain ⟨l, rfl, h1, h2⟩ := h.row_of (te := .int .i64) hE
  obtain ⟨m, rfl, h3⟩ := of_all (e := D.i) (P := fun n => i64 n) fun x hx => wfI (h2 x hx)
  refine ⟨m, rfl, ?_, h3⟩
  have e : LM (.int .i64) = 17592186043904 := by kernel_rfl
  rw [List.length_map] at h1
  omega
def gPos : List D → Option (List D)
  | [vs, n] => some [.i (posL (dIs vs) n.int)]
  | _ => none
theorem ty_i64 : tyOf 2 = some (.int .i64) := by kernel_rfl
theorem ok_ref03_position : FOk ct_ref03_position gPos := fok_ref03_position fun ds outs hw hg => by
  obtain ⟨d, r, rfl, hd, e, r', rfl, he, rfl⟩ := hw
  obtain ⟨l, rfl, hl, -⟩ := wfIs ty_i64 hd
  obtain ⟨n, rfl, hn⟩ := wfI he
  simp only [gPos, dIs_eIs, int_i, Option.some.injEq] at hg
  subst hg
  rw [tree_ref03_position, go_loop]
  refine ⟨fun st => ∃ k : Nat, k ≤ l.length ∧ st = [.i 0, .i k] ∧ ∀ j, j < k → l.getD j 0 ≠ n, fun st => l.length - (st.getD 1 .u).int.toNat, ⟨0, Nat.zero_le _, rfl, fun j hj => absurd hj (Nat.not_lt_zero _)⟩, ?_⟩
  rintro st - ⟨k, hk, rfl, hP⟩
  rw [go_br]
  refine ⟨fun hlt => ?_, fun hlt => ?_⟩
  · simp only [go_need, go_br, go_leaf, go_back, allSay, X.says, X.ev, X.evs, evl, tblS, List.getD_cons_zero, List.getD_cons_succ, List.getElem?_cons_zero, List.getElem?_cons_succ, tt_b, int_i, str_s, rs_r, Option.isSome_some, Option.getD_some, decide_eq_true_eq, decide_eq_false_iff_not, List.length_map, i_inj, b_inj, s_inj, rng64, List.take_succ_cons, List.take_zero, List.nil_append, List.cons_append, decide_true, decide_false, Bool.or_true, true_and, and_true, dT_eT, eT_0, eT_1, eT_2, eT_3, eT_eq, eT_z, eIs_len] at hlt
    have hkl : k < l.length := by omega
    simp only [go_need, go_br, go_leaf, go_back, allSay, X.says, X.ev, X.evs, evl, tblS, List.getD_cons_zero, List.getD_cons_succ, List.getElem?_cons_zero, List.getElem?_cons_succ, tt_b, int_i, str_s, rs_r, Option.isSome_some, Option.getD_some, decide_eq_true_eq, decide_eq_false_iff_not, List.length_map, i_inj, b_inj, s_inj, rng64, List.take_succ_cons, List.take_zero, List.nil_append, List.cons_append, decide_true, decide_false, Bool.or_true, true_and, and_true, dT_eT, eT_0, eT_1, eT_2, eT_3, eT_eq, eT_z, eIs_len, eIs_get hkl]
    refine ⟨⟨by omega, by omega⟩, fun hx => ?_, fun hx => ⟨⟨by omega, by omega⟩, ?_⟩⟩
    · rw [posL_hit hkl hx hP]
    · rw [updB, if_pos rfl]
      refine ⟨⟨k + 1, by omega, by simp, upto_succ hP hx⟩, ?_⟩
      simp [D.int]
      omega
  · simp only [go_need, go_br, go_leaf, go_back, allSay, X.says, X.ev, X.evs, evl, tblS, List.getD_cons_zero, List.getD_cons_succ, List.getElem?_cons_zero, List.getElem?_cons_succ, tt_b, int_i, str_s, rs_r, Option.isSome_some, Option.getD_some, decide_eq_true_eq, decide_eq_false_iff_not, List.length_map, i_inj, b_inj, s_inj, rng64, List.take_succ_cons, List.take_zero, List.nil_append, List.cons_append, decide_true, decide_false, Bool.or_true, true_and, and_true, dT_eT, eT_0, eT_1, eT_2, eT_3, eT_eq, eT_z, eIs_len] at hlt ⊢
    have : k = l.length := by omega
    subst this
    rw [posL_not fun hm => by
      obtain ⟨j, hj, e⟩ := List.getElem_of_mem hm
      exact hP j hj (by rw [List.getD_eq_getElem?_getD, List.getElem?_eq_getElem hj]; exact e)]
def mT1 (ds : List D) : Nat := szT (dT (ds.getD 1 .u))
def gVars : List D → Option (List D)
  | [vs, t] => if (dIs vs).length + szT (dT t) ≤ 1000000 then some [eIs (varsT (dIs vs) (dT t))] else none
  | _ => none
theorem varsTs_snoc {vs : List Int} {l : List Te} {k : Nat} (h : k < l.length) : varsTs vs (l.take (k + 1)) = varsT (varsTs vs (l.take k)) (l.getD k default) := by
  rw [take_snoc h, varsTs_app]
  rfl
theorem varsT_t (vs : List Int) (t : Te) : varsT vs t = varsTs (if t.k = 0 ∧ t.n ∉ vs then vs ++ [t.n] else vs) t.l := by cases t; rfl
theorem ok_ref03_vars : FOk ct_ref03_vars gVars := fok_cut (m := mT1) enter_ref03_vars fun N ih => fok_ref03_vars ok_ref03_position ih fun ds outs hw hg => by
  obtain ⟨d, r, rfl, hd, e, r', rfl, he, rfl⟩ := hw
  obtain ⟨vs, rfl, hvs, -⟩ := wfIs ty_i64 hd
  obtain ⟨t, rfl, ht⟩ := wfT he
  simp only [cutM, mT1, gVars, List.getD_cons_zero, List.getD_cons_succ, dT_eT, dIs_eIs, Option.ite_none_right_eq_some, Option.some.injEq] at hg
  obtain ⟨hsz, hlen, rfl⟩ := hg
  have hl := ht.l
  have key : ∀ (x : X) (V : List Int), V.length ≤ vs.length + 1 → V.length + szTs t.l ≤ 1000000 → varsTs V t.l = varsT vs t → x.ev (evl (tblS [(ct_ref03_position, gPos), (ct_ref03_vars, cutM mT1 N gVars)]) [eIs vs, eT t]) = eIs V → Tree.go (tblS [(ct_ref03_position, gPos), (ct_ref03_vars, cutM mT1 N gVars)]) (fun o => o = [eIs (varsT vs t)]) (.loop 4 2 [x, (.lit (.i 0))] (bodyOf tree_ref03_vars)) [eIs vs, eT t] fun _ _ => False := by
    intro x V hV1 hV2 hV3 hx
    rw [go_loop]
    simp only [bodyOf, tree_ref03_vars]
    refine ⟨fun st => ∃ k : Nat, k ≤ t.l.length ∧ st = [eIs (varsTs V (t.l.take k)), .i k], fun st => t.l.length - (st.getD 1 .u).int.toNat, ⟨0, Nat.zero_le _, by simp only [X.evs, hx, X.ev]; rfl⟩, ?_⟩
    rintro st - ⟨k, hk, rfl⟩
    rw [go_br]
    refine ⟨fun hlt => ?_, fun hlt => ?_⟩
    · simp only [go_need, go_br, go_leaf, go_back, allSay, X.says, X.ev, X.evs, evl, tblS, List.getD_cons_zero, List.getD_cons_succ, List.getElem?_cons_zero, List.getElem?_cons_succ, tt_b, int_i, str_s, rs_r, Option.isSome_some, Option.getD_some, decide_eq_true_eq, decide_eq_false_iff_not, List.length_map, i_inj, b_inj, s_inj, rng64, List.take_succ_cons, List.take_zero, List.nil_append, List.cons_append, decide_true, decide_false, Bool.or_true, true_and, and_true, dT_eT, eT_0, eT_1, eT_2, eT_3, eT_eq, eT_z] at hlt
      have hkl' : k < t.l.length := by omega
      have ha := arg_sz hkl'
      have h1 := varsTs_len (t.l.take k) V
      have h2 := szTs_snoc hkl'
      have h3 : szTs (t.l.take (k + 1)) ≤ szTs t.l := by
        have := szTs_app (t.l.take (k + 1)) (t.l.drop (k + 1))
        rw [List.take_append_drop] at this
        omega
      simp only [go_need, go_br, go_leaf, go_back, allSay, X.says, X.ev, X.evs, evl, tblS, List.getD_cons_zero, List.getD_cons_succ, List.getElem?_cons_zero, List.getElem?_cons_succ, tt_b, int_i, str_s, rs_r, Option.isSome_some, Option.getD_some, decide_eq_true_eq, decide_eq_false_iff_not, List.length_map, i_inj, b_inj, s_inj, rng64, List.take_succ_cons, List.take_zero, List.nil_append, List.cons_append, decide_true, decide_false, Bool.or_true, true_and, and_true, dT_eT, eT_0, eT_1, eT_2, eT_3, eT_eq, eT_z, get_t hkl', cutM, mT1, gVars, dIs_eIs, if_pos (show szT (t.l.getD k default) < N by omega), if_pos (show (varsTs V (t.l.take k)).length + szT (t.l.getD k default) ≤ 1000000 by omega)]
      refine ⟨⟨by omega, by omega⟩, ⟨by omega, by omega⟩, ?_⟩
      rw [updB, if_pos rfl]
      refine ⟨⟨k + 1, by omega, by rw [varsTs_snoc hkl']; rfl⟩, ?_⟩
      simp [D.int]
      omega
    · simp only [go_need, go_br, go_leaf, go_back, allSay, X.says, X.ev, X.evs, evl, tblS, List.getD_cons_zero, List.getD_cons_succ, List.getElem?_cons_zero, List.getElem?_cons_succ, tt_b, int_i, str_s, rs_r, Option.isSome_some, Option.getD_some, decide_eq_true_eq, decide_eq_false_iff_not, List.length_map, i_inj, b_inj, s_inj, rng64, List.take_succ_cons, List.take_zero, List.nil_append, List.cons_append, decide_true, decide_false, Bool.or_true, true_and, and_true, dT_eT, eT_0, eT_1, eT_2, eT_3, eT_eq, eT_z] at hlt ⊢
      have : k = t.l.length := by omega
      subst this
      rw [List.take_length, hV3]
  have hs := szT_l t
  rw [tree_ref03_vars, go_need, go_br]
  refine ⟨by simp only [go_need, go_br, go_leaf, go_back, allSay, X.says, X.ev, X.evs, evl, tblS, List.getD_cons_zero, List.getD_cons_succ, List.getElem?_cons_zero, List.getElem?_cons_succ, tt_b, int_i, str_s, rs_r, Option.isSome_some, Option.getD_some, decide_eq_true_eq, decide_eq_false_iff_not, List.length_map, i_inj, b_inj, s_inj, rng64, List.take_succ_cons, List.take_zero, List.nil_append, List.cons_append, decide_true, decide_false, Bool.or_true, true_and, and_true, dT_eT, eT_0, eT_1, eT_2, eT_3, eT_eq, eT_z, gPos], fun h => ?_, fun h => ?_⟩
  · simp only [go_need, go_br, go_leaf, go_back, allSay, X.says, X.ev, X.evs, evl, tblS, List.getD_cons_zero, List.getD_cons_succ, List.getElem?_cons_zero, List.getElem?_cons_succ, tt_b, int_i, str_s, rs_r, Option.isSome_some, Option.getD_some, decide_eq_true_eq, decide_eq_false_iff_not, List.length_map, i_inj, b_inj, s_inj, rng64, List.take_succ_cons, List.take_zero, List.nil_append, List.cons_append, decide_true, decide_false, Bool.or_true, true_and, and_true, dT_eT, eT_0, eT_1, eT_2, eT_3, eT_eq, eT_z, gPos, dIs_eIs, Bool.and_eq_true, decide_eq_true_eq, posL_neg] at h
    rw [go_need]
    refine ⟨by simp only [go_need, go_br, go_leaf, go_back, allSay, X.says, X.ev, X.evs, evl, tblS, List.getD_cons_zero, List.getD_cons_succ, List.getElem?_cons_zero, List.getElem?_cons_succ, tt_b, int_i, str_s, rs_r, Option.isSome_some, Option.getD_some, decide_eq_true_eq, decide_eq_false_iff_not, List.length_map, i_inj, b_inj, s_inj, rng64, List.take_succ_cons, List.take_zero, List.nil_append, List.cons_append, decide_true, decide_false, Bool.or_true, true_and, and_true, dT_eT, eT_0, eT_1, eT_2, eT_3, eT_eq, eT_z, eIs_len]; omega, key _ (vs ++ [t.n]) (by simp) (by simp; omega) (by rw [varsT_t, if_pos h]) ?_⟩
    simp only [go_need, go_br, go_leaf, go_back, allSay, X.says, X.ev, X.evs, evl, tblS, List.getD_cons_zero, List.getD_cons_succ, List.getElem?_cons_zero, List.getElem?_cons_succ, tt_b, int_i, str_s, rs_r, Option.isSome_some, Option.getD_some, decide_eq_true_eq, decide_eq_false_iff_not, List.length_map, i_inj, b_inj, s_inj, rng64, List.take_succ_cons, List.take_zero, List.nil_append, List.cons_append, decide_true, decide_false, Bool.or_true, true_and, and_true, dT_eT, eT_0, eT_1, eT_2, eT_3, eT_eq, eT_z, eIs_snoc]
  · simp only [go_need, go_br, go_leaf, go_back, allSay, X.says, X.ev, X.evs, evl, tblS, List.getD_cons_zero, List.getD_cons_succ, List.getElem?_cons_zero, List.getElem?_cons_succ, tt_b, int_i, str_s, rs_r, Option.isSome_some, Option.getD_some, decide_eq_true_eq, decide_eq_false_iff_not, List.length_map, i_inj, b_inj, s_inj, rng64, List.take_succ_cons, List.take_zero, List.nil_append, List.cons_append, decide_true, decide_false, Bool.or_true, true_and, and_true, dT_eT, eT_0, eT_1, eT_2, eT_3, eT_eq, eT_z, gPos, dIs_eIs] at h
    refine key _ vs (by omega) (by omega) ?_ (by simp only [go_need, go_br, go_leaf, go_back, allSay, X.says, X.ev, X.evs, evl, tblS, List.getD_cons_zero, List.getD_cons_succ, List.getElem?_cons_zero, List.getElem?_cons_succ, tt_b, int_i, str_s, rs_r, Option.isSome_some, Option.getD_some, decide_eq_true_eq, decide_eq_false_iff_not, List.length_map, i_inj, b_inj, s_inj, rng64, List.take_succ_cons, List.take_zero, List.nil_append, List.cons_append, decide_true, decide_false, Bool.or_true, true_and, and_true, dT_eT, eT_0, eT_1, eT_2, eT_3, eT_eq, eT_z])
    rw [varsT_t, if_neg fun q => by rw [q.1, posL_not q.2] at h; simp at h]
def gVarsA : List D → Option (List D)
  | [l] => if szTs (l.rs.map dT) ≤ 100000 then some [eIs (varsTs [] (l.rs.map dT))] else none
  | _ => none
theorem sz_take {l : List Te} {k : Nat} (hk : k < l.length) : szTs (l.take k) + szT (l.getD k default) ≤ szTs l := by
  have h2 := szTs_snoc hk
  have := szTs_app (l.take (k + 1)) (l.drop (k + 1))
  rw [List.take_append_drop] at this
  omega
theorem ok_ref03_VarsAll : FOk ct_ref03_VarsAll gVarsA := fok_ref03_VarsAll ok_ref03_vars fun ds outs hw hg => by
  obtain ⟨d, r, rfl, hd, rfl⟩ := hw
  obtain ⟨l, rfl, hl, -⟩ := wfTs hd
  simp only [gVarsA, rs_r, map_dT, Option.ite_none_right_eq_some, Option.some.injEq] at hg
  obtain ⟨hsz, rfl⟩ := hg
  rw [tree_ref03_VarsAll, go_loop]
  refine ⟨fun st => ∃ k : Nat, k ≤ l.length ∧ st = [eIs (varsTs [] (l.take k)), .i k], fun st => l.length - (st.getD 1 .u).int.toNat, ⟨0, Nat.zero_le _, rfl⟩, ?_⟩
  rintro st - ⟨k, hk, rfl⟩
  rw [go_br]
  refine ⟨fun hlt => ?_, fun hlt => ?_⟩
  · simp only [go_need, go_br, go_leaf, go_back, allSay, X.says, X.ev, X.evs, evl, tblS, List.getD_cons_zero, List.getD_cons_succ, List.getElem?_cons_zero, List.getElem?_cons_succ, tt_b, int_i, str_s, rs_r, Option.isSome_some, Option.getD_some, decide_eq_true_eq, decide_eq_false_iff_not, List.length_map, i_inj, b_inj, s_inj, rng64, List.take_succ_cons, List.take_zero, List.nil_append, List.cons_append, decide_true, decide_false, Bool.or_true, true_and, and_true, dT_eT, eT_0, eT_1, eT_2, eT_3, eT_eq, eT_z] at hlt
    have hkl : k < l.length := by omega
    have h1 := varsTs_len (l.take k) []
    have h2 := sz_take hkl
    simp only [List.length_nil] at h1
    simp only [go_need, go_br, go_leaf, go_back, allSay, X.says, X.ev, X.evs, evl, tblS, List.getD_cons_zero, List.getD_cons_succ, List.getElem?_cons_zero, List.getElem?_cons_succ, tt_b, int_i, str_s, rs_r, Option.isSome_some, Option.getD_some, decide_eq_true_eq, decide_eq_false_iff_not, List.length_map, i_inj, b_inj, s_inj, rng64, List.take_succ_cons, List.take_zero, List.nil_append, List.cons_append, decide_true, decide_false, Bool.or_true, true_and, and_true, dT_eT, eT_0, eT_1, eT_2, eT_3, eT_eq, eT_z, get_t hkl, gVars, dIs_eIs, if_pos (show (varsTs [] (l.take k)).length + szT (l.getD k default) ≤ 1000000 by omega)]
    refine ⟨⟨by omega, by omega⟩, ⟨by omega, by omega⟩, ?_⟩
    rw [updB, if_pos rfl]
    refine ⟨⟨k + 1, by omega, by rw [varsTs_snoc hkl]; rfl⟩, ?_⟩
    simp [D.int]
    omega
  · simp only [go_need, go_br, go_leaf, go_back, allSay, X.says, X.ev, X.evs, evl, tblS, List.getD_cons_zero, List.getD_cons_succ, List.getElem?_cons_zero, List.getElem?_cons_succ, tt_b, int_i, str_s, rs_r, Option.isSome_some, Option.getD_some, decide_eq_true_eq, decide_eq_false_iff_not, List.length_map, i_inj, b_inj, s_inj, rng64, List.take_succ_cons, List.take_zero, List.nil_append, List.cons_append, decide_true, decide_false, Bool.or_true, true_and, and_true, dT_eT, eT_0, eT_1, eT_2, eT_3, eT_eq, eT_z] at hlt ⊢
    have : k = l.length := by omega
    subst this
    rw [List.take_length]
def gNum : List D → Option (List D)
  | [vs, t] => some [eT (numT (dIs vs) (dT t))]
  | _ => none
theorem mapV_t (f : Int → Int) (t : Te) : mapV f t = .mk t.k (if t.k = 0 then f t.n else t.n) t.s (t.l.map (mapV f)) := by cases t; rw [mapV_mk]; rfl
theorem ok_ref03_number : FOk ct_ref03_number gNum := fok_cut (m := mT1) enter_ref03_number fun N ih => fok_ref03_number ok_ref03_position ih fun ds outs hw hg => by
  obtain ⟨d, r, rfl, hd, e, r', rfl, he, rfl⟩ := hw
  obtain ⟨vs, rfl, hvs, -⟩ := wfIs ty_i64 hd
  obtain ⟨t, rfl, ht⟩ := wfT he
  simp only [cutM, mT1, gNum, List.getD_cons_zero, List.getD_cons_succ, dT_eT, dIs_eIs, Option.ite_none_right_eq_some, Option.some.injEq] at hg
  obtain ⟨hsz, rfl⟩ := hg
  have hl := ht.l
  have key : ∀ (x : X) (n : Int), (n = if t.k = 0 then posL vs t.n else t.n) → x.ev (evl (tblS [(ct_ref03_position, gPos), (ct_ref03_number, cutM mT1 N gNum)]) [eIs vs, eT t]) = eT (.mk t.k n t.s []) → Tree.go (tblS [(ct_ref03_position, gPos), (ct_ref03_number, cutM mT1 N gNum)]) (fun o => o = [eT (numT vs t)]) (.loop 5 2 [(.lit (.i 0)), x] (bodyOf tree_ref03_number)) [eIs vs, eT t] fun _ _ => False := by
    intro x n hn hx
    rw [go_loop]
    simp only [bodyOf, tree_ref03_number]
    refine ⟨fun st => ∃ k : Nat, k ≤ t.l.length ∧ st = [.i k, eT (.mk t.k n t.s ((t.l.take k).map (numT vs)))], fun st => t.l.length - (st.getD 0 .u).int.toNat, ⟨0, Nat.zero_le _, by simp only [X.evs, hx, X.ev]; rfl⟩, ?_⟩
    rintro st - ⟨k, hk, rfl⟩
    rw [go_br]
    refine ⟨fun hlt => ?_, fun hlt => ?_⟩
    · simp only [go_need, go_br, go_leaf, go_back, allSay, X.says, X.ev, X.evs, evl, tblS, List.getD_cons_zero, List.getD_cons_succ, List.getElem?_cons_zero, List.getElem?_cons_succ, tt_b, int_i, str_s, rs_r, Option.isSome_some, Option.getD_some, decide_eq_true_eq, decide_eq_false_iff_not, List.length_map, i_inj, b_inj, s_inj, rng64, List.take_succ_cons, List.take_zero, List.nil_append, List.cons_append, decide_true, decide_false, Bool.or_true, true_and, and_true, dT_eT, eT_0, eT_1, eT_2, eT_3, eT_eq, eT_z] at hlt
      have hkl' : k < t.l.length := by omega
      have ha := arg_sz hkl'
      simp only [go_need, go_br, go_leaf, go_back, allSay, X.says, X.ev, X.evs, evl, tblS, List.getD_cons_zero, List.getD_cons_succ, List.getElem?_cons_zero, List.getElem?_cons_succ, tt_b, int_i, str_s, rs_r, Option.isSome_some, Option.getD_some, decide_eq_true_eq, decide_eq_false_iff_not, List.length_map, i_inj, b_inj, s_inj, rng64, List.take_succ_cons, List.take_zero, List.nil_append, List.cons_append, decide_true, decide_false, Bool.or_true, true_and, and_true, dT_eT, eT_0, eT_1, eT_2, eT_3, eT_eq, eT_z, get_t hkl', cutM, mT1, gNum, dIs_eIs, if_pos (show szT (t.l.getD k default) < N by omega), Te_l, List.length_take]
      refine ⟨⟨by omega, by omega, by omega⟩, ⟨by omega, by omega⟩, ?_⟩
      rw [updB, if_pos rfl]
      refine ⟨⟨k + 1, by omega, ?_⟩, ?_⟩
      · rw [take_snoc hkl', eT_snoc, List.map_append]
        rfl
      · simp [D.int]
        omega
    · simp only [go_need, go_br, go_leaf, go_back, allSay, X.says, X.ev, X.evs, evl, tblS, List.getD_cons_zero, List.getD_cons_succ, List.getElem?_cons_zero, List.getElem?_cons_succ, tt_b, int_i, str_s, rs_r, Option.isSome_some, Option.getD_some, decide_eq_true_eq, decide_eq_false_iff_not, List.length_map, i_inj, b_inj, s_inj, rng64, List.take_succ_cons, List.take_zero, List.nil_append, List.cons_append, decide_true, decide_false, Bool.or_true, true_and, and_true, dT_eT, eT_0, eT_1, eT_2, eT_3, eT_eq, eT_z] at hlt ⊢
      have : k = t.l.length := by omega
      subst this
      rw [List.take_length, hn, numT, mapV_t]
  rw [tree_ref03_number, go_br]
  refine ⟨fun h => ?_, fun h => ?_⟩
  · simp only [go_need, go_br, go_leaf, go_back, allSay, X.says, X.ev, X.evs, evl, tblS, List.getD_cons_zero, List.getD_cons_succ, List.getElem?_cons_zero, List.getElem?_cons_succ, tt_b, int_i, str_s, rs_r, Option.isSome_some, Option.getD_some, decide_eq_true_eq, decide_eq_false_iff_not, List.length_map, i_inj, b_inj, s_inj, rng64, List.take_succ_cons, List.take_zero, List.nil_append, List.cons_append, decide_true, decide_false, Bool.or_true, true_and, and_true, dT_eT, eT_0, eT_1, eT_2, eT_3, eT_eq, eT_z] at h
    rw [go_need]
    refine ⟨by simp only [go_need, go_br, go_leaf, go_back, allSay, X.says, X.ev, X.evs, evl, tblS, List.getD_cons_zero, List.getD_cons_succ, List.getElem?_cons_zero, List.getElem?_cons_succ, tt_b, int_i, str_s, rs_r, Option.isSome_some, Option.getD_some, decide_eq_true_eq, decide_eq_false_iff_not, List.length_map, i_inj, b_inj, s_inj, rng64, List.take_succ_cons, List.take_zero, List.nil_append, List.cons_append, decide_true, decide_false, Bool.or_true, true_and, and_true, dT_eT, eT_0, eT_1, eT_2, eT_3, eT_eq, eT_z, gPos], key _ (posL vs t.n) (by rw [if_pos h]) ?_⟩
    simp only [go_need, go_br, go_leaf, go_back, allSay, X.says, X.ev, X.evs, evl, tblS, List.getD_cons_zero, List.getD_cons_succ, List.getElem?_cons_zero, List.getElem?_cons_succ, tt_b, int_i, str_s, rs_r, Option.isSome_some, Option.getD_some, decide_eq_true_eq, decide_eq_false_iff_not, List.length_map, i_inj, b_inj, s_inj, rng64, List.take_succ_cons, List.take_zero, List.nil_append, List.cons_append, decide_true, decide_false, Bool.or_true, true_and, and_true, dT_eT, eT_0, eT_1, eT_2, eT_3, eT_eq, eT_z, gPos, dIs_eIs, eT_mk]
    rfl
  · simp only [go_need, go_br, go_leaf, go_back, allSay, X.says, X.ev, X.evs, evl, tblS, List.getD_cons_zero, List.getD_cons_succ, List.getElem?_cons_zero, List.getElem?_cons_succ, tt_b, int_i, str_s, rs_r, Option.isSome_some, Option.getD_some, decide_eq_true_eq, decide_eq_false_iff_not, List.length_map, i_inj, b_inj, s_inj, rng64, List.take_succ_cons, List.take_zero, List.nil_append, List.cons_append, decide_true, decide_false, Bool.or_true, true_and, and_true, dT_eT, eT_0, eT_1, eT_2, eT_3, eT_eq, eT_z] at h
    refine key _ t.n (by rw [if_neg h]) ?_
    simp only [go_need, go_br, go_leaf, go_back, allSay, X.says, X.ev, X.evs, evl, tblS, List.getD_cons_zero, List.getD_cons_succ, List.getElem?_cons_zero, List.getElem?_cons_succ, tt_b, int_i, str_s, rs_r, Option.isSome_some, Option.getD_some, decide_eq_true_eq, decide_eq_false_iff_not, List.length_map, i_inj, b_inj, s_inj, rng64, List.take_succ_cons, List.take_zero, List.nil_append, List.cons_append, decide_true, decide_false, Bool.or_true, true_and, and_true, dT_eT, eT_0, eT_1, eT_2, eT_3, eT_eq, eT_z, eT_mk]
    rfl
def gCanA : List D → Option (List D)
  | [l] => if szTs (l.rs.map dT) ≤ 100000 then some [.r (((l.rs.map dT).map (numT (varsTs [] (l.rs.map dT)))).map eT)] else none
  | _ => none
theorem ok_ref03_CanonAll : FOk ct_ref03_CanonAll gCanA := fok_ref03_CanonAll ok_ref03_VarsAll ok_ref03_number fun ds outs hw hg => by
  obtain ⟨d, r, rfl, hd, rfl⟩ := hw
  obtain ⟨l, rfl, hl, -⟩ := wfTs hd
  simp only [gCanA, rs_r, map_dT, Option.ite_none_right_eq_some, Option.some.injEq] at hg
  obtain ⟨hsz, rfl⟩ := hg
  rw [tree_ref03_CanonAll, go_need]
  refine ⟨by simp only [go_need, go_br, go_leaf, go_back, allSay, X.says, X.ev, X.evs, evl, tblS, List.getD_cons_zero, List.getD_cons_succ, List.getElem?_cons_zero, List.getElem?_cons_succ, tt_b, int_i, str_s, rs_r, Option.isSome_some, Option.getD_some, decide_eq_true_eq, decide_eq_false_iff_not, List.length_map, i_inj, b_inj, s_inj, rng64, List.take_succ_cons, List.take_zero, List.nil_append, List.cons_append, decide_true, decide_false, Bool.or_true, true_and, and_true, dT_eT, eT_0, eT_1, eT_2, eT_3, eT_eq, eT_z, gVarsA, map_dT, if_pos hsz], ?_⟩
  rw [go_loop]
  refine ⟨fun st => ∃ k : Nat, k ≤ l.length ∧ st = [.r (((l.take k).map (numT (varsTs [] l))).map eT), .i k], fun st => l.length - (st.getD 1 .u).int.toNat, ⟨0, Nat.zero_le _, rfl⟩, ?_⟩
  rintro st - ⟨k, hk, rfl⟩
  rw [go_br]
  refine ⟨fun hlt => ?_, fun hlt => ?_⟩
  · simp only [go_need, go_br, go_leaf, go_back, allSay, X.says, X.ev, X.evs, evl, tblS, List.getD_cons_zero, List.getD_cons_succ, List.getElem?_cons_zero, List.getElem?_cons_succ, tt_b, int_i, str_s, rs_r, Option.isSome_some, Option.getD_some, decide_eq_true_eq, decide_eq_false_iff_not, List.length_map, i_inj, b_inj, s_inj, rng64, List.take_succ_cons, List.take_zero, List.nil_append, List.cons_append, decide_true, decide_false, Bool.or_true, true_and, and_true, dT_eT, eT_0, eT_1, eT_2, eT_3, eT_eq, eT_z] at hlt
    have hkl : k < l.length := by omega
    simp only [go_need, go_br, go_leaf, go_back, allSay, X.says, X.ev, X.evs, evl, tblS, List.getD_cons_zero, List.getD_cons_succ, List.getElem?_cons_zero, List.getElem?_cons_succ, tt_b, int_i, str_s, rs_r, Option.isSome_some, Option.getD_some, decide_eq_true_eq, decide_eq_false_iff_not, List.length_map, i_inj, b_inj, s_inj, rng64, List.take_succ_cons, List.take_zero, List.nil_append, List.cons_append, decide_true, decide_false, Bool.or_true, true_and, and_true, dT_eT, eT_0, eT_1, eT_2, eT_3, eT_eq, eT_z, get_t hkl, gVarsA, gNum, map_dT, dIs_eIs, if_pos hsz, List.length_take]
    refine ⟨⟨by omega, by omega, by omega⟩, ⟨by omega, by omega⟩, ?_⟩
    rw [updB, if_pos rfl]
    refine ⟨⟨k + 1, by omega, by rw [take_snoc hkl, List.map_append, List.map_append]; rfl⟩, ?_⟩
    simp [D.int]
    omega
  · simp only [go_need, go_br, go_leaf, go_back, allSay, X.says, X.ev, X.evs, evl, tblS, List.getD_cons_zero, List.getD_cons_succ, List.getElem?_cons_zero, List.getElem?_cons_succ, tt_b, int_i, str_s, rs_r, Option.isSome_some, Option.getD_some, decide_eq_true_eq, decide_eq_false_iff_not, List.length_map, i_inj, b_inj, s_inj, rng64, List.take_succ_cons, List.take_zero, List.nil_append, List.cons_append, decide_true, decide_false, Bool.or_true, true_and, and_true, dT_eT, eT_0, eT_1, eT_2, eT_3, eT_eq, eT_z] at hlt ⊢
    have : k = l.length := by omega
    subst this
    rw [List.take_length]
def gShift : List D → Option (List D)
  | [t, n] => if nodesT (dT t) = true ∧ 0 ≤ n.int ∧ n.int ≤ 1099511627776 then some [eT (mapV (fun x => x + n.int) (dT t))] else none
  | _ => none
theorem ok_ref03_shift : FOk ct_ref03_shift gShift := fok_cut (m := mT) enter_ref03_shift fun N ih => fok_ref03_shift ih fun ds outs hw hg => by
  obtain ⟨d, r, rfl, hd, e, r', rfl, he, rfl⟩ := hw
  obtain ⟨t, rfl, ht⟩ := wfT hd
  obtain ⟨a, rfl, ha0⟩ := wfI he
  simp only [cutM, mT, gShift, List.getD_cons_zero, dT_eT, int_i, Option.ite_none_right_eq_some, Option.some.injEq] at hg
  obtain ⟨hsz, ⟨hnd, h0, h1⟩, rfl⟩ := hg
  have hl := ht.l
  have hnd' := (nodes_iff t).1 hnd
  have key : ∀ (x : X) (n : Int), (n = if t.k = 0 then t.n + a else t.n) → x.ev (evl (tblS [(ct_ref03_shift, cutM mT N gShift)]) [eT t, .i a]) = eT (.mk t.k n t.s []) → Tree.go (tblS [(ct_ref03_shift, cutM mT N gShift)]) (fun o => o = [eT (mapV (fun x => x + a) t)]) (.loop 5 2 [(.lit (.i 0)), x] (bodyOf tree_ref03_shift)) [eT t, .i a] fun _ _ => False := by
    intro x n hn hx
    rw [go_loop]
    simp only [bodyOf, tree_ref03_shift]
    refine ⟨fun st => ∃ k : Nat, k ≤ t.l.length ∧ st = [.i k, eT (.mk t.k n t.s ((t.l.take k).map (mapV fun x => x + a)))], fun st => t.l.length - (st.getD 0 .u).int.toNat, ⟨0, Nat.zero_le _, by simp only [X.evs, hx, X.ev]; rfl⟩, ?_⟩
    rintro st - ⟨k, hk, rfl⟩
    rw [go_br]
    refine ⟨fun hlt => ?_, fun hlt => ?_⟩
    · simp only [go_need, go_br, go_leaf, go_back, allSay, X.says, X.ev, X.evs, evl, tblS, List.getD_cons_zero, List.getD_cons_succ, List.getElem?_cons_zero, List.getElem?_cons_succ, tt_b, int_i, str_s, rs_r, Option.isSome_some, Option.getD_some, decide_eq_true_eq, decide_eq_false_iff_not, List.length_map, i_inj, b_inj, s_inj, rng64, List.take_succ_cons, List.take_zero, List.nil_append, List.cons_append, decide_true, decide_false, Bool.or_true, true_and, and_true, dT_eT, eT_0, eT_1, eT_2, eT_3, eT_eq, eT_z] at hlt
      have hkl' : k < t.l.length := by omega
      have ha := arg_sz hkl'
      simp only [go_need, go_br, go_leaf, go_back, allSay, X.says, X.ev, X.evs, evl, tblS, List.getD_cons_zero, List.getD_cons_succ, List.getElem?_cons_zero, List.getElem?_cons_succ, tt_b, int_i, str_s, rs_r, Option.isSome_some, Option.getD_some, decide_eq_true_eq, decide_eq_false_iff_not, List.length_map, i_inj, b_inj, s_inj, rng64, List.take_succ_cons, List.take_zero, List.nil_append, List.cons_append, decide_true, decide_false, Bool.or_true, true_and, and_true, dT_eT, eT_0, eT_1, eT_2, eT_3, eT_eq, eT_z, get_t hkl', cutM, mT, gShift, if_pos (show szT (t.l.getD k default) < N by omega), if_pos (show nodesT (t.l.getD k default) = true ∧ 0 ≤ a ∧ a ≤ 1099511627776 from ⟨hnd'.2 k hkl', h0, h1⟩), Te_l, List.length_take]
      refine ⟨⟨by omega, by omega, by omega⟩, ⟨by omega, by omega⟩, ?_⟩
      rw [updB, if_pos rfl]
      refine ⟨⟨k + 1, by omega, ?_⟩, ?_⟩
      · rw [take_snoc hkl', eT_snoc, List.map_append]
        rfl
      · simp [D.int]
        omega
    · simp only [go_need, go_br, go_leaf, go_back, allSay, X.says, X.ev, X.evs, evl, tblS, List.getD_cons_zero, List.getD_cons_succ, List.getElem?_cons_zero, List.getElem?_cons_succ, tt_b, int_i, str_s, rs_r, Option.isSome_some, Option.getD_some, decide_eq_true_eq, decide_eq_false_iff_not, List.length_map, i_inj, b_inj, s_inj, rng64, List.take_succ_cons, List.take_zero, List.nil_append, List.cons_append, decide_true, decide_false, Bool.or_true, true_and, and_true, dT_eT, eT_0, eT_1, eT_2, eT_3, eT_eq, eT_z] at hlt ⊢
      have : k = t.l.length := by omega
      subst this
      rw [List.take_length, hn, mapV_t]
  rw [tree_ref03_shift, go_br]
  refine ⟨fun h => ?_, fun h => ?_⟩
  · simp only [go_need, go_br, go_leaf, go_back, allSay, X.says, X.ev, X.evs, evl, tblS, List.getD_cons_zero, List.getD_cons_succ, List.getElem?_cons_zero, List.getElem?_cons_succ, tt_b, int_i, str_s, rs_r, Option.isSome_some, Option.getD_some, decide_eq_true_eq, decide_eq_false_iff_not, List.length_map, i_inj, b_inj, s_inj, rng64, List.take_succ_cons, List.take_zero, List.nil_append, List.cons_append, decide_true, decide_false, Bool.or_true, true_and, and_true, dT_eT, eT_0, eT_1, eT_2, eT_3, eT_eq, eT_z] at h
    rw [go_need]
    have h2 : 0 ≤ t.n ∧ t.n ≤ 1099511627776 := by
      have := hnd'.1
      unfold nodeT at this
      rw [if_pos h] at this
      simp only [Bool.and_eq_true, decide_eq_true_eq] at this
      exact ⟨this.1, this.2.1⟩
    refine ⟨by simp only [go_need, go_br, go_leaf, go_back, allSay, X.says, X.ev, X.evs, evl, tblS, List.getD_cons_zero, List.getD_cons_succ, List.getElem?_cons_zero, List.getElem?_cons_succ, tt_b, int_i, str_s, rs_r, Option.isSome_some, Option.getD_some, decide_eq_true_eq, decide_eq_false_iff_not, List.length_map, i_inj, b_inj, s_inj, rng64, List.take_succ_cons, List.take_zero, List.nil_append, List.cons_append, decide_true, decide_false, Bool.or_true, true_and, and_true, dT_eT, eT_0, eT_1, eT_2, eT_3, eT_eq, eT_z]; omega, key _ (t.n + a) (by rw [if_pos h]) ?_⟩
    simp only [go_need, go_br, go_leaf, go_back, allSay, X.says, X.ev, X.evs, evl, tblS, List.getD_cons_zero, List.getD_cons_succ, List.getElem?_cons_zero, List.getElem?_cons_succ, tt_b, int_i, str_s, rs_r, Option.isSome_some, Option.getD_some, decide_eq_true_eq, decide_eq_false_iff_not, List.length_map, i_inj, b_inj, s_inj, rng64, List.take_succ_cons, List.take_zero, List.nil_append, List.cons_append, decide_true, decide_false, Bool.or_true, true_and, and_true, dT_eT, eT_0, eT_1, eT_2, eT_3, eT_eq, eT_z, eT_mk]
    rfl
  · simp only [go_need, go_br, go_leaf, go_back, allSay, X.says, X.ev, X.evs, evl, tblS, List.getD_cons_zero, List.getD_cons_succ, List.getElem?_cons_zero, List.getElem?_cons_succ, tt_b, int_i, str_s, rs_r, Option.isSome_some, Option.getD_some, decide_eq_true_eq, decide_eq_false_iff_not, List.length_map, i_inj, b_inj, s_inj, rng64, List.take_succ_cons, List.take_zero, List.nil_append, List.cons_append, decide_true, decide_false, Bool.or_true, true_and, and_true, dT_eT, eT_0, eT_1, eT_2, eT_3, eT_eq, eT_z] at h
    refine key _ t.n (by rw [if_neg h]) ?_
    simp only [go_need, go_br, go_leaf, go_back, allSay, X.says, X.ev, X.evs, evl, tblS, List.getD_cons_zero, List.getD_cons_succ, List.getElem?_cons_zero, List.getElem?_cons_succ, tt_b, int_i, str_s, rs_r, Option.isSome_some, Option.getD_some, decide_eq_true_eq, decide_eq_false_iff_not, List.length_map, i_inj, b_inj, s_inj, rng64, List.take_succ_cons, List.take_zero, List.nil_append, List.cons_append, decide_true, decide_false, Bool.or_true, true_and, and_true, dT_eT, eT_0, eT_1, eT_2, eT_3, eT_eq, eT_z, eT_mk]
    rfl
def renT (t : Te) (a : Int) : Te × Int := if validT t = true ∧ 0 ≤ a ∧ a ≤ 1099511627776 then (if (varsT [] t).all (fun x => decide (x + a ≤ 1099511627776)) then (mapV (fun x => x + a) t, 0) else (zT, 2)) else (zT, 1)
def gRen : List D → Option (List D)
  | [t, n] => some [eT (renT (dT t) n.int).1, .i (renT (dT t) n.int).2]
  | _ => none
mutual
theorem varsT_ok : ∀ (t : Te) (vs : List Int), nodesT t = true → (∀ x ∈ vs, 0 ≤ x ∧ x ≤ 1099511627776) → ∀ x ∈ varsT vs t, 0 ≤ x ∧ x ≤ 1099511627776
  | .mk k n s l, vs, h, hv => by
    rw [nodesT, Bool.and_eq_true, nodeT_mk] at h
    rw [varsT]
    refine varsTs_ok l _ h.2 fun x hx => ?_
    split at hx
    · rename_i hk
      rw [if_pos hk.1] at h
      simp only [Bool.and_eq_true, decide_eq_true_eq] at h
      rcases List.mem_append.1 hx with hx | hx
      · exact hv x hx
      · rw [List.mem_singleton.1 hx]
        exact ⟨h.1.1, h.1.2.1⟩
    · exact hv x hx
theorem varsTs_ok : ∀ (l : List Te) (vs : List Int), nodesTs l = true → (∀ x ∈ vs, 0 ≤ x ∧ x ≤ 1099511627776) → ∀ x ∈ varsTs vs l, 0 ≤ x ∧ x ≤ 1099511627776
  | [], vs, h, hv => hv
  | t :: l, vs, h, hv => by
    rw [nodesTs, Bool.and_eq_true] at h
    rw [varsTs]
    exact varsTs_ok l _ h.2 (varsT_ok t vs h.1 hv)
end
theorem ok_ref03_Rename : FOk ct_ref03_Rename gRen := fok_ref03_Rename ok_ref03_Valid ok_ref03_vars ok_ref03_shift fun ds outs hw hg => by
  obtain ⟨d, r, rfl, hd, e, r', rfl, he, rfl⟩ := hw
  obtain ⟨t, rfl, ht⟩ := wfT hd
  obtain ⟨a, rfl, ha0⟩ := wfI he
  simp only [gRen, dT_eT, int_i, Option.some.injEq] at hg
  subst hg
  simp only [tree_ref03_Rename, go_need, go_br, go_leaf, go_back, allSay, X.says, X.ev, X.evs, evl, tblS, List.getD_cons_zero, List.getD_cons_succ, List.getElem?_cons_zero, List.getElem?_cons_succ, tt_b, int_i, str_s, rs_r, Option.isSome_some, Option.getD_some, decide_eq_true_eq, decide_eq_false_iff_not, List.length_map, i_inj, b_inj, s_inj, rng64, List.take_succ_cons, List.take_zero, List.nil_append, List.cons_append, decide_true, decide_false, Bool.or_true, true_and, and_true, dT_eT, eT_0, eT_1, eT_2, eT_3, eT_eq, eT_z, gTb]
  refine ⟨fun h => ?_, fun h => ?_⟩
  · rw [renT, if_neg fun q => by
      rw [q.1] at h
      simp only [Bool.or_eq_true, Bool.not_eq_true', decide_eq_true_eq] at h
      rcases h with (h | h) | h
      · cases h
      · omega
      · omega]
  simp only [Bool.or_eq_false_iff, Bool.not_eq_false', decide_eq_false_iff_not] at h
  obtain ⟨⟨hv, h0⟩, h1⟩ := h
  have hc : validT t = true ∧ 0 ≤ a ∧ a ≤ 1099511627776 := ⟨hv, by omega, by omega⟩
  have hv2 := hv
  simp only [validT, Bool.and_eq_true, decide_eq_true_eq] at hv2
  have hlen := varsT_len t []
  simp only [List.length_nil] at hlen
  have hb := varsT_ok t [] hv2.2 (fun x hx => by cases hx)
  have hg : gVars [D.r [], eT t] = some [eIs (varsT [] t)] := by
    have e0 : dIs (.r []) = [] := rfl
    simp only [gVars, e0, dT_eT, List.length_nil]
    rw [if_pos (by omega)]
  rw [renT, if_pos hc]
  simp only [hg, Option.isSome_some]
  refine ⟨trivial, ?_⟩
  rw [go_loop]
  refine ⟨fun st => ∃ k : Nat, k ≤ (varsT [] t).length ∧ st = [.i 0, .i k, eT zT] ∧ ∀ j, j < k → (varsT [] t).getD j 0 + a ≤ 1099511627776, fun st => (varsT [] t).length - (st.getD 1 .u).int.toNat, ⟨0, Nat.zero_le _, rfl, fun j hj => absurd hj (Nat.not_lt_zero _)⟩, ?_⟩
  rintro st - ⟨k, hk, rfl, hP⟩
  rw [go_br]
  refine ⟨fun hlt => ?_, fun hlt => ?_⟩
  · simp only [go_need, go_br, go_leaf, go_back, allSay, X.says, X.ev, X.evs, evl, tblS, List.getD_cons_zero, List.getD_cons_succ, List.getElem?_cons_zero, List.getElem?_cons_succ, tt_b, int_i, str_s, rs_r, Option.isSome_some, Option.getD_some, decide_eq_true_eq, decide_eq_false_iff_not, List.length_map, i_inj, b_inj, s_inj, rng64, List.take_succ_cons, List.take_zero, List.nil_append, List.cons_append, decide_true, decide_false, Bool.or_true, true_and, and_true, dT_eT, eT_0, eT_1, eT_2, eT_3, eT_eq, eT_z, hg, eIs_len] at hlt
    have hkl : k < (varsT [] t).length := by omega
    have hm : (varsT [] t).getD k 0 ∈ varsT [] t := by
      rw [List.getD_eq_getElem?_getD, List.getElem?_eq_getElem hkl]
      exact List.getElem_mem hkl
    have h2 := hb _ hm
    simp only [go_need, go_br, go_leaf, go_back, allSay, X.says, X.ev, X.evs, evl, tblS, List.getD_cons_zero, List.getD_cons_succ, List.getElem?_cons_zero, List.getElem?_cons_succ, tt_b, int_i, str_s, rs_r, Option.isSome_some, Option.getD_some, decide_eq_true_eq, decide_eq_false_iff_not, List.length_map, i_inj, b_inj, s_inj, rng64, List.take_succ_cons, List.take_zero, List.nil_append, List.cons_append, decide_true, decide_false, Bool.or_true, true_and, and_true, dT_eT, eT_0, eT_1, eT_2, eT_3, eT_eq, eT_z, hg, eIs_len, eIs_get hkl]
    refine ⟨⟨by omega, by omega, by omega, by omega⟩, fun hx => ?_, fun hx => ⟨⟨by omega, by omega⟩, ?_⟩⟩
    · rw [if_neg fun q => by
        have := List.all_eq_true.1 q _ hm
        rw [decide_eq_true_eq] at this
        omega]
    · rw [updB, if_pos rfl]
      refine ⟨⟨k + 1, by omega, by simp, upto_succ hP (by omega)⟩, ?_⟩
      simp [D.int]
      omega
  · simp only [go_need, go_br, go_leaf, go_back, allSay, X.says, X.ev, X.evs, evl, tblS, List.getD_cons_zero, List.getD_cons_succ, List.getElem?_cons_zero, List.getElem?_cons_succ, tt_b, int_i, str_s, rs_r, Option.isSome_some, Option.getD_some, decide_eq_true_eq, decide_eq_false_iff_not, List.length_map, i_inj, b_inj, s_inj, rng64, List.take_succ_cons, List.take_zero, List.nil_append, List.cons_append, decide_true, decide_false, Bool.or_true, true_and, and_true, dT_eT, eT_0, eT_1, eT_2, eT_3, eT_eq, eT_z, hg, eIs_len] at hlt ⊢
    have : k = (varsT [] t).length := by omega
    subst this
    have hall : (varsT [] t).all (fun x => decide (x + a ≤ 1099511627776)) = true := List.all_eq_true.2 fun x hx => by
      obtain ⟨j, hj, rfl⟩ := List.getElem_of_mem hx
      have := hP j hj
      rw [List.getD_eq_getElem?_getD, List.getElem?_eq_getElem hj] at this
      simpa using this
    rw [if_pos hall]
    simp only [go_need, go_br, go_leaf, go_back, allSay, X.says, X.ev, X.evs, evl, tblS, List.getD_cons_zero, List.getD_cons_succ, List.getElem?_cons_zero, List.getElem?_cons_succ, tt_b, int_i, str_s, rs_r, Option.isSome_some, Option.getD_some, decide_eq_true_eq, decide_eq_false_iff_not, List.length_map, i_inj, b_inj, s_inj, rng64, List.take_succ_cons, List.take_zero, List.nil_append, List.cons_append, decide_true, decide_false, Bool.or_true, true_and, and_true, dT_eT, eT_0, eT_1, eT_2, eT_3, eT_eq, eT_z, gShift, if_pos (show nodesT t = true ∧ 0 ≤ a ∧ a ≤ 1099511627776 from ⟨hv2.2, hc.2⟩)]
end Go.Proofs.Ytflahdpkkgmpeaa

namespace Go.Proofs.Ytflahdpkkgmpeaa
open Go.RowKit
set_option linter.unusedVariables false
set_option linter.unusedSimpArgs false

abbrev sErr : ByteArray := ⟨#[101, 114, 114, 111, 114]⟩
abbrev sNil : ByteArray := ⟨#[91, 93]⟩
abbrev sInst : ByteArray := ⟨#[105, 110, 115, 116, 97, 110, 116, 105, 97, 116, 105, 111, 110, 95, 101, 114, 114, 111, 114]⟩
abbrev sType : ByteArray := ⟨#[116, 121, 112, 101, 95, 101, 114, 114, 111, 114]⟩
abbrev sDots : ByteArray := ⟨#[46, 46, 46]⟩
abbrev sCallable : ByteArray := ⟨#[99, 97, 108, 108, 97, 98, 108, 101]⟩
abbrev atomR (s : ByteArray) : Te := .mk 2 0 s []

theorem validT_iff {t : Te} : validT t = true ↔ szT t ≤ 2000 ∧ nodesT t = true := by simp [validT]
theorem atom_valid {s : ByteArray} (h : s.size ≤ 100) : validT (atomR s) = true := by
  rw [validT_iff]
  refine ⟨by simp [szT, szTs], ?_⟩
  rw [nodesT, nodesTs, Bool.and_true, nodeT_mk]
  have h' : (s.size : Int) ≤ 100 := by omega
  simp [h']
theorem nodes_str {s : ByteArray} {l : List Te} (hs : s.size ≤ 100) (h1 : 1 ≤ l.length) (h2 : l.length ≤ 8) (h : ∀ t ∈ l, nodesT t = true) : nodesT (.mk 3 0 s l) = true := by
  rw [nodesT, nodesTs_iff.2 h, Bool.and_true, nodeT_mk]
  have h' : (s.size : Int) ≤ 100 := by omega
  have h3 : (1 : Int) ≤ l.length := by omega
  have h4 : (l.length : Int) ≤ 8 := by omega
  simp [h', h3, h4]
theorem str_valid {s : ByteArray} {l : List Te} (hs : s.size ≤ 100) (h1 : 1 ≤ l.length) (h2 : l.length ≤ 8) (h : ∀ t ∈ l, nodesT t = true) (hz : szTs l + 1 ≤ 2000) : validT (.mk 3 0 s l) = true :=
  validT_iff.2 ⟨by rw [szT]; exact hz, nodes_str hs h1 h2 h⟩
theorem cloneT_of {t : Te} (h : validT t = true) : cloneT t = t := if_pos h

def raiseT (s : ByteArray) (l : List Te) : Te := struT sErr [struT s l, atomT sNil]
theorem ok_balls_raise : FOk ct_balls_raise (gSL raiseT) := fok_balls_raise ok_term_Struct ok_term_Atom fun ds outs hw hg => by
  obtain ⟨d, r, rfl, hd, e, r', rfl, he, rfl⟩ := hw
  obtain ⟨s, rfl, hs⟩ := hd.str
  obtain ⟨l, rfl, hl, -⟩ := wfTs he
  simp only [gSL, str_s, rs_r, map_dT, Option.some.injEq] at hg
  subst hg
  simp only [tree_balls_raise, go_need, go_br, go_leaf, go_back, allSay, X.says, X.ev, X.evs, evl, tblS, List.getD_cons_zero, List.getD_cons_succ, List.getElem?_cons_zero, List.getElem?_cons_succ, tt_b, int_i, str_s, rs_r, Option.isSome_some, Option.getD_some, decide_eq_true_eq, decide_eq_false_iff_not, List.length_map, i_inj, b_inj, s_inj, rng64, List.take_succ_cons, List.take_zero, List.nil_append, List.cons_append, decide_true, decide_false, Bool.or_true, true_and, and_true, dT_eT, eT_0, eT_1, eT_2, eT_3, eT_eq, eT_z, gSL, gSt, map_dT, List.map_cons, List.map_nil, raiseT]
def gAb (f : Te → ByteArray → ByteArray → Te) : List D → Option (List D)
  | [t, .s c, .r [.s n]] => if n.size ≤ 100 then some [eT (f (dT t) c n)] else none
  | _ => none
def culT (t : Te) : Te := if 2000 < 4 + min (szT t : Int) 2001 then atomR sDots else t
def aboutT (t : Te) (c n : ByteArray) : Te := if validT t then raiseT c [atomT n, culT t] else zT
theorem ok_balls_about : FOk ct_balls_about (gAb aboutT) := fok_balls_about ok_term_Valid ok_term_Atom ok_term_Size ok_balls_raise fun ds outs hw hg => by
  obtain ⟨d, r, rfl, hd, e, r', rfl, he, e2, r2, rfl, he2, rfl⟩ := hw
  obtain ⟨t, rfl, ht⟩ := wfT hd
  unfold gAb at hg
  split at hg
  · rename_i t' c n heq
    simp only [List.cons.injEq, and_true] at heq
    obtain ⟨rfl, rfl, rfl⟩ := heq
    simp only [dT_eT, Option.ite_none_right_eq_some, Option.some.injEq] at hg
    obtain ⟨hn, rfl⟩ := hg
    have hn' : ¬ (100 : Int) < n.size := by omega
    simp only [tree_balls_about, go_need, go_br, go_leaf, go_back, allSay, X.says, X.ev, X.evs, evl, tblS, List.getD_cons_zero, List.getD_cons_succ, List.getElem?_cons_zero, List.getElem?_cons_succ, tt_b, int_i, str_s, rs_r, Option.isSome_some, Option.getD_some, decide_eq_true_eq, decide_eq_false_iff_not, List.length_map, i_inj, b_inj, s_inj, rng64, List.take_succ_cons, List.take_zero, List.nil_append, List.cons_append, decide_true, decide_false, Bool.or_true, true_and, and_true, dT_eT, eT_0, eT_1, eT_2, eT_3, eT_eq, eT_z, gTb, aboutT]
    refine ⟨fun h => by
      have h : validT t = false := by simpa using h
      rw [h]
      rfl, fun h => ?_⟩
    have h : validT t = true := by simpa using h
    rw [if_pos h, go_loop]
    refine ⟨fun st => st = [.r [], .i 0, eT zT] ∨ st = [.r [eT (atomT n)], .i 1, eT zT], fun st => 1 - (st.getD 1 .u).int.toNat, .inl rfl, ?_⟩
    rintro st - (rfl | rfl)
    · have g0 : (D.r [D.s n]).get 0 = .s n := rfl
      have l0 : ((D.r [D.s n]).rs.length : Int) = 1 := rfl
      simp only [go_need, go_br, go_leaf, go_back, allSay, X.says, X.ev, X.evs, evl, tblS, List.getD_cons_zero, List.getD_cons_succ, List.getElem?_cons_zero, List.getElem?_cons_succ, tt_b, int_i, str_s, rs_r, Option.isSome_some, Option.getD_some, decide_eq_true_eq, decide_eq_false_iff_not, List.length_map, i_inj, b_inj, s_inj, rng64, List.take_succ_cons, List.take_zero, List.nil_append, List.cons_append, decide_true, decide_false, Bool.or_true, true_and, and_true, dT_eT, eT_0, eT_1, eT_2, eT_3, eT_eq, eT_z, g0, hn', gSt, List.length_cons, List.length_nil]
      refine ⟨fun _ => ⟨⟨by omega, by omega⟩, fun hh => ?_, fun _ => ?_⟩, fun hh => by omega⟩
      · cases hh
      · refine ⟨by omega, ⟨by omega, by omega⟩, ?_⟩
        rw [updB, if_pos rfl]
        refine ⟨.inr rfl, ?_⟩
        simp [D.int]
    · have l0 : ((D.r [D.s n]).rs.length : Int) = 1 := rfl
      have l1 : ((D.r [eT (atomT n)]).rs.length : Int) = 1 := rfl
      have ha : atomT sDots = atomR sDots := atomT_ok (by decide)
      simp only [go_need, go_br, go_leaf, go_back, allSay, X.says, X.ev, X.evs, evl, tblS, List.getD_cons_zero, List.getD_cons_succ, List.getElem?_cons_zero, List.getElem?_cons_succ, tt_b, int_i, str_s, rs_r, Option.isSome_some, Option.getD_some, decide_eq_true_eq, decide_eq_false_iff_not, List.length_map, i_inj, b_inj, s_inj, rng64, List.take_succ_cons, List.take_zero, List.nil_append, List.cons_append, decide_true, decide_false, Bool.or_true, true_and, and_true, dT_eT, eT_0, eT_1, eT_2, eT_3, eT_eq, eT_z, gSt, gTi, gSL, rs_r, List.map_cons, List.map_nil, List.map_append, List.length_cons, List.length_nil, culT, ha]
      refine ⟨fun hh => by omega, fun _ => ⟨⟨⟨by omega, by omega⟩, by omega, by omega⟩, fun h2 => ⟨by omega, ?_⟩, fun h2 => ⟨by omega, ?_⟩⟩⟩
      · rw [if_pos (by omega)]
      · rw [if_neg (by omega)]
  · cases hg
def instT : Te := raiseT sInst []
theorem ok_balls_Inst : FOk ct_balls_Inst (fun _ => some [eT instT]) := fok_balls_Inst ok_balls_raise fun ds outs hw hg => by
  obtain rfl : ds = [] := hw
  simp only [Option.some.injEq] at hg
  subst hg
  simp only [tree_balls_Inst, go_need, go_br, go_leaf, go_back, allSay, X.says, X.ev, X.evs, evl, tblS, List.getD_cons_zero, List.getD_cons_succ, List.getElem?_cons_zero, List.getElem?_cons_succ, tt_b, int_i, str_s, rs_r, Option.isSome_some, Option.getD_some, decide_eq_true_eq, decide_eq_false_iff_not, List.length_map, i_inj, b_inj, s_inj, rng64, List.take_succ_cons, List.take_zero, List.nil_append, List.cons_append, decide_true, decide_false, Bool.or_true, true_and, and_true, dT_eT, eT_0, eT_1, eT_2, eT_3, eT_eq, eT_z, gSL, rs_r, List.map_nil, instT]
def gTy (f : Te → Te) : List D → Option (List D)
  | [.s k, t] => if k = sCallable then some [eT (f (dT t))] else none
  | _ => none
def typeT (t : Te) : Te := aboutT t sType sCallable
theorem ok_balls_Type : FOk ct_balls_Type (gTy typeT) := fok_balls_Type ok_balls_about fun ds outs hw hg => by
  obtain ⟨d, r, rfl, hd, e, r', rfl, he, rfl⟩ := hw
  obtain ⟨s, rfl, hs⟩ := hd.str
  obtain ⟨t, rfl, ht⟩ := wfT he
  simp only [gTy, dT_eT, Option.ite_none_right_eq_some, Option.some.injEq] at hg
  obtain ⟨rfl, rfl⟩ := hg
  simp only [tree_balls_Type, go_need, go_br, go_leaf, go_back, allSay, X.says, X.ev, X.evs, evl, tblS, List.getD_cons_zero, List.getD_cons_succ, List.getElem?_cons_zero, List.getElem?_cons_succ, tt_b, int_i, str_s, rs_r, Option.isSome_some, Option.getD_some, decide_eq_true_eq, decide_eq_false_iff_not, List.length_map, i_inj, b_inj, s_inj, rng64, List.take_succ_cons, List.take_zero, List.nil_append, List.cons_append, decide_true, decide_false, Bool.or_true, true_and, and_true, dT_eT, eT_0, eT_1, eT_2, eT_3, eT_eq, eT_z, gAb, typeT, if_pos (show (sCallable).size ≤ 100 by decide)]

/-! ### The reference's -/
def gAt (f : ByteArray → Te) : List D → Option (List D)
  | [s] => some [eT (f s.str)]
  | _ => none
theorem ok_ref06_atom : FOk ct_ref06_atom (gAt atomR) := fok_ref06_atom fun ds outs hw hg => by
  obtain ⟨d, r, rfl, hd, rfl⟩ := hw
  obtain ⟨s, rfl, hs⟩ := hd.str
  simp only [gAt, str_s, Option.some.injEq] at hg
  subst hg
  simp only [tree_ref06_atom, go_need, go_br, go_leaf, go_back, allSay, X.says, X.ev, X.evs, evl, tblS, List.getD_cons_zero, List.getD_cons_succ, List.getElem?_cons_zero, List.getElem?_cons_succ, tt_b, int_i, str_s, rs_r, Option.isSome_some, Option.getD_some, decide_eq_true_eq, decide_eq_false_iff_not, List.length_map, i_inj, b_inj, s_inj, rng64, List.take_succ_cons, List.take_zero, List.nil_append, List.cons_append, decide_true, decide_false, Bool.or_true, true_and, and_true, dT_eT, eT_0, eT_1, eT_2, eT_3, eT_eq, eT_z]
  rfl
theorem ok_ref06_structure : FOk ct_ref06_structure (gSL fun s l => .mk 3 0 s l) := fok_ref06_structure fun ds outs hw hg => by
  obtain ⟨d, r, rfl, hd, e, r', rfl, he, rfl⟩ := hw
  obtain ⟨s, rfl, hs⟩ := hd.str
  obtain ⟨l, rfl, hl, -⟩ := wfTs he
  simp only [gSL, str_s, rs_r, map_dT, Option.some.injEq] at hg
  subst hg
  simp only [tree_ref06_structure, go_need, go_br, go_leaf, go_back, allSay, X.says, X.ev, X.evs, evl, tblS, List.getD_cons_zero, List.getD_cons_succ, List.getElem?_cons_zero, List.getElem?_cons_succ, tt_b, int_i, str_s, rs_r, Option.isSome_some, Option.getD_some, decide_eq_true_eq, decide_eq_false_iff_not, List.length_map, i_inj, b_inj, s_inj, rng64, List.take_succ_cons, List.take_zero, List.nil_append, List.cons_append, decide_true, decide_false, Bool.or_true, true_and, and_true, dT_eT, eT_0, eT_1, eT_2, eT_3, eT_eq, eT_z, eT_mk]
  rfl
def ballR (t : Te) : Te := cloneT (.mk 3 0 sErr [t, atomR sNil])
theorem ok_ref06_ball : FOk ct_ref06_ball (gTT ballR) := fok_ref06_ball ok_ref06_atom ok_ref06_structure ok_ref03_Clone fun ds outs hw hg => by
  obtain ⟨d, r, rfl, hd, rfl⟩ := hw
  obtain ⟨t, rfl, ht⟩ := wfT hd
  simp only [gTT, dT_eT, Option.some.injEq] at hg
  subst hg
  simp only [tree_ref06_ball, go_need, go_br, go_leaf, go_back, allSay, X.says, X.ev, X.evs, evl, tblS, List.getD_cons_zero, List.getD_cons_succ, List.getElem?_cons_zero, List.getElem?_cons_succ, tt_b, int_i, str_s, rs_r, Option.isSome_some, Option.getD_some, decide_eq_true_eq, decide_eq_false_iff_not, List.length_map, i_inj, b_inj, s_inj, rng64, List.take_succ_cons, List.take_zero, List.nil_append, List.cons_append, decide_true, decide_false, Bool.or_true, true_and, and_true, dT_eT, eT_0, eT_1, eT_2, eT_3, eT_eq, eT_z, gAt, gSL, gTT, rs_r, List.map_cons, List.map_nil, ballR]
def culR (t : Te) : Te := if 2000 < 2 + 1 + min (szT t : Int) 2001 + 1 then atomR sDots else t
def withR (t : Te) (c n : ByteArray) : Te := if validT t then ballR (.mk 3 0 c [atomR n, culR t]) else zT
theorem ok_ref06_with : FOk ct_ref06_with (gAb withR) := fok_ref06_with ok_ref03_Valid ok_ref06_atom ok_ref03_Size ok_ref06_structure ok_ref06_ball fun ds outs hw hg => by
  obtain ⟨d, r, rfl, hd, e, r', rfl, he, e2, r2, rfl, he2, rfl⟩ := hw
  obtain ⟨t, rfl, ht⟩ := wfT hd
  unfold gAb at hg
  split at hg
  · rename_i t' c n heq
    simp only [List.cons.injEq, and_true] at heq
    obtain ⟨rfl, rfl, rfl⟩ := heq
    simp only [dT_eT, Option.ite_none_right_eq_some, Option.some.injEq] at hg
    obtain ⟨hn, rfl⟩ := hg
    simp only [tree_ref06_with, go_need, go_br, go_leaf, go_back, allSay, X.says, X.ev, X.evs, evl, tblS, List.getD_cons_zero, List.getD_cons_succ, List.getElem?_cons_zero, List.getElem?_cons_succ, tt_b, int_i, str_s, rs_r, Option.isSome_some, Option.getD_some, decide_eq_true_eq, decide_eq_false_iff_not, List.length_map, i_inj, b_inj, s_inj, rng64, List.take_succ_cons, List.take_zero, List.nil_append, List.cons_append, decide_true, decide_false, Bool.or_true, true_and, and_true, dT_eT, eT_0, eT_1, eT_2, eT_3, eT_eq, eT_z, gTb, withR]
    refine ⟨fun h => by
      have h : validT t = false := by simpa using h
      rw [h]
      rfl, fun h => ?_⟩
    have h : validT t = true := by simpa using h
    rw [if_pos h, go_loop]
    refine ⟨fun st => st = [.r [], .i 0] ∨ st = [.r [eT (atomR n)], .i 1], fun st => 1 - (st.getD 1 .u).int.toNat, .inl rfl, ?_⟩
    rintro st - (rfl | rfl)
    · have g0 : (D.r [D.s n]).get 0 = .s n := rfl
      have l0 : ((D.r [D.s n]).rs.length : Int) = 1 := rfl
      simp only [go_need, go_br, go_leaf, go_back, allSay, X.says, X.ev, X.evs, evl, tblS, List.getD_cons_zero, List.getD_cons_succ, List.getElem?_cons_zero, List.getElem?_cons_succ, tt_b, int_i, str_s, rs_r, Option.isSome_some, Option.getD_some, decide_eq_true_eq, decide_eq_false_iff_not, List.length_map, i_inj, b_inj, s_inj, rng64, List.take_succ_cons, List.take_zero, List.nil_append, List.cons_append, decide_true, decide_false, Bool.or_true, true_and, and_true, dT_eT, eT_0, eT_1, eT_2, eT_3, eT_eq, eT_z, g0, gAt, List.length_cons, List.length_nil]
      refine ⟨fun _ => ⟨⟨by omega, by omega, by omega⟩, ⟨by omega, by omega⟩, ?_⟩, fun hh => by omega⟩
      rw [updB, if_pos rfl]
      refine ⟨.inr rfl, ?_⟩
      simp [D.int]
    · have l0 : ((D.r [D.s n]).rs.length : Int) = 1 := rfl
      have l1 : ((D.r [eT (atomR n)]).rs.length : Int) = 1 := rfl
      simp only [go_need, go_br, go_leaf, go_back, allSay, X.says, X.ev, X.evs, evl, tblS, List.getD_cons_zero, List.getD_cons_succ, List.getElem?_cons_zero, List.getElem?_cons_succ, tt_b, int_i, str_s, rs_r, Option.isSome_some, Option.getD_some, decide_eq_true_eq, decide_eq_false_iff_not, List.length_map, i_inj, b_inj, s_inj, rng64, List.take_succ_cons, List.take_zero, List.nil_append, List.cons_append, decide_true, decide_false, Bool.or_true, true_and, and_true, dT_eT, eT_0, eT_1, eT_2, eT_3, eT_eq, eT_z, gAt, gTi, gTT, gSL, rs_r, List.map_cons, List.map_nil, List.map_append, List.length_cons, List.length_nil, culR]
      refine ⟨fun hh => by omega, fun _ => ⟨⟨⟨by omega, by omega⟩, ⟨by omega, by omega⟩, by omega, by omega⟩, fun h2 => ⟨by omega, ?_⟩, fun h2 => ⟨by omega, ?_⟩⟩⟩
      · rw [if_pos (by omega)]
      · rw [if_neg (by omega)]
  · cases hg
theorem ok_ref06_Inst : FOk ct_ref06_Inst (fun _ => some [eT (ballR (atomR sInst))]) := fok_ref06_Inst ok_ref06_atom ok_ref06_ball fun ds outs hw hg => by
  obtain rfl : ds = [] := hw
  simp only [Option.some.injEq] at hg
  subst hg
  simp only [tree_ref06_Inst, go_need, go_br, go_leaf, go_back, allSay, X.says, X.ev, X.evs, evl, tblS, List.getD_cons_zero, List.getD_cons_succ, List.getElem?_cons_zero, List.getElem?_cons_succ, tt_b, int_i, str_s, rs_r, Option.isSome_some, Option.getD_some, decide_eq_true_eq, decide_eq_false_iff_not, List.length_map, i_inj, b_inj, s_inj, rng64, List.take_succ_cons, List.take_zero, List.nil_append, List.cons_append, decide_true, decide_false, Bool.or_true, true_and, and_true, dT_eT, eT_0, eT_1, eT_2, eT_3, eT_eq, eT_z, gAt, gTT]
def typeR (t : Te) : Te := withR t sType sCallable
theorem ok_ref06_Type : FOk ct_ref06_Type (gTy typeR) := fok_ref06_Type ok_ref06_with fun ds outs hw hg => by
  obtain ⟨d, r, rfl, hd, e, r', rfl, he, rfl⟩ := hw
  obtain ⟨s, rfl, hs⟩ := hd.str
  obtain ⟨t, rfl, ht⟩ := wfT he
  simp only [gTy, dT_eT, Option.ite_none_right_eq_some, Option.some.injEq] at hg
  obtain ⟨rfl, rfl⟩ := hg
  simp only [tree_ref06_Type, go_need, go_br, go_leaf, go_back, allSay, X.says, X.ev, X.evs, evl, tblS, List.getD_cons_zero, List.getD_cons_succ, List.getElem?_cons_zero, List.getElem?_cons_succ, tt_b, int_i, str_s, rs_r, Option.isSome_some, Option.getD_some, decide_eq_true_eq, decide_eq_false_iff_not, List.length_map, i_inj, b_inj, s_inj, rng64, List.take_succ_cons, List.take_zero, List.nil_append, List.cons_append, decide_true, decide_false, Bool.or_true, true_and, and_true, dT_eT, eT_0, eT_1, eT_2, eT_3, eT_eq, eT_z, gAb, typeR, if_pos (show (sCallable).size ≤ 100 by decide)]

/-! ### Both are one -/
theorem inst_eq : ballR (atomR sInst) = instT := by kernel_rfl
theorem inst_valid : validT instT = true := by kernel_rfl
theorem cul_eq (t : Te) : culR t = culT t := by
  unfold culR culT
  rw [show (2 : Int) + 1 + min (szT t : Int) 2001 + 1 = 4 + min (szT t : Int) 2001 by omega]
theorem cul_ok {t : Te} (h : validT t = true) : szT (culT t) + 4 ≤ 2000 ∧ nodesT (culT t) = true := by
  rw [validT_iff] at h
  unfold culT
  split
  · exact ⟨by simp [szT, szTs], by kernel_rfl⟩
  · exact ⟨by omega, h.2⟩
theorem type_eq {t : Te} (h : validT t = true) : typeT t = .mk 3 0 sErr [.mk 3 0 sType [atomR sCallable, culT t], atomR sNil] ∧ typeR t = typeT t ∧ validT (typeT t) = true := by
  obtain ⟨h1, h2⟩ := cul_ok h
  have n1 : nodesT (atomR sCallable) = true := by kernel_rfl
  have n2 : nodesT (atomR sNil) = true := by kernel_rfl
  have v1 : nodesT (.mk 3 0 sType [atomR sCallable, culT t]) = true := nodes_str (by decide) (by simp) (by simp) fun x hx => by
    simp only [List.mem_cons, List.not_mem_nil, or_false] at hx
    rcases hx with rfl | rfl <;> assumption
  have z1 : szTs [atomR sCallable, culT t] = szT (culT t) + 1 := by simp only [szTs, szT]; omega
  have v2 : validT (.mk 3 0 sType [atomR sCallable, culT t]) = true := validT_iff.2 ⟨by rw [szT, z1]; omega, v1⟩
  have v3 : validT (.mk 3 0 sErr [.mk 3 0 sType [atomR sCallable, culT t], atomR sNil]) = true := str_valid (by decide) (by simp) (by simp) (fun x hx => by
    simp only [List.mem_cons, List.not_mem_nil, or_false] at hx
    rcases hx with rfl | rfl <;> assumption) (by simp only [szTs, szT]; omega)
  have e1 : typeT t = .mk 3 0 sErr [.mk 3 0 sType [atomR sCallable, culT t], atomR sNil] := by
    have a1 : atomT sCallable = atomR sCallable := atomT_ok (by decide)
    have a2 : atomT sNil = atomR sNil := atomT_ok (by decide)
    unfold typeT aboutT raiseT struT
    simp only [h, if_true, a1, a2, if_neg (show ¬ [atomR sCallable, culT t].length = 0 by simp), cloneT_of v2, if_neg (show ¬ [Te.mk 3 0 sType [atomR sCallable, culT t], atomR sNil].length = 0 by simp), cloneT_of v3]
  have e2 : typeR t = .mk 3 0 sErr [.mk 3 0 sType [atomR sCallable, culT t], atomR sNil] := by
    unfold typeR withR ballR
    rw [if_pos h, cul_eq, cloneT_of v3]
  exact ⟨e1, e2.trans e1.symm, by rw [e1]; exact v3⟩
end Go.Proofs.Ytflahdpkkgmpeaa

namespace Go.Proofs.Ytflahdpkkgmpeaa
open Go.RowKit
set_option linter.unusedVariables false
set_option maxRecDepth 100000

/-- Two blocks. -/
def Two (b c : Nat) : Nat → Prop := fun k => k = b ∨ k = c
abbrev zTerm : Array Value := #[.int .i64 0, .int .i64 0, .string ⟨#[]⟩, .slice none 0 0]
theorem run_assert (v : Value) (w : World) : (Instr.typeAssert (.iface 73 v) 20 73 true).run Try.prog w = .ok (.tuple #[v, .bool true]) w := by
  have hu : Try.prog.underlying 73 = some (.struct #[]) := by kernel_rfl
  simp [Instr.typeAssert, run_underlying hu]
section
variable {P : Program} {ops : Array Oper} {Q : Exit → Act → World → Prop} {a : Act} {w w' : World} {K : Act → World → Prop}
theorem ops_i {i : Nat} {rest : List Nat} (o : Oper) (ho : ops[i]? = some o) (hg : o.guard = none) (h : o.wp P a w (wpOps P ops Q rest) Q) : wpOps P ops Q (i :: rest) a w := by
  simp only [wpOps, ho]
  rw [if_pos (by simp [Region.wanted, hg])]
  exact .inl h
theorem op_v {o : Oper} {v : Value} (h : (execOp a.eval o).run P w = .ok (.value v) w') (hk : K (a.put o.dst v) w') : o.wp P a w K Q := by
  unfold Oper.wp
  rw [h]
  exact hk
theorem op_s {o : Oper} (h : (execOp a.eval o).run P w = .ok .skip w') (hk : K (a.put o.dst undef) w') : o.wp P a w K Q := by
  unfold Oper.wp
  rw [h]
  exact hk
end
theorem act_is {a b : Act} {l : List Nat} {P : Program} {ops : Array Oper} {Q : Exit → Act → World → Prop} {w : World} (h : a = b) (hk : wpOps P ops Q l b w) : wpOps P ops Q l a w := h ▸ hk
theorem run_v {x : Sem Value} {w w' : World} {v : Value} (h : x.run Try.prog w = .ok v w') : (x >>= fun v => pure (.value v)).run Try.prog w = .ok (Next.value v) w' := by
  rw [Sem.run_bind, h]
  rfl
theorem run_s {x : Sem Unit} {w w' : World} (h : x.run Try.prog w = .ok () w') : (x >>= fun _ => pure .skip).run Try.prog w = .ok Next.skip w' := by
  rw [Sem.run_bind, h]
  rfl
/-- A store of one whole variable. -/
theorem run_store_all {T : TypeId} {w : World} {g : Nat} {cur cs : Array Value} {T' : TypeId} (hg : w.heap[g]? = some (.cells cur T' (0, 0))) {i : TypeInfo} (hi : Try.prog.info? T = some i) (h1 : i.size = cs.size) (h2 : cur.size = cs.size) (hone : ∀ x ∈ cs.toList, x.oneCell' = true) {v : Value} (hc : v.cells = cs) :
    (Instr.storeAt T (.pointer (some ⟨g, 0, none⟩)) v).run Try.prog w = .ok () (w.setRow g cs) := by
  have hst := run_storeCells_at Try.prog g 0 T' cs.toList 0 cur w hg (by simp; omega) hone
  have e1 : (cur.toList.take (0 + 0) ++ cs.toList ++ cur.toList.drop (0 + 0 + cs.toList.length)) = cs.toList := by
    rw [List.drop_eq_nil_of_le (by simp; omega)]
    simp
  rw [e1] at hst
  simp only [Instr.storeAt, Instr.sureAddr, Sem.run_bind, Sem.run_pure, Result.andThen_ok, storeVar, sizeOf, typeInfo, run_program, hi, hc]
  rw [if_neg (by omega)]
  simpa using hst
theorem pan_info : (Try.prog.info? 73).map (fun i => (i.size, i.zero)) = some (0, some (.agg #[])) := by kernel_rfl
theorem term_info : (Try.prog.info? 24).map (fun i => (i.size, i.zero)) = some (4, some (.agg zTerm)) := by kernel_rfl
theorem bool_info : (Try.prog.info? 4).map (fun i => (i.size, i.zero)) = some (1, some (.bool false)) := by kernel_rfl
theorem run_build0 (w : World) : (Instr.build 24 #[]).run Try.prog w = .ok (.agg zTerm) w := by
  obtain ⟨i24, hi24, e24⟩ := Option.map_eq_some_iff.1 term_info
  simp only [Prod.mk.injEq] at e24
  have hT : (tyOf 24).isSome = true := by kernel_rfl
  have hS : (tyOf 24).map isSt = some true := by kernel_rfl
  obtain ⟨t, ht⟩ := Option.isSome_iff_exists.1 hT
  rw [ht] at hS
  have hS : isSt t = true := by simpa using hS
  obtain ⟨S, rfl⟩ : ∃ S, t = .st S := by cases t <;> first | exact ⟨_, rfl⟩ | (simp [isSt] at hS; done)
  obtain ⟨fields, fs, zc, i, hu, hf, hfb, hi, hs, hz, -⟩ := row_st ht
  obtain ⟨places, hpr, hpl⟩ := run_places (w := w) hfb
  have hzv : (zeroValue 24).run Try.prog w = .ok (.agg zTerm) w := by simp [zeroValue, typeInfo, hi24, e24.2]
  simp only [Instr.build, Sem.run_bind, hzv, run_underlying hu, Result.andThen_ok, hpr, Value.cells, Instr.fill, Sem.run_pure]
theorem run_build1 {ps : Array (Nat × Value)} (w : World) (h : ps = #[]) : (Instr.build 24 ps).run Try.prog w = .ok (.agg zTerm) w := by rw [h]; exact run_build0 w
theorem setRow_new {w : World} {g k : Nat} {cs : Array Value} (h : k ≠ g) : (w.setRow g cs).heap[k]? = w.heap[k]? := setRow_other w g k cs h
theorem catch_pan (b2 b3 : Nat) (w : World) {c2 c3 : Array Value} (h2 : w.heap[b2]? = some (.cells c2 24 (0, 0))) (hc2 : c2.size = 4) (h3 : w.heap[b3]? = some (.cells c3 4 (0, 0))) (hc3 : c3.size = 1) (hne : b2 ≠ b3) :
    CallsD Try.prog 69 #[.pointer (some ⟨b2, 0, none⟩), .pointer (some ⟨b3, 0, none⟩)] (.panicking (panCh 73)) w fun e u' w' =>
      e = .returned (.tuple #[]) ∧ (∃ v, u' = .panicking [{ v := v, recovered := true }]) ∧ But (Two b2 b3) w w' ∧ w'.heap[b2]? = some (.cells zTerm 24 (0, 0)) ∧ w'.heap[b3]? = some (.cells #[.bool false] 4 (0, 0)) := by
  obtain ⟨i73, hi73, e73⟩ := Option.map_eq_some_iff.1 pan_info
  obtain ⟨i24, hi24, e24⟩ := Option.map_eq_some_iff.1 term_info
  obtain ⟨i4, hi4, e4⟩ := Option.map_eq_some_iff.1 bool_info
  simp only [Prod.mk.injEq] at e73 e24 e4
  refine callsD_of_wpS Try.func69 rfl fun c₀ cs hu => ?_
  apply wpS_seq
  apply wpS_region
  simp [wpOpsS, go_sem, recoverD, hu, Try.ntmps69, Exit.thenS, panCh]
  apply wpS_seq
  apply wpS_region
  simp [wpOpsS, go_sem, Exit.thenS]
  refine wpS_cond (t := true) (by simp [Act.eval, Array.replicate]) ?_
  simp only [if_true]
  refine wpS_of_wp ?_
  refine wp_seq (wp_seq (wp_region ?_))
  refine act_is (b := { tmps := #[.pointer (some ⟨b2, 0, none⟩), .pointer (some ⟨b3, 0, none⟩), .iface 73 (.agg #[]), undef, undef, .iface 73 (.agg #[]), .iface 73 (.agg #[]), .bool true, undef, undef, undef, undef, undef, undef, undef, undef, undef], defers := [] }) (by kernel_rfl) ?_
  refine ops_i _ rfl rfl (op_v (w' := w) (v := .iface 73 (.agg #[])) (by kernel_rfl) ?_)
  refine act_is (b := { tmps := #[.pointer (some ⟨b2, 0, none⟩), .pointer (some ⟨b3, 0, none⟩), .iface 73 (.agg #[]), undef, undef, .iface 73 (.agg #[]), .iface 73 (.agg #[]), .bool true, undef, (.iface 73 (.agg #[])), undef, undef, undef, undef, undef, undef, undef], defers := [] }) (by kernel_rfl) ?_
  refine ops_i _ rfl rfl (op_v (w' := w) (v := .tuple #[.agg #[], .bool true]) (run_v (run_assert (.agg #[]) w)) ?_)
  refine act_is (b := { tmps := #[.pointer (some ⟨b2, 0, none⟩), .pointer (some ⟨b3, 0, none⟩), .iface 73 (.agg #[]), undef, undef, .iface 73 (.agg #[]), .iface 73 (.agg #[]), .bool true, undef, (.iface 73 (.agg #[])), (.tuple #[.agg #[], .bool true]), undef, undef, undef, undef, undef, undef], defers := [] }) (by kernel_rfl) ?_
  refine ops_i _ rfl rfl (op_v (w' := w) (v := .tuple #[.agg #[], .bool true]) (by kernel_rfl) ?_)
  refine act_is (b := { tmps := #[.pointer (some ⟨b2, 0, none⟩), .pointer (some ⟨b3, 0, none⟩), .iface 73 (.agg #[]), undef, undef, .iface 73 (.agg #[]), .iface 73 (.agg #[]), .bool true, (.tuple #[.agg #[], .bool true]), (.iface 73 (.agg #[])), (.tuple #[.agg #[], .bool true]), undef, undef, undef, undef, undef, undef], defers := [] }) (by kernel_rfl) ?_
  refine ops_i _ rfl rfl (op_v (w' := w) (v := .agg #[]) (by kernel_rfl) ?_)
  refine act_is (b := { tmps := #[.pointer (some ⟨b2, 0, none⟩), .pointer (some ⟨b3, 0, none⟩), .iface 73 (.agg #[]), undef, undef, .iface 73 (.agg #[]), .iface 73 (.agg #[]), .bool true, (.tuple #[.agg #[], .bool true]), (.iface 73 (.agg #[])), (.tuple #[.agg #[], .bool true]), (.agg #[]), undef, undef, undef, undef, undef], defers := [] }) (by kernel_rfl) ?_
  refine ops_i _ rfl rfl (op_v (w' := w) (v := .bool true) (by kernel_rfl) ?_)
  refine act_is (b := { tmps := #[.pointer (some ⟨b2, 0, none⟩), .pointer (some ⟨b3, 0, none⟩), .iface 73 (.agg #[]), undef, undef, .iface 73 (.agg #[]), .iface 73 (.agg #[]), .bool true, (.tuple #[.agg #[], .bool true]), (.iface 73 (.agg #[])), (.tuple #[.agg #[], .bool true]), (.agg #[]), (.bool true), undef, undef, undef, undef], defers := [] }) (by kernel_rfl) ?_
  refine ops_i _ rfl rfl (op_v (w' := (w.alloc (.cells #[] 73))) (v := .pointer (some ⟨w.heap.size, 0, none⟩)) (by simp [execOp, Instr.alloc, zeroValue, typeInfo, hi73, e73.2, newVar, newRow, newObj, Value.cells, Sem.run]) ?_)
  refine act_is (b := { tmps := #[.pointer (some ⟨b2, 0, none⟩), .pointer (some ⟨b3, 0, none⟩), .iface 73 (.agg #[]), (.pointer (some ⟨w.heap.size, 0, none⟩)), undef, .iface 73 (.agg #[]), .iface 73 (.agg #[]), .bool true, (.tuple #[.agg #[], .bool true]), (.iface 73 (.agg #[])), (.tuple #[.agg #[], .bool true]), (.agg #[]), (.bool true), undef, undef, undef, undef], defers := [] }) (by kernel_rfl) ?_
  refine ops_i _ rfl rfl (op_s (w' := ((w.alloc (.cells #[] 73)).setRow w.heap.size #[])) (run_s (run_store_all (T := 73) (cur := #[]) (cs := #[]) (heap_new rfl) hi73 e73.1 rfl (fun x hx => by cases hx) (v := .agg #[]) rfl)) ?_)
  refine act_is (b := { tmps := #[.pointer (some ⟨b2, 0, none⟩), .pointer (some ⟨b3, 0, none⟩), .iface 73 (.agg #[]), (.pointer (some ⟨w.heap.size, 0, none⟩)), undef, .iface 73 (.agg #[]), .iface 73 (.agg #[]), .bool true, (.tuple #[.agg #[], .bool true]), (.iface 73 (.agg #[])), (.tuple #[.agg #[], .bool true]), (.agg #[]), (.bool true), undef, undef, undef, undef], defers := [] }) (by kernel_rfl) ?_
  refine ops_i _ rfl rfl (op_v (w' := ((w.alloc (.cells #[] 73)).setRow w.heap.size #[])) (v := .bool true) (by kernel_rfl) ?_)
  refine act_is (b := { tmps := #[.pointer (some ⟨b2, 0, none⟩), .pointer (some ⟨b3, 0, none⟩), .iface 73 (.agg #[]), (.pointer (some ⟨w.heap.size, 0, none⟩)), (.bool true), .iface 73 (.agg #[]), .iface 73 (.agg #[]), .bool true, (.tuple #[.agg #[], .bool true]), (.iface 73 (.agg #[])), (.tuple #[.agg #[], .bool true]), (.agg #[]), (.bool true), undef, undef, undef, undef], defers := [] }) (by kernel_rfl) ?_
  show Code.wp Try.prog (.seq (.region 3 _ _) _) _ _ _
  refine wp_seq (wp_region ?_)
  refine ops_i _ rfl rfl (op_v (w' := ((w.alloc (.cells #[] 73)).setRow w.heap.size #[])) (v := .bool true) (by kernel_rfl) ?_)
  refine act_is (b := { tmps := #[.pointer (some ⟨b2, 0, none⟩), .pointer (some ⟨b3, 0, none⟩), .iface 73 (.agg #[]), (.pointer (some ⟨w.heap.size, 0, none⟩)), (.bool true), .iface 73 (.agg #[]), .iface 73 (.agg #[]), .bool true, (.tuple #[.agg #[], .bool true]), (.iface 73 (.agg #[])), (.tuple #[.agg #[], .bool true]), (.agg #[]), (.bool true), (.bool true), undef, undef, undef], defers := [] }) (by kernel_rfl) ?_
  refine ops_i _ rfl rfl (op_v (w' := ((w.alloc (.cells #[] 73)).setRow w.heap.size #[])) (v := .bool false) (by kernel_rfl) ?_)
  refine act_is (b := { tmps := #[.pointer (some ⟨b2, 0, none⟩), .pointer (some ⟨b3, 0, none⟩), .iface 73 (.agg #[]), (.pointer (some ⟨w.heap.size, 0, none⟩)), (.bool true), .iface 73 (.agg #[]), .iface 73 (.agg #[]), .bool true, (.tuple #[.agg #[], .bool true]), (.iface 73 (.agg #[])), (.tuple #[.agg #[], .bool true]), (.agg #[]), (.bool true), (.bool true), (.bool false), undef, undef], defers := [] }) (by kernel_rfl) ?_
  refine wp_cond (t := false) (by kernel_rfl) ?_
  simp only [Bool.false_eq_true, if_false]
  refine wp_skip ?_
  show Code.wp Try.prog (.region 5 _ _) _ _ _
  refine wp_region ?_
  refine ops_i _ rfl rfl (op_v (w' := ((w.alloc (.cells #[] 73)).setRow w.heap.size #[])) (v := .agg zTerm) (run_v (run_build1 _ (by simp))) ?_)
  refine act_is (b := { tmps := #[.pointer (some ⟨b2, 0, none⟩), .pointer (some ⟨b3, 0, none⟩), .iface 73 (.agg #[]), (.pointer (some ⟨w.heap.size, 0, none⟩)), (.bool true), .iface 73 (.agg #[]), .iface 73 (.agg #[]), .bool true, (.tuple #[.agg #[], .bool true]), (.iface 73 (.agg #[])), (.tuple #[.agg #[], .bool true]), (.agg #[]), (.bool true), (.bool true), (.bool false), undef, (.agg zTerm)], defers := [] }) (by kernel_rfl) ?_
  have hlt2 := lt_of_heap h2
  have hlt3 := lt_of_heap h3
  have g2 : ((w.alloc (.cells #[] 73)).setRow w.heap.size #[]).heap[b2]? = some (.cells c2 24 (0, 0)) := by
    rw [setRow_new (by omega)]
    exact heap_old h2
  refine ops_i _ rfl rfl (op_s (w' := ((w.alloc (.cells #[] 73)).setRow w.heap.size #[]).setRow b2 zTerm) (run_s (run_store_all (T := 24) (cs := zTerm) g2 hi24 e24.1 hc2 (by simp [Value.oneCell']) (v := .agg zTerm) rfl)) ?_)
  have g3 : (((w.alloc (.cells #[] 73)).setRow w.heap.size #[]).setRow b2 zTerm).heap[b3]? = some (.cells c3 4 (0, 0)) := by
    rw [setRow_new (fun e => hne e.symm), setRow_new (by omega)]
    exact heap_old h3
  refine ops_i _ rfl rfl (op_s (w' := (((w.alloc (.cells #[] 73)).setRow w.heap.size #[]).setRow b2 zTerm).setRow b3 #[.bool false]) (run_s (run_store_all (T := 4) (cs := #[.bool false]) g3 hi4 e4.1 hc3 (by simp [Value.oneCell']) (v := .bool false) rfl)) ?_)
  refine ⟨rfl, _, rfl, .tuple #[], by kernel_rfl, rfl, ⟨_, rfl⟩, ?_, ?_, setRow_heap _ _ _ _ _ _ g3⟩
  · exact setRow_but (setRow_but (setRow_but ((But.refl _ w).alloc _) (.inr (Nat.le_refl _)) _) (.inl (.inl rfl)) _) (.inl (.inr rfl)) _
  · rw [setRow_new hne]
    exact setRow_heap _ _ _ _ _ _ g2

theorem catch_idle (b2 b3 : Nat) (w : World) :
    CallsD Try.prog 69 #[.pointer (some ⟨b2, 0, none⟩), .pointer (some ⟨b3, 0, none⟩)] .returning w fun e u' w' => e = .returned (.tuple #[]) ∧ u' = .returning ∧ w' = w := by
  refine callsD_of_wpS Try.func69 rfl fun c₀ cs hu => ?_
  apply wpS_seq
  apply wpS_region
  simp [wpOpsS, go_sem, recoverD, hu, Try.ntmps69, Exit.thenS]
  apply wpS_seq
  apply wpS_region
  simp [wpOpsS, go_sem, Exit.thenS]
  refine wpS_cond (t := false) (by simp [Act.eval, Array.replicate]) ?_
  simp only [Bool.false_eq_true, if_false]
  refine wpS_of_wp (wp_skip ?_)
  cases c₀
  simp_all [bodyPostS, results, Try.results69]

/-- What convert does: what build does, and whether it does. -/
def gConv (g : List D → Option (List D)) : List D → Option (List D) := fun ds => match g ds with
  | some [.u] => some [.a [.i 0, .i 0, .s ⟨#[]⟩, .r []], .b false]
  | some [d] => some [d, .b true]
  | _ => none
theorem op_call {o : Oper} {a : Act} {w w' : World} {K : Act → World → Prop} {Q : Exit → Act → World → Prop} {f : FuncId} {args : Array Value} {R : Ending → World → Prop} (h : (execOp a.eval o).run Try.prog w = .ok (.enter f args) w') (hc : Calls Try.prog f args w' R)
    (hr : ∀ v w'', R (.returned v) w'' → K (a.put o.dst v) w'') (hp : ∀ ch w'', R (.panicked ch) w'' → Q (.panic ch) a w'') (ho : ∀ w'', ¬ R .outgrown w'') : o.wp Try.prog a w K Q := by
  unfold Oper.wp
  rw [h]
  refine hc.mono ?_
  intro e w'' hR
  cases e with
  | returned v => exact hr v w'' hR
  | panicked ch => exact hp ch w'' hR
  | outgrown => exact (ho w'' hR).elim

theorem term_ty : tyOf 24 = some T_Term := by kernel_rfl
theorem bool_ty : tyOf 4 = some .bool := by kernel_rfl
theorem pack_uni {t : Ty} {cs : List Value} {v v' : Value} (h : Pack t cs v) (h' : Pack t cs v') : v' = v := by
  unfold Pack at h h'
  split at h
  · rw [h, h']
  · rename_i hn
    have h2 : cs = [v'] := by
      cases t <;> first | exact h' | exact absurd rfl (hn _)
    rw [h] at h2
    injection h2 with h2
    exact h2.symm
theorem run_load_w {T : TypeId} {t : Ty} (h : tyOf T = some t) {w : World} {F : Nat → Prop} {d : D} {cs : List Value} {v : Value} (hd : Rd w F d t cs) (hp : Pack t cs v) {b : Nat} {T' : TypeId} (hb : w.heap[b]? = some (.cells cs.toArray T' (0, 0))) : (Instr.loadAt T (.pointer (some ⟨b, 0, none⟩))).run Try.prog w = .ok v w := by
  have hr : w.rangeAt b 0 cs := fun j u hj => by
    rw [cell_of_row w b (0 + j) _ T' (0, 0) hb]
    simpa using hj
  obtain ⟨v', h1, h2⟩ := run_load_of h hr hd
  rw [← pack_uni hp h2]
  exact h1
theorem op_d {o : Oper} {a : Act} {w w' : World} {K : Act → World → Prop} {Q : Exit → Act → World → Prop} {d : Deferred} (h : (execOp a.eval o).run Try.prog w = .ok (.defer d) w') (hk : K ({ a with defers := d :: a.defers }.put o.dst undef) w') : o.wp Try.prog a w K Q := by
  unfold Oper.wp
  rw [h]
  exact hk
theorem run_newVar {T : TypeId} {v : Value} {cs : Array Value} {w : World} (hc : v.cells = cs) : (Instr.box T v).run Try.prog w = .ok (.pointer (some ⟨w.heap.size, 0, none⟩)) (w.alloc (.cells cs T)) := by
  simp [Instr.box, newVar, newRow, newObj, hc, Sem.run]
theorem run_alloc_z {T : TypeId} {z : Value} {w : World} {i : TypeInfo} (hi : Try.prog.info? T = some i) (hz : i.zero = some z) {n : Nat} (hn : n = w.heap.size) : (Instr.alloc T true (.tuple #[])).run Try.prog w = .ok (.pointer (some ⟨n, 0, none⟩)) (w.alloc (.cells z.cells T)) := by
  subst hn
  simp [Instr.alloc, zeroValue, typeInfo, hi, hz, newVar, newRow, newObj, Sem.run]
theorem ok_body_convert {g : List D → Option (List D)} (hB : FOk ct_body_build g) : FOk ct_body_convert (gConv g) := by
  refine ⟨enter_body_convert, fun A p w vs us ds outs hg hpre hvl hargs => ?_⟩
  obtain ⟨i24, hi24, e24⟩ := Option.map_eq_some_iff.1 term_info
  obtain ⟨i4, hi4, e4⟩ := Option.map_eq_some_iff.1 bool_info
  simp only [Prod.mk.injEq] at e24 e4
  obtain ⟨v, r, d, ds', hvs, rfl, ⟨cs, hpk, hrd⟩, hr⟩ := hargs
  obtain ⟨rfl, rfl⟩ : r = [] ∧ ds' = [] := hr
  obtain ⟨rfl, rfl⟩ : vs = [v] ∧ us = [] := by
    cases vs with
    | nil => cases hvl
    | cons a l =>
      have hl : l = [] := List.length_eq_zero_iff.1 (Nat.succ.inj hvl)
      subst hl
      simp only [List.cons_append, List.nil_append, List.cons.injEq] at hvs
      exact ⟨by rw [hvs.1], hvs.2⟩
  obtain ⟨hlen, hone⟩ := Rd.len _ hrd
  have hcells : v.cells = cs.toArray := hpk.cells hone
  have hrd3 := Rd.keeps (F' := FFD A p []) (w' := ((w.alloc (.cells cs.toArray 24)).alloc (.cells zTerm 24)).alloc (.cells #[.bool false] 4)) (fun b o hb ho => ⟨heap_old (heap_old (heap_old ho)), hb⟩) _ hrd
  show Calls Try.prog 33 #[v] w _
  refine calls_of_wp_defers Try.func33 rfl ?_
  refine wp_seq (wp_region ?_)
  refine act_is (b := { tmps := #[v, undef, undef, undef, undef, undef, undef], defers := [] }) (by kernel_rfl) ?_
  refine ops_i _ rfl rfl (op_v (w' := (w.alloc (.cells cs.toArray 24))) (v := .pointer (some ⟨w.heap.size, 0, none⟩)) (run_v (run_newVar hcells)) ?_)
  refine act_is (b := { tmps := #[v, (.pointer (some ⟨w.heap.size, 0, none⟩)), undef, undef, undef, undef, undef], defers := [] }) (by kernel_rfl) ?_
  refine ops_i _ rfl rfl (op_v (w' := ((w.alloc (.cells cs.toArray 24)).alloc (.cells zTerm 24))) (v := .pointer (some ⟨w.heap.size + 1, 0, none⟩)) (run_v (run_alloc_z hi24 e24.2 (by simp))) ?_)
  refine act_is (b := { tmps := #[v, (.pointer (some ⟨w.heap.size, 0, none⟩)), (.pointer (some ⟨w.heap.size + 1, 0, none⟩)), undef, undef, undef, undef], defers := [] }) (by kernel_rfl) ?_
  refine ops_i _ rfl rfl (op_v (w' := (((w.alloc (.cells cs.toArray 24)).alloc (.cells zTerm 24)).alloc (.cells #[.bool false] 4))) (v := .pointer (some ⟨w.heap.size + 2, 0, none⟩)) (run_v (run_alloc_z hi4 e4.2 (by simp))) ?_)
  refine act_is (b := { tmps := #[v, (.pointer (some ⟨w.heap.size, 0, none⟩)), (.pointer (some ⟨w.heap.size + 1, 0, none⟩)), (.pointer (some ⟨w.heap.size + 2, 0, none⟩)), undef, undef, undef], defers := [] }) (by kernel_rfl) ?_
  refine wp_seq (wp_region ?_)
  refine ops_i _ rfl rfl (op_v (w' := (((w.alloc (.cells cs.toArray 24)).alloc (.cells zTerm 24)).alloc (.cells #[.bool false] 4))) (v := .func (.func 69) #[] #[.pointer (some ⟨w.heap.size + 1, 0, none⟩), .pointer (some ⟨w.heap.size + 2, 0, none⟩)]) (by kernel_rfl) ?_)
  refine act_is (b := { tmps := #[v, (.pointer (some ⟨w.heap.size, 0, none⟩)), (.pointer (some ⟨w.heap.size + 1, 0, none⟩)), (.pointer (some ⟨w.heap.size + 2, 0, none⟩)), (.func (.func 69) #[] #[.pointer (some ⟨w.heap.size + 1, 0, none⟩), .pointer (some ⟨w.heap.size + 2, 0, none⟩)]), undef, undef], defers := [] }) (by kernel_rfl) ?_
  refine ops_i _ rfl rfl (op_d (w' := (((w.alloc (.cells cs.toArray 24)).alloc (.cells zTerm 24)).alloc (.cells #[.bool false] 4))) (d := { target := .fn (.func 69) #[.pointer (some ⟨w.heap.size + 1, 0, none⟩), .pointer (some ⟨w.heap.size + 2, 0, none⟩)], args := #[] }) (by kernel_rfl) ?_)
  refine act_is (b := { tmps := #[v, (.pointer (some ⟨w.heap.size, 0, none⟩)), (.pointer (some ⟨w.heap.size + 1, 0, none⟩)), (.pointer (some ⟨w.heap.size + 2, 0, none⟩)), (.func (.func 69) #[] #[.pointer (some ⟨w.heap.size + 1, 0, none⟩), .pointer (some ⟨w.heap.size + 2, 0, none⟩)]), undef, undef], defers := [{ target := .fn (.func 69) #[.pointer (some ⟨w.heap.size + 1, 0, none⟩), .pointer (some ⟨w.heap.size + 2, 0, none⟩)], args := #[] }] }) (by kernel_rfl) ?_
  refine wp_seq (wp_region ?_)
  refine ops_i _ rfl rfl (op_v (w' := (((w.alloc (.cells cs.toArray 24)).alloc (.cells zTerm 24)).alloc (.cells #[.bool false] 4))) (v := v) (run_v (run_load_w term_ty hrd3 hpk (heap_old (heap_old (heap_new rfl))))) ?_)
  refine act_is (b := { tmps := #[v, (.pointer (some ⟨w.heap.size, 0, none⟩)), (.pointer (some ⟨w.heap.size + 1, 0, none⟩)), (.pointer (some ⟨w.heap.size + 2, 0, none⟩)), (.func (.func 69) #[] #[.pointer (some ⟨w.heap.size + 1, 0, none⟩), .pointer (some ⟨w.heap.size + 2, 0, none⟩)]), v, undef], defers := [{ target := .fn (.func 69) #[.pointer (some ⟨w.heap.size + 1, 0, none⟩), .pointer (some ⟨w.heap.size + 2, 0, none⟩)], args := #[] }] }) (by kernel_rfl) ?_
  have hB2 : (((w.alloc (.cells cs.toArray 24)).alloc (.cells zTerm 24)).alloc (.cells #[.bool false] 4)).heap[w.heap.size + 1]? = some (.cells zTerm 24 (0, 0)) := heap_old (heap_new (by simp))
  have hB3 : (((w.alloc (.cells cs.toArray 24)).alloc (.cells zTerm 24)).alloc (.cells #[.bool false] 4)).heap[w.heap.size + 2]? = some (.cells #[.bool false] 4 (0, 0)) := heap_new (by simp)
  have hsz3 : (((w.alloc (.cells cs.toArray 24)).alloc (.cells zTerm 24)).alloc (.cells #[.bool false] 4)).heap.size = w.heap.size + 3 := by simp
  have hbut3 : But (pinned p) w (((w.alloc (.cells cs.toArray 24)).alloc (.cells zTerm 24)).alloc (.cells #[.bool false] 4)) := (((But.refl _ w).alloc _).alloc _).alloc _
  have hall3 : ∀ b, b < w.heap.size → (((w.alloc (.cells cs.toArray 24)).alloc (.cells zTerm 24)).alloc (.cells #[.bool false] 4)).heap[b]? = w.heap[b]? := fun b hb => ((((But.refl Nil w).alloc _).alloc _).alloc _).block b hb id
  have hold : ∀ b o, w.heap[b]? = some o → (((w.alloc (.cells cs.toArray 24)).alloc (.cells zTerm 24)).alloc (.cells #[.bool false] 4)).heap[b]? = some o := fun b o h => heap_old (heap_old (heap_old h))
  clear hrd3
  generalize (((w.alloc (.cells cs.toArray 24)).alloc (.cells zTerm 24)).alloc (.cells #[.bool false] 4)) = w3 at *
  have hb2 : w3.heap[w.heap.size + 1]? = some (.cells zTerm 24 (0, 0)) := hB2
  have hpre2 : Pre ct_body_build.ar.length (fun b => A b ∧ Free p b ∧ b ≠ w.heap.size + 1 ∧ b ≠ w.heap.size + 2) (fun _ => none) w3 :=
    ⟨(fun x y b h => by cases h), (fun x b h => by cases h), (fun x b h => by cases h), (fun x b h => by cases h), (fun b hb => ⟨hpre.new b (by omega), (fun x hx => by have := hpre.bd x b hx; omega), by omega, by omega⟩), (fun x b h => by cases h)⟩
  have hrd2 : Rd w3 (FFD (fun b => A b ∧ Free p b ∧ b ≠ w.heap.size + 1 ∧ b ≠ w.heap.size + 2) (fun _ => none) []) d T_Term cs := Rd.keeps (F := FFD A p []) (w := w) (fun b o hb ho => ⟨hold b o ho, by
    have hlt := lt_of_heap ho
    rcases hb with ⟨h1, h2⟩ | ⟨x, hx, -⟩
    · exact .inl ⟨⟨h1, h2, by omega, by omega⟩, fun x hx => by cases hx⟩
    · cases hx⟩) _ hrd
  have hen : ∀ (args : Array Value) (w : World), (callFunc 70 args).run Try.prog w = .ok (.enter 70 args) w := enter_body_build
  have hcall : ∀ o1, g [d] = some o1 → _ := fun o1 h1 => hB.call (fun b => A b ∧ Free p b ∧ b ≠ w.heap.size + 1 ∧ b ≠ w.heap.size + 2) (fun _ => none) w3 [v] [] [d] o1 h1 hpre2 rfl ⟨v, [], d, [], rfl, rfl, ⟨cs, hpk, hrd2⟩, rfl, rfl⟩
  have hrun6 : ∀ (w' : World) (c2 : List Value) (b : Bool) (d2 : D) (F : Nat → Prop), w'.heap[w.heap.size + 1]? = some (.cells c2.toArray 24 (0, 0)) → Rd w' F d2 T_Term c2 → w'.heap[w.heap.size + 2]? = some (.cells #[.bool b] 4 (0, 0)) →
      ∀ tmps : Array Value, tmps.getD 2 undef = .pointer (some ⟨w.heap.size + 1, 0, none⟩) → tmps.getD 3 undef = .pointer (some ⟨w.heap.size + 2, 0, none⟩) → (results Try.f33 tmps).run Try.prog w' = .ok (retV [.agg c2.toArray, .bool b]) w' := by
    intro w' c2 b d2 F h2 hd2 h3 tmps e2 e3
    refine results_run ?_
    rw [Try.results33]
    refine ⟨_, _, rfl, ?_, _, _, rfl, ?_, rfl⟩
    · show (do loadVar 24 (← asAddr (tmps.getD 2 undef))).run _ _ = _
      rw [e2]
      have := run_load_w term_ty hd2 (v := .agg c2.toArray) rfl h2
      simpa [asAddr, Instr.loadAt, Instr.sureAddr] using this
    · show (do loadVar 4 (← asAddr (tmps.getD 3 undef))).run _ _ = _
      rw [e3]
      have := run_load_w (w := w') (F := F) (d := .b b) bool_ty ⟨rfl, rfl⟩ (v := .bool b) rfl h3
      simpa [asAddr, Instr.loadAt, Instr.sureAddr] using this
  have hfinBs : ∀ w', But (pinned p) w w' → (∀ b, b < w.heap.size → w'.heap[b]? = w.heap[b]?) → Bs A w (pinned p) p w' := fun w' hb hs =>
    ⟨hpre.inj, (fun x b hx => Nat.lt_of_lt_of_le (hpre.bd x b hx) hb.size), hb, (fun x b hx => .inl ⟨x, hx⟩), hpre.new, hpre.pa, (fun x b hx => (hpre.obj x b hx).same (hs b (hpre.bd x b hx)))⟩
  have hz : ∀ (w' : World) (F : Nat → Prop), Rd w' F (.a [.i 0, .i 0, .s ⟨#[]⟩, .r []]) T_Term zTerm.toList := fun w' F =>
    ⟨_, [.int .i64, .int .i64, .str, T_Terms], rfl, rfl, _, _, [.int .i64 0], _, rfl, rfl, ⟨.i64, rfl, rfl, rfl⟩, _, _, [.int .i64 0], _, rfl, rfl, ⟨.i64, rfl, rfl, rfl⟩, _, _, [.string ⟨#[]⟩], _, rfl, rfl, ⟨rfl, rfl, Nat.zero_le _⟩,
      _, _, [.slice none 0 0], _, rfl, rfl, ⟨_, T_Term, none, 0, rfl, term_ty, rfl, Nat.le_refl _, Nat.zero_le _, Nat.zero_le _, trivial⟩, rfl, rfl⟩
  have hnp : ∀ b, ¬ pinned (fun _ => none) b := fun b ⟨x, hx⟩ => by cases hx
  have hpn : ∀ k, ¬ pinned p (w.heap.size + k) := fun k ⟨x, hx⟩ => by have := hpre.bd x _ hx; omega
  have hex : (execOp (({ tmps := #[v, .pointer (some ⟨w.heap.size, 0, none⟩), .pointer (some ⟨w.heap.size + 1, 0, none⟩), .pointer (some ⟨w.heap.size + 2, 0, none⟩), (.func (.func 69) #[] #[.pointer (some ⟨w.heap.size + 1, 0, none⟩), .pointer (some ⟨w.heap.size + 2, 0, none⟩)]), v, undef], defers := [{ target := .fn (.func 69) #[.pointer (some ⟨w.heap.size + 1, 0, none⟩), .pointer (some ⟨w.heap.size + 2, 0, none⟩)], args := #[] }] } : Act)).eval { dst := some 6, op := .call { callee := .value (.func 70), args := #[.tmp 5], argTypes := #[24] }, type := 24, pos := "body.go:46", after := #[{ on := 0, ground := Ground.data }], guard := none }).run Try.prog w3 = .ok (.enter 70 #[v]) w3 := by
    simp [execOp, resolve, Deferred.ofValue, invoke, hen, Act.eval]
  unfold gConv at hg
  split at hg
  · rename_i hgd
    injection hg with hg
    subst hg
    refine ops_i _ rfl rfl (op_call hex (hcall _ hgd) ?_ ?_ ?_)
    · rintro v4 w4 (⟨T, -, -, e, -⟩ | ⟨rs, p', e, hbs, ⟨v5, r5, d5, ds5, rfl, hd5, ⟨cs5, hpk5, hcon5⟩, -⟩, -⟩)
      · cases e
      · exfalso
        injection hd5 with hd5 _
        subst hd5
        obtain ⟨fs, dd, -, e, -⟩ := hcon5
        cases e
    · rintro ch w4 (⟨T, hT, -, e, hb4⟩ | ⟨rs, p', e, -⟩)
      · injection e with e
        subst e
        injection hT with hT
        subst hT
        refine leaves_cons (f := 69) (args := #[.pointer (some ⟨w.heap.size + 1, 0, none⟩), .pointer (some ⟨w.heap.size + 2, 0, none⟩)]) (by simp) (by kernel_rfl) ?_
        refine (catch_pan (w.heap.size + 1) (w.heap.size + 2) w4 (hb4.heap (hnp _) hB2) rfl (hb4.heap (hnp _) hB3) rfl (by omega)).mono ?_
        rintro e u' w' ⟨rfl, ⟨v', rfl⟩, hbt, h2, h3⟩
        have hall : ∀ b, b < w.heap.size → w'.heap[b]? = w.heap[b]? := fun b hb => by
          rw [hbt.block b (by have := hb4.size; omega) (by rintro (h | h) <;> omega), hb4.block b (by omega) (hnp b)]
          exact hall3 b hb
        have hbw : But (pinned p) w w' := (hbut3.trans (hb4.mono (S' := pinned p) fun k hk _ => (hnp k hk).elim) fun k hk _ => .inl hk).trans hbt fun k hk _ => .inr (by rcases hk with h | h <;> omega)
        refine ⟨_, hrun6 w' zTerm.toList false _ _ h2 (hz w' (FFD A p [])) h3 _ (by kernel_rfl) (by kernel_rfl), .inr ⟨[.agg zTerm, .bool false], p, rfl, hfinBs w' hbw hall, ?_, rfl⟩⟩
        exact ⟨_, _, _, _, rfl, rfl, ⟨zTerm.toList, rfl, Con.of_rd (hz w' _)⟩, _, _, _, _, rfl, rfl, ⟨[.bool false], rfl, ⟨rfl, rfl⟩⟩, rfl⟩
      · cases e
    · rintro w4 (⟨T, -, -, e, -⟩ | ⟨rs, p', e, -⟩) <;> cases e
  · rename_i d1 hd1 hgd
    injection hg with hg
    subst hg
    refine ops_i _ rfl rfl (op_call hex (hcall _ hgd) ?_ ?_ ?_)
    · rintro v4 w4 (⟨T, -, -, e, -⟩ | ⟨rs, p', e, hbs, ⟨v5, r5, d5, ds5, rfl, hd5, ⟨cs5, hpk5, hcon5⟩, hr5⟩, -⟩)
      · cases e
      · obtain rfl : r5 = [] := hr5
        injection e with e
        obtain rfl : v4 = v5 := e
        injection hd5 with hd5 _
        subst hd5
        have hcon5 : Con _ p' w4 d1 T_Term [] [] cs5 := hcon5
        obtain ⟨hlen5, hone5⟩ := hcon5.len
        have hw4 : T_Term.w = 4 := by kernel_rfl
        rw [hw4] at hlen5
        have hb4 := hbs.but
        have hg2 : w4.heap[w.heap.size + 1]? = some (.cells zTerm 24 (0, 0)) := hb4.heap (hnp _) hB2
        have hg3 : w4.heap[w.heap.size + 2]? = some (.cells #[.bool false] 4 (0, 0)) := hb4.heap (hnp _) hB3
        refine act_is (b := { tmps := #[v, .pointer (some ⟨w.heap.size, 0, none⟩), .pointer (some ⟨w.heap.size + 1, 0, none⟩), .pointer (some ⟨w.heap.size + 2, 0, none⟩), (.func (.func 69) #[] #[.pointer (some ⟨w.heap.size + 1, 0, none⟩), .pointer (some ⟨w.heap.size + 2, 0, none⟩)]), v, v4], defers := [{ target := .fn (.func 69) #[.pointer (some ⟨w.heap.size + 1, 0, none⟩), .pointer (some ⟨w.heap.size + 2, 0, none⟩)], args := #[] }] }) (by kernel_rfl) ?_
        refine ops_i _ rfl rfl (op_s (w' := w4.setRow (w.heap.size + 1) cs5.toArray) (run_s (run_store_all (T := 24) (cs := cs5.toArray) hg2 hi24 (by simp [e24.1, hlen5]) (by simp [hlen5]) hone5 (v := v4) (hpk5.cells hone5))) ?_)
        have hg3' : (w4.setRow (w.heap.size + 1) cs5.toArray).heap[w.heap.size + 2]? = some (.cells #[.bool false] 4 (0, 0)) := by
          rw [setRow_new (by omega)]
          exact hg3
        refine ops_i _ rfl rfl (op_s (w' := (w4.setRow (w.heap.size + 1) cs5.toArray).setRow (w.heap.size + 2) #[.bool true]) (run_s (run_store_all (T := 4) (cs := #[.bool true]) hg3' hi4 e4.1 rfl (by simp [Value.oneCell']) (v := .bool true) rfl)) ?_)
        show Code.wp Try.prog .ret _ _ _
        refine wp_ret ?_
        refine leaves_cons (f := 69) (args := #[.pointer (some ⟨w.heap.size + 1, 0, none⟩), .pointer (some ⟨w.heap.size + 2, 0, none⟩)]) (by simp) (by kernel_rfl) ?_
        refine (catch_idle (w.heap.size + 1) (w.heap.size + 2) _).mono ?_
        rintro e u' w' ⟨rfl, rfl, rfl⟩
        have hall : ∀ b, b ≠ w.heap.size + 1 → b ≠ w.heap.size + 2 → ((w4.setRow (w.heap.size + 1) cs5.toArray).setRow (w.heap.size + 2) #[.bool true]).heap[b]? = w4.heap[b]? := fun b h1 h2 => by
          rw [setRow_new h2, setRow_new h1]
        have h3 := setRow_heap _ _ _ #[.bool true] _ _ hg3'
        have h2 : ((w4.setRow (w.heap.size + 1) cs5.toArray).setRow (w.heap.size + 2) #[.bool true]).heap[w.heap.size + 1]? = some (.cells cs5.toArray 24 (0, 0)) := by
          rw [setRow_new (by omega)]
          exact setRow_heap _ _ _ _ _ _ hg2
        have hbw : But (pinned p) w ((w4.setRow (w.heap.size + 1) cs5.toArray).setRow (w.heap.size + 2) #[.bool true]) :=
          setRow_but (setRow_but (hbut3.trans (hb4.mono (S' := pinned p) fun k hk _ => (hnp k hk).elim) fun k hk _ => .inl hk) (.inr (by omega)) _) (.inr (by omega)) _
        have hrd5 : Rd ((w4.setRow (w.heap.size + 1) cs5.toArray).setRow (w.heap.size + 2) #[.bool true]) (FFD A p []) d1 T_Term cs5 := Rd.keeps (F := FFD _ p' []) (w := w4) (fun b o hb ho => by
          rcases hb with ⟨⟨h1, h2, h3, h4⟩, -⟩ | ⟨x, hx, -⟩
          · exact ⟨(hall b h3 h4).trans ho, .inl ⟨h1, h2⟩⟩
          · cases hx) _ (hcon5.rd (dep' := []) (fun x hx => by cases hx) (fun x hx => by cases hx))
        refine ⟨_, hrun6 _ cs5 true _ _ h2 hrd5 h3 _ (by kernel_rfl) (by kernel_rfl), .inr ⟨[.agg cs5.toArray, .bool true], p, rfl, hfinBs _ hbw (fun b hb => ?_), ?_, rfl⟩⟩
        · rw [hall b (by omega) (by omega), hb4.block b (by omega) (hnp b)]
          exact hall3 b hb
        · exact ⟨_, _, _, _, rfl, rfl, ⟨cs5, rfl, Con.of_rd hrd5⟩, _, _, _, _, rfl, rfl, ⟨[.bool true], rfl, ⟨rfl, rfl⟩⟩, rfl⟩
    · rintro ch w4 (⟨T, hT, e0, e, hb4⟩ | ⟨rs, p', e, -⟩)
      · injection e0 with e0
        exact (hd1 e0).elim
      · cases e
    · rintro w4 (⟨T, -, -, e, -⟩ | ⟨rs, p', e, -⟩) <;> cases e
  · cases hg
end Go.Proofs.Ytflahdpkkgmpeaa

namespace Go.Proofs.Ytflahdpkkgmpeaa
open Go.RowKit
set_option linter.unusedVariables false
set_option linter.unusedSimpArgs false

abbrev sCall : ByteArray := ⟨#[99, 97, 108, 108]⟩
abbrev sComma : ByteArray := ⟨#[44]⟩
abbrev sSemi : ByteArray := ⟨#[59]⟩
abbrev sArrow : ByteArray := ⟨#[45, 62]⟩
abbrev sNeck : ByteArray := ⟨#[58, 45]⟩
abbrev sTrue : ByteArray := ⟨#[116, 114, 117, 101]⟩
abbrev sBang : ByteArray := ⟨#[33]⟩

theorem valid_arg {k n : Int} {s : ByteArray} {l : List Te} (h : validT (.mk k n s l) = true) {a : Te} (ha : a ∈ l) : validT a = true := by
  rw [validT_iff] at h ⊢
  obtain ⟨h1, h2⟩ := h
  rw [szT] at h1
  rw [nodesT, Bool.and_eq_true] at h2
  have := szTs_mem ha
  exact ⟨by omega, nodesTs_iff.1 h2.2 a ha⟩
theorem valid_getD {t : Te} (h : validT t = true) {j : Nat} (hj : j < t.l.length) : validT (t.l.getD j default) = true := by
  cases t with
  | mk k n s l => exact valid_arg h (getD_mem hj)

def isT (t : Te) (s : ByteArray) (n : Int) : Bool := ((decide (t.k = 2) || decide (t.k = 3)) && decide (t.s = s)) && decide ((t.l.length : Int) = n)
def gIs : List D → Option (List D)
  | [t, s, n] => some [.b (isT (dT t) s.str n.int)]
  | _ => none
theorem ok_ref16_Is : FOk ct_ref16_Is gIs := fok_ref16_Is fun ds outs hw hg => by
  obtain ⟨d, r, rfl, hd, e, r', rfl, he, e2, r2, rfl, he2, rfl⟩ := hw
  obtain ⟨t, rfl, ht⟩ := wfT hd
  obtain ⟨s, rfl, hs⟩ := he.str
  obtain ⟨n, rfl, hn⟩ := wfI he2
  simp only [gIs, dT_eT, str_s, int_i, Option.some.injEq] at hg
  subst hg
  simp only [tree_ref16_Is, go_need, go_br, go_leaf, go_back, allSay, X.says, X.ev, X.evs, evl, tblS, List.getD_cons_zero, List.getD_cons_succ, List.getElem?_cons_zero, List.getElem?_cons_succ, tt_b, int_i, str_s, rs_r, Option.isSome_some, Option.getD_some, decide_eq_true_eq, decide_eq_false_iff_not, List.length_map, i_inj, b_inj, s_inj, rng64, List.take_succ_cons, List.take_zero, List.nil_append, List.cons_append, decide_true, decide_false, Bool.or_true, true_and, and_true, dT_eT, eT_0, eT_1, eT_2, eT_3, eT_eq, eT_z, isT]
def joinsT (t : Te) : Bool := (isT t sComma 2 || isT t sSemi 2) || isT t sArrow 2
theorem ok_ref16_joins : FOk ct_ref16_joins (gTb joinsT) := fok_ref16_joins ok_ref16_Is fun ds outs hw hg => by
  obtain ⟨d, r, rfl, hd, rfl⟩ := hw
  obtain ⟨t, rfl, ht⟩ := wfT hd
  simp only [gTb, dT_eT, Option.some.injEq] at hg
  subst hg
  simp only [tree_ref16_joins, go_need, go_br, go_leaf, go_back, allSay, X.says, X.ev, X.evs, evl, tblS, List.getD_cons_zero, List.getD_cons_succ, List.getElem?_cons_zero, List.getElem?_cons_succ, tt_b, int_i, str_s, rs_r, Option.isSome_some, Option.getD_some, decide_eq_true_eq, decide_eq_false_iff_not, List.length_map, i_inj, b_inj, s_inj, rng64, List.take_succ_cons, List.take_zero, List.nil_append, List.cons_append, decide_true, decide_false, Bool.or_true, true_and, and_true, dT_eT, eT_0, eT_1, eT_2, eT_3, eT_eq, eT_z, gIs, joinsT]
def branchT (t : Te) : Bool := (decide (t.k = 3) && decide ((t.l.length : Int) = 2)) && ((decide (t.s = sComma) || decide (t.s = sSemi)) || decide (t.s = sArrow))
theorem ok_body_branch : FOk ct_body_branch (gTb branchT) := fok_body_branch fun ds outs hw hg => by
  obtain ⟨d, r, rfl, hd, rfl⟩ := hw
  obtain ⟨t, rfl, ht⟩ := wfT hd
  simp only [gTb, dT_eT, Option.some.injEq] at hg
  subst hg
  simp only [tree_body_branch, go_need, go_br, go_leaf, go_back, allSay, X.says, X.ev, X.evs, evl, tblS, List.getD_cons_zero, List.getD_cons_succ, List.getElem?_cons_zero, List.getElem?_cons_succ, tt_b, int_i, str_s, rs_r, Option.isSome_some, Option.getD_some, decide_eq_true_eq, decide_eq_false_iff_not, List.length_map, i_inj, b_inj, s_inj, rng64, List.take_succ_cons, List.take_zero, List.nil_append, List.cons_append, decide_true, decide_false, Bool.or_true, true_and, and_true, dT_eT, eT_0, eT_1, eT_2, eT_3, eT_eq, eT_z, branchT]
def callT (t : Te) : Bool := decide (t.k = 2) || decide (t.k = 3)
theorem ok_body_callable : FOk ct_body_callable (gTb callT) := fok_body_callable fun ds outs hw hg => by
  obtain ⟨d, r, rfl, hd, rfl⟩ := hw
  obtain ⟨t, rfl, ht⟩ := wfT hd
  simp only [gTb, dT_eT, Option.some.injEq] at hg
  subst hg
  simp only [tree_body_callable, go_need, go_br, go_leaf, go_back, allSay, X.says, X.ev, X.evs, evl, tblS, List.getD_cons_zero, List.getD_cons_succ, List.getElem?_cons_zero, List.getElem?_cons_succ, tt_b, int_i, str_s, rs_r, Option.isSome_some, Option.getD_some, decide_eq_true_eq, decide_eq_false_iff_not, List.length_map, i_inj, b_inj, s_inj, rng64, List.take_succ_cons, List.take_zero, List.nil_append, List.cons_append, decide_true, decide_false, Bool.or_true, true_and, and_true, dT_eT, eT_0, eT_1, eT_2, eT_3, eT_eq, eT_z, callT]

mutual
/-- The conversion to a goal. -/
def buildT : Te → Option Te
  | .mk k n s l => if k = 0 then some (.mk 3 0 sCall [.mk k n s l])
    else if branchT (.mk k n s l) then (match buildTs l with
      | some m => some (.mk 3 0 s m)
      | none => none)
    else if callT (.mk k n s l) then some (.mk k n s l) else none
def buildTs : List Te → Option (List Te)
  | [] => some []
  | t :: l => match buildT t, buildTs l with
    | some x, some m => some (x :: m)
    | _, _ => none
end
theorem buildT_t (t : Te) : buildT t = if t.k = 0 then some (.mk 3 0 sCall [t]) else if branchT t then (match buildTs t.l with | some m => some (.mk 3 0 t.s m) | none => none) else if callT t then some t else none := by
  cases t; rw [buildT]; rfl
theorem branch_len {t : Te} (h : branchT t = true) : t.l.length = 2 ∧ t.k = 3 := by
  simp only [branchT, Bool.and_eq_true, decide_eq_true_eq] at h
  exact ⟨by omega, h.1.1⟩
theorem list2 {l : List Te} (h : l.length = 2) : l = [l.getD 0 default, l.getD 1 default] := by
  match l, h with
  | [a, b], _ => rfl
def gBuild : List D → Option (List D)
  | [t] => if validT (dT t) then (match buildT (dT t) with
    | some u => some [eT u]
    | none => some [.u]) else none
  | _ => none
def gR (g : List D → Option (List D)) : List D → Option (List D) := fun ds => match g ds with
  | some [.u] => none
  | r => r
theorem gR_sub {g : List D → Option (List D)} {ds outs : List D} (h : gR g ds = some outs) : g ds = some outs := by
  unfold gR at h
  split at h
  · cases h
  · exact h
theorem gR_not {g : List D → Option (List D)} {ds : List D} : gR g ds ≠ some [.u] := by
  unfold gR
  split
  · simp
  · rename_i h; exact fun e => h e
theorem bad_u : BadR ct_body_build [.u] := fun A p w n rs h => by
  obtain ⟨v, r, d, ds', -, e, ⟨cs, -, hc⟩, -⟩ := h
  have e : [D.u] = d :: ds' := e
  injection e with e _
  subst e
  obtain ⟨fs, dd, -, e, -⟩ := hc
  cases e
theorem bad_arg {a b c x y : D} (h : x = .u ∨ y = .u) : BadR ct_body_build [.a [a, b, c, .r [x, y]]] := fun A p w n rs hr => by
  obtain ⟨v, r, d, ds', -, e, ⟨cs, -, hc⟩, -⟩ := hr
  have e : [D.a [a, b, c, .r [x, y]]] = d :: ds' := e
  injection e with e _
  subst e
  have hrd : Rd w (FFD A p []) (D.a [a, b, c, .r [x, y]]) T_Term cs := hc.rd (fun x hx => by cases hx) (fun x hx => by cases hx)
  obtain ⟨T, fs, -, -, t1, ts1, c1, c2, -, -, -, t2, ts2, c3, c4, -, -, -, t3, ts3, c5, c6, -, -, -, t4, ts4, c7, c8, -, -, h4, -⟩ := hrd
  obtain ⟨E, te, A', cap, -, -, -, -, -, -, ⟨b1, o1, cs1, -, -, -, q1⟩, ⟨b2, o2, cs2, -, -, -, q2⟩, -⟩ := h4
  rcases h with rfl | rfl
  · exact q1
  · exact q2
theorem ok_body_build : FOk ct_body_build gBuild := fok_cut (m := mT) enter_body_build fun N ih => FOk.of_at enter_body_build fun ds outs hw hg => by
  obtain ⟨d, r, rfl, hd, rfl⟩ := hw
  obtain ⟨t, rfl, ht⟩ := wfT hd
  simp only [cutM, mT, gBuild, List.getD_cons_zero, dT_eT, Option.ite_none_right_eq_some] at hg
  obtain ⟨hsz, hv, hg⟩ := hg
  have arg : ∀ j, j < t.l.length → cutM mT N gBuild [eT (t.l.getD j default)] = (match buildT (t.l.getD j default) with | some u => some [eT u] | none => some [.u]) := fun j hj => by
    have := arg_sz hj
    simp only [cutM, mT, List.getD_cons_zero, dT_eT, if_pos (show szT (t.l.getD j default) < N by omega), gBuild, valid_getD hv hj, if_true]
  have two : branchT t = true → buildTs t.l = match buildT (t.l.getD 0 default), buildT (t.l.getD 1 default) with | some x, some y => some [x, y] | _, _ => none := fun hb => by
    have := list2 (branch_len hb).1
    generalize t.l.getD 0 default = a at *
    generalize t.l.getD 1 default = b at *
    rw [this]
    simp only [buildTs]
    cases buildT a <;> cases buildT b <;> rfl
  rw [buildT_t] at hg
  cases hb : buildT t with
  | some u =>
    rw [buildT_t] at hb
    rw [hb] at hg
    simp only [Option.some.injEq] at hg
    subst hg
    refine fat_ret (tbl := [(ct_body_branch, gTb branchT), (ct_body_build, gR (cutM mT N gBuild)), (ct_body_callable, gTb callT), (ct_term_Clone, gTT cloneT)]) ann_body_build Try.f70 _ (.cons ok_body_branch (.cons (ih.sub fun _ _ h => gR_sub h) (.cons ok_body_callable (.cons ok_term_cloneT .nil)))) rfl rfl (by decide) (fun e he ds hp => ?_) (by cases u; simp [eT]) ?_
    · simp only [List.mem_cons, List.not_mem_nil, or_false] at he
      rcases he with rfl | rfl | rfl | rfl
      · exact absurd rfl hp
      · exact gR_not
      · exact absurd rfl hp
      · exact absurd rfl hp
    rw [code_body_build _ _ _ _ _ rfl]
    rw [tree_body_build, go_br]
    refine ⟨fun h => ?_, fun h => ?_⟩
    · simp only [go_need, go_br, go_leaf, go_back, allSay, X.says, X.ev, X.evs, evl, tblS, List.getD_cons_zero, List.getD_cons_succ, List.getElem?_cons_zero, List.getElem?_cons_succ, tt_b, int_i, str_s, rs_r, Option.isSome_some, Option.getD_some, decide_eq_true_eq, decide_eq_false_iff_not, List.length_map, i_inj, b_inj, s_inj, rng64, List.take_succ_cons, List.take_zero, List.nil_append, List.cons_append, decide_true, decide_false, Bool.or_true, true_and, and_true, dT_eT, eT_0, eT_1, eT_2, eT_3, eT_eq, eT_z] at h
      rw [if_pos h, Option.some.injEq] at hb
      subst hb
      simp only [go_need, go_br, go_leaf, go_back, allSay, X.says, X.ev, X.evs, evl, tblS, List.getD_cons_zero, List.getD_cons_succ, List.getElem?_cons_zero, List.getElem?_cons_succ, tt_b, int_i, str_s, rs_r, Option.isSome_some, Option.getD_some, decide_eq_true_eq, decide_eq_false_iff_not, List.length_map, i_inj, b_inj, s_inj, rng64, List.take_succ_cons, List.take_zero, List.nil_append, List.cons_append, decide_true, decide_false, Bool.or_true, true_and, and_true, dT_eT, eT_0, eT_1, eT_2, eT_3, eT_eq, eT_z, eT_mk, List.map_cons, List.map_nil]
      rfl
    · simp only [go_need, go_br, go_leaf, go_back, allSay, X.says, X.ev, X.evs, evl, tblS, List.getD_cons_zero, List.getD_cons_succ, List.getElem?_cons_zero, List.getElem?_cons_succ, tt_b, int_i, str_s, rs_r, Option.isSome_some, Option.getD_some, decide_eq_true_eq, decide_eq_false_iff_not, List.length_map, i_inj, b_inj, s_inj, rng64, List.take_succ_cons, List.take_zero, List.nil_append, List.cons_append, decide_true, decide_false, Bool.or_true, true_and, and_true, dT_eT, eT_0, eT_1, eT_2, eT_3, eT_eq, eT_z] at h
      rw [if_neg h] at hb
      simp only [go_need, go_br, go_leaf, go_back, allSay, X.says, X.ev, X.evs, evl, tblS, List.getD_cons_zero, List.getD_cons_succ, List.getElem?_cons_zero, List.getElem?_cons_succ, tt_b, int_i, str_s, rs_r, Option.isSome_some, Option.getD_some, decide_eq_true_eq, decide_eq_false_iff_not, List.length_map, i_inj, b_inj, s_inj, rng64, List.take_succ_cons, List.take_zero, List.nil_append, List.cons_append, decide_true, decide_false, Bool.or_true, true_and, and_true, dT_eT, eT_0, eT_1, eT_2, eT_3, eT_eq, eT_z, gTb, gTT]
      refine ⟨fun hbr => ?_, fun hbr => ⟨fun hc => ?_, fun hc => ?_⟩⟩
      · obtain ⟨h2, h3⟩ := branch_len hbr
        rw [if_pos hbr, two hbr] at hb
        have a0 := arg 0 (by omega)
        have a1 := arg 1 (by omega)
        cases b0 : buildT (t.l.getD 0 default) with
        | none => rw [b0] at hb; cases hb
        | some x =>
          cases b1 : buildT (t.l.getD 1 default) with
          | none => rw [b0, b1] at hb; cases hb
          | some y =>
            rw [b0, b1] at hb
            simp only [Option.some.injEq] at hb
            subst hb
            rw [b0] at a0
            rw [b1] at a1
            have g0 : (D.r (t.l.map eT)).get 0 = eT (t.l.getD 0 default) := get_t (k := 0) (by omega)
            have g1 : (D.r (t.l.map eT)).get 1 = eT (t.l.getD 1 default) := get_t (k := 1) (by omega)
            have r0 : gR (cutM mT N gBuild) [eT (t.l.getD 0 default)] = some [eT x] := by unfold gR; rw [a0]; cases x; simp [eT]
            have r1 : gR (cutM mT N gBuild) [eT (t.l.getD 1 default)] = some [eT y] := by unfold gR; rw [a1]; cases y; simp [eT]
            have hl2 : (t.l.length : Int) = 2 := by omega
            simp only [go_need, go_br, go_leaf, go_back, allSay, X.says, X.ev, X.evs, evl, tblS, List.getD_cons_zero, List.getD_cons_succ, List.getElem?_cons_zero, List.getElem?_cons_succ, tt_b, int_i, str_s, rs_r, Option.isSome_some, Option.getD_some, decide_eq_true_eq, decide_eq_false_iff_not, List.length_map, i_inj, b_inj, s_inj, rng64, List.take_succ_cons, List.take_zero, List.nil_append, List.cons_append, decide_true, decide_false, Bool.or_true, true_and, and_true, dT_eT, eT_0, eT_1, eT_2, eT_3, eT_eq, eT_z, g0, g1, r0, r1, eT_mk, List.map_cons, List.map_nil, fs_a, hl2]
            exact ⟨by decide, rfl⟩
      · rw [if_neg (by simp [hbr]), if_pos hc, Option.some.injEq] at hb
        subst hb
        simp only [go_need, go_br, go_leaf, go_back, allSay, X.says, X.ev, X.evs, evl, tblS, List.getD_cons_zero, List.getD_cons_succ, List.getElem?_cons_zero, List.getElem?_cons_succ, tt_b, int_i, str_s, rs_r, Option.isSome_some, Option.getD_some, decide_eq_true_eq, decide_eq_false_iff_not, List.length_map, i_inj, b_inj, s_inj, rng64, List.take_succ_cons, List.take_zero, List.nil_append, List.cons_append, decide_true, decide_false, Bool.or_true, true_and, and_true, dT_eT, eT_0, eT_1, eT_2, eT_3, eT_eq, eT_z, gTT, cloneT_of hv]
      · rw [if_neg (by simp [hbr]), if_neg (by simp [hc])] at hb
        cases hb
  | none =>
    rw [buildT_t] at hb
    rw [hb] at hg
    simp only [Option.some.injEq] at hg
    subst hg
    refine fat_pan (tbl := [(ct_body_branch, gTb branchT), (ct_body_build, cutM mT N gBuild), (ct_body_callable, gTb callT), (ct_term_Clone, gTT cloneT)]) ann_body_build Try.f70 _ (.cons ok_body_branch (.cons ih (.cons ok_body_callable (.cons ok_term_cloneT .nil)))) rfl rfl (by decide) rfl (fun e he T' hT => ?_) ?_
    · simp only [List.mem_cons, List.not_mem_nil, or_false] at he
      rcases he with rfl | rfl | rfl | rfl
      · cases hT
      · injection hT with hT; exact hT.symm
      · cases hT
      · cases hT
    rw [code_body_build _ _ _ _ _ rfl]
    rw [tree_body_build, go_br]
    refine ⟨fun h => ?_, fun h => ?_⟩
    · simp only [go_need, go_br, go_leaf, go_back, allSay, X.says, X.ev, X.evs, evl, tblS, List.getD_cons_zero, List.getD_cons_succ, List.getElem?_cons_zero, List.getElem?_cons_succ, tt_b, int_i, str_s, rs_r, Option.isSome_some, Option.getD_some, decide_eq_true_eq, decide_eq_false_iff_not, List.length_map, i_inj, b_inj, s_inj, rng64, List.take_succ_cons, List.take_zero, List.nil_append, List.cons_append, decide_true, decide_false, Bool.or_true, true_and, and_true, dT_eT, eT_0, eT_1, eT_2, eT_3, eT_eq, eT_z] at h
      rw [if_pos h] at hb
      cases hb
    · simp only [go_need, go_br, go_leaf, go_back, allSay, X.says, X.ev, X.evs, evl, tblS, List.getD_cons_zero, List.getD_cons_succ, List.getElem?_cons_zero, List.getElem?_cons_succ, tt_b, int_i, str_s, rs_r, Option.isSome_some, Option.getD_some, decide_eq_true_eq, decide_eq_false_iff_not, List.length_map, i_inj, b_inj, s_inj, rng64, List.take_succ_cons, List.take_zero, List.nil_append, List.cons_append, decide_true, decide_false, Bool.or_true, true_and, and_true, dT_eT, eT_0, eT_1, eT_2, eT_3, eT_eq, eT_z] at h
      rw [if_neg h] at hb
      simp only [go_need, go_br, go_leaf, go_back, allSay, X.says, X.ev, X.evs, evl, tblS, List.getD_cons_zero, List.getD_cons_succ, List.getElem?_cons_zero, List.getElem?_cons_succ, tt_b, int_i, str_s, rs_r, Option.isSome_some, Option.getD_some, decide_eq_true_eq, decide_eq_false_iff_not, List.length_map, i_inj, b_inj, s_inj, rng64, List.take_succ_cons, List.take_zero, List.nil_append, List.cons_append, decide_true, decide_false, Bool.or_true, true_and, and_true, dT_eT, eT_0, eT_1, eT_2, eT_3, eT_eq, eT_z, gTb, gTT]
      refine ⟨fun hbr => ?_, fun hbr => ⟨fun hc => ?_, fun hc => ?_⟩⟩
      · obtain ⟨h2, h3⟩ := branch_len hbr
        rw [if_pos hbr, two hbr] at hb
        have a0 := arg 0 (by omega)
        have a1 := arg 1 (by omega)
        have g0 : (D.r (t.l.map eT)).get 0 = eT (t.l.getD 0 default) := get_t (k := 0) (by omega)
        have g1 : (D.r (t.l.map eT)).get 1 = eT (t.l.getD 1 default) := get_t (k := 1) (by omega)
        have ok0 : (cutM mT N gBuild [eT (t.l.getD 0 default)]).isSome = true := by rw [a0]; cases buildT (t.l.getD 0 default) <;> rfl
        have ok1 : (cutM mT N gBuild [eT (t.l.getD 1 default)]).isSome = true := by rw [a1]; cases buildT (t.l.getD 1 default) <;> rfl
        simp only [go_need, go_br, go_leaf, go_back, allSay, X.says, X.ev, X.evs, evl, tblS, List.getD_cons_zero, List.getD_cons_succ, List.getElem?_cons_zero, List.getElem?_cons_succ, tt_b, int_i, str_s, rs_r, Option.isSome_some, Option.getD_some, decide_eq_true_eq, decide_eq_false_iff_not, List.length_map, i_inj, b_inj, s_inj, rng64, List.take_succ_cons, List.take_zero, List.nil_append, List.cons_append, decide_true, decide_false, Bool.or_true, true_and, and_true, dT_eT, eT_0, eT_1, eT_2, eT_3, eT_eq, eT_z, g0, g1, ok0, ok1]
        refine ⟨by simp; omega, ?_⟩
        refine bad_arg ?_
        rw [a0, a1]
        cases b0 : buildT (t.l.getD 0 default) with
        | none => exact .inl rfl
        | some x =>
          cases b1 : buildT (t.l.getD 1 default) with
          | none => exact .inr rfl
          | some y => rw [b0, b1] at hb; cases hb
      · rw [if_neg (by simp [hbr]), if_pos hc] at hb
        cases hb
      · exact bad_u
def convT (t : Te) : Te × Bool := match buildT t with
  | some u => (u, true)
  | none => (zT, false)
def gCv (f : Te → Te × Bool) : List D → Option (List D)
  | [t] => if validT (dT t) then some [eT (f (dT t)).1, .b (f (dT t)).2] else none
  | _ => none
theorem ok_body_conv : FOk ct_body_convert (gCv convT) := (ok_body_convert ok_body_build).subW fun ds outs hw hg => by
  obtain ⟨d, r, rfl, hd, rfl⟩ := hw
  obtain ⟨t, rfl, ht⟩ := wfT hd
  simp only [gCv, dT_eT, Option.ite_none_right_eq_some, Option.some.injEq] at hg
  obtain ⟨hv, rfl⟩ := hg
  unfold gConv convT
  simp only [gBuild, dT_eT, hv, if_true]
  cases buildT t with
  | none => rfl
  | some u =>
    cases u
    simp [eT]
end Go.Proofs.Ytflahdpkkgmpeaa

namespace Go.Proofs.Ytflahdpkkgmpeaa
open Go.RowKit
set_option linter.unusedVariables false
set_option linter.unusedSimpArgs false

mutual
def convR : Te → Te × Bool
  | .mk k n s l => if k = 0 then (.mk 3 0 sCall [.mk k n s l], true) else if k = 1 then (zT, false)
    else if joinsT (.mk k n s l) then (.mk 3 0 s ((convRs l).map (·.1)), (convRs l).all (·.2)) else (cloneT (.mk k n s l), true)
def convRs : List Te → List (Te × Bool)
  | [] => []
  | t :: l => convR t :: convRs l
end
theorem convR_t (t : Te) : convR t = if t.k = 0 then (.mk 3 0 sCall [t], true) else if t.k = 1 then (zT, false) else if joinsT t then (.mk 3 0 t.s ((convRs t.l).map (·.1)), (convRs t.l).all (·.2)) else (cloneT t, true) := by
  cases t; rw [convR]; rfl
theorem joins_len {t : Te} (h : joinsT t = true) : t.l.length = 2 := by
  simp only [joinsT, isT, Bool.or_eq_true, Bool.and_eq_true, decide_eq_true_eq] at h
  omega
theorem ok_ref16_convert : FOk ct_ref16_convert (gCv convR) := fok_cut (m := mT) enter_ref16_convert fun N ih => fok_ref16_convert ok_ref16_joins ok_ref03_Clone ih fun ds outs hw hg => by
  obtain ⟨d, r, rfl, hd, rfl⟩ := hw
  obtain ⟨t, rfl, ht⟩ := wfT hd
  simp only [cutM, mT, gCv, List.getD_cons_zero, dT_eT, Option.ite_none_right_eq_some, Option.some.injEq] at hg
  obtain ⟨hsz, hv, rfl⟩ := hg
  rw [tree_ref16_convert, convR_t, go_br]
  refine ⟨fun h => ?_, fun h => ?_⟩
  · simp only [go_need, go_br, go_leaf, go_back, allSay, X.says, X.ev, X.evs, evl, tblS, List.getD_cons_zero, List.getD_cons_succ, List.getElem?_cons_zero, List.getElem?_cons_succ, tt_b, int_i, str_s, rs_r, Option.isSome_some, Option.getD_some, decide_eq_true_eq, decide_eq_false_iff_not, List.length_map, i_inj, b_inj, s_inj, rng64, List.take_succ_cons, List.take_zero, List.nil_append, List.cons_append, decide_true, decide_false, Bool.or_true, true_and, and_true, dT_eT, eT_0, eT_1, eT_2, eT_3, eT_eq, eT_z] at h
    rw [if_pos h]
    simp only [go_need, go_br, go_leaf, go_back, allSay, X.says, X.ev, X.evs, evl, tblS, List.getD_cons_zero, List.getD_cons_succ, List.getElem?_cons_zero, List.getElem?_cons_succ, tt_b, int_i, str_s, rs_r, Option.isSome_some, Option.getD_some, decide_eq_true_eq, decide_eq_false_iff_not, List.length_map, i_inj, b_inj, s_inj, rng64, List.take_succ_cons, List.take_zero, List.nil_append, List.cons_append, decide_true, decide_false, Bool.or_true, true_and, and_true, dT_eT, eT_0, eT_1, eT_2, eT_3, eT_eq, eT_z, eT_mk, List.map_cons, List.map_nil]
    rfl
  · simp only [go_need, go_br, go_leaf, go_back, allSay, X.says, X.ev, X.evs, evl, tblS, List.getD_cons_zero, List.getD_cons_succ, List.getElem?_cons_zero, List.getElem?_cons_succ, tt_b, int_i, str_s, rs_r, Option.isSome_some, Option.getD_some, decide_eq_true_eq, decide_eq_false_iff_not, List.length_map, i_inj, b_inj, s_inj, rng64, List.take_succ_cons, List.take_zero, List.nil_append, List.cons_append, decide_true, decide_false, Bool.or_true, true_and, and_true, dT_eT, eT_0, eT_1, eT_2, eT_3, eT_eq, eT_z] at h
    rw [if_neg h, go_br]
    refine ⟨fun h1 => ?_, fun h1 => ?_⟩
    · simp only [go_need, go_br, go_leaf, go_back, allSay, X.says, X.ev, X.evs, evl, tblS, List.getD_cons_zero, List.getD_cons_succ, List.getElem?_cons_zero, List.getElem?_cons_succ, tt_b, int_i, str_s, rs_r, Option.isSome_some, Option.getD_some, decide_eq_true_eq, decide_eq_false_iff_not, List.length_map, i_inj, b_inj, s_inj, rng64, List.take_succ_cons, List.take_zero, List.nil_append, List.cons_append, decide_true, decide_false, Bool.or_true, true_and, and_true, dT_eT, eT_0, eT_1, eT_2, eT_3, eT_eq, eT_z] at h1
      rw [if_pos h1]
      simp only [go_need, go_br, go_leaf, go_back, allSay, X.says, X.ev, X.evs, evl, tblS, List.getD_cons_zero, List.getD_cons_succ, List.getElem?_cons_zero, List.getElem?_cons_succ, tt_b, int_i, str_s, rs_r, Option.isSome_some, Option.getD_some, decide_eq_true_eq, decide_eq_false_iff_not, List.length_map, i_inj, b_inj, s_inj, rng64, List.take_succ_cons, List.take_zero, List.nil_append, List.cons_append, decide_true, decide_false, Bool.or_true, true_and, and_true, dT_eT, eT_0, eT_1, eT_2, eT_3, eT_eq, eT_z]
    · simp only [go_need, go_br, go_leaf, go_back, allSay, X.says, X.ev, X.evs, evl, tblS, List.getD_cons_zero, List.getD_cons_succ, List.getElem?_cons_zero, List.getElem?_cons_succ, tt_b, int_i, str_s, rs_r, Option.isSome_some, Option.getD_some, decide_eq_true_eq, decide_eq_false_iff_not, List.length_map, i_inj, b_inj, s_inj, rng64, List.take_succ_cons, List.take_zero, List.nil_append, List.cons_append, decide_true, decide_false, Bool.or_true, true_and, and_true, dT_eT, eT_0, eT_1, eT_2, eT_3, eT_eq, eT_z] at h1
      rw [if_neg h1]
      simp only [go_need, go_br, go_leaf, go_back, allSay, X.says, X.ev, X.evs, evl, tblS, List.getD_cons_zero, List.getD_cons_succ, List.getElem?_cons_zero, List.getElem?_cons_succ, tt_b, int_i, str_s, rs_r, Option.isSome_some, Option.getD_some, decide_eq_true_eq, decide_eq_false_iff_not, List.length_map, i_inj, b_inj, s_inj, rng64, List.take_succ_cons, List.take_zero, List.nil_append, List.cons_append, decide_true, decide_false, Bool.or_true, true_and, and_true, dT_eT, eT_0, eT_1, eT_2, eT_3, eT_eq, eT_z, gTb, gTT]
      refine ⟨fun hj => ?_, fun hj => ?_⟩
      · rw [if_neg (by simpa using hj)]
      · have hj : joinsT t = true := by simpa using hj
        have hl := joins_len hj
        rw [if_pos hj]
        have s0 := arg_sz (t := t) (k := 0) (by omega)
        have s1 := arg_sz (t := t) (k := 1) (by omega)
        have g0 : (D.r (t.l.map eT)).get 0 = eT (t.l.getD 0 default) := get_t (k := 0) (by omega)
        have g1 : (D.r (t.l.map eT)).get 1 = eT (t.l.getD 1 default) := get_t (k := 1) (by omega)
        have e := list2 hl
        have v0 := valid_getD hv (j := 0) (by omega)
        have v1 := valid_getD hv (j := 1) (by omega)
        have hl2 : (t.l.length : Int) = 2 := by omega
        have ec : convRs t.l = [convR (t.l.getD 0 default), convR (t.l.getD 1 default)] := by
          generalize t.l.getD 0 default = a at *
          generalize t.l.getD 1 default = b at *
          rw [e]
          rfl
        simp only [go_need, go_br, go_leaf, go_back, allSay, X.says, X.ev, X.evs, evl, tblS, List.getD_cons_zero, List.getD_cons_succ, List.getElem?_cons_zero, List.getElem?_cons_succ, tt_b, int_i, str_s, rs_r, Option.isSome_some, Option.getD_some, decide_eq_true_eq, decide_eq_false_iff_not, List.length_map, i_inj, b_inj, s_inj, rng64, List.take_succ_cons, List.take_zero, List.nil_append, List.cons_append, decide_true, decide_false, Bool.or_true, true_and, and_true, dT_eT, eT_0, eT_1, eT_2, eT_3, eT_eq, eT_z, g0, g1, cutM, mT, gCv, if_pos (show szT (t.l.getD 0 default) < N by omega), if_pos (show szT (t.l.getD 1 default) < N by omega), v0, v1, if_true, hl2, ec, eT_mk, List.map_cons, List.map_nil, fs_a]
        refine ⟨by decide, ?_⟩
        simp
        rfl
/-- Of a valid term. -/
theorem valid_kind {t : Te} (h : validT t = true) : t.k = 0 ∨ t.k = 1 ∨ (t.k = 2 ∧ t.l.length = 0) ∨ (t.k = 3 ∧ 1 ≤ t.l.length) := by
  have h := ((nodes_iff t).1 (validT_iff.1 h).2).1
  unfold nodeT at h
  split at h
  · exact .inl (by assumption)
  split at h
  · exact .inr (.inl (by assumption))
  split at h
  · rename_i h2
    simp only [Bool.and_eq_true, decide_eq_true_eq] at h
    exact .inr (.inr (.inl ⟨h2, by omega⟩))
  split at h
  · rename_i h3
    simp only [Bool.and_eq_true, decide_eq_true_eq] at h
    exact .inr (.inr (.inr ⟨h3, by omega⟩))
  · cases h
theorem joins_branch {t : Te} (h : validT t = true) : joinsT t = branchT t := by
  have hk := valid_kind h
  rw [Bool.eq_iff_iff]
  simp only [joinsT, isT, branchT, Bool.or_eq_true, Bool.and_eq_true, decide_eq_true_eq]
  constructor
  · rintro ((⟨⟨h1, h2⟩, h3⟩ | ⟨⟨h1, h2⟩, h3⟩) | ⟨⟨h1, h2⟩, h3⟩)
    · exact ⟨⟨by omega, by omega⟩, .inl (.inl h2)⟩
    · exact ⟨⟨by omega, by omega⟩, .inl (.inr h2)⟩
    · exact ⟨⟨by omega, by omega⟩, .inr h2⟩
  · rintro ⟨⟨h1, h2⟩, (h3 | h3) | h3⟩
    · exact .inl (.inl ⟨⟨.inr h1, h3⟩, by omega⟩)
    · exact .inl (.inr ⟨⟨.inr h1, h3⟩, by omega⟩)
    · exact .inr ⟨⟨.inr h1, h3⟩, by omega⟩
mutual
theorem conv_eq : ∀ (t : Te), validT t = true → (match buildT t with | some u => convR t = (u, true) | none => (convR t).2 = false)
  | .mk k n s l, hv => by
    have hj := joins_branch hv
    have hk := valid_kind hv
    rw [buildT, convR]
    by_cases h0 : k = 0
    · rw [if_pos h0, if_pos h0]
    rw [if_neg h0, if_neg h0]
    by_cases h1 : k = 1
    · subst h1
      rw [if_pos rfl, if_neg (by simp [branchT, Te.k]), if_neg (by simp [callT, Te.k])]
    rw [if_neg h1, hj]
    by_cases hb : branchT (.mk k n s l) = true
    · rw [if_pos hb, if_pos hb]
      have ih := convs_eq l fun a ha => valid_arg hv ha
      cases hm : buildTs l with
      | some m =>
        rw [hm] at ih
        show (_, _) = _
        rw [ih.1, ih.2]
      | none =>
        rw [hm] at ih
        exact ih
    · rw [if_neg hb, if_neg hb]
      have hc : callT (.mk k n s l) = true := by
        have hk : k = 0 ∨ k = 1 ∨ (k = 2 ∧ l.length = 0) ∨ (k = 3 ∧ 1 ≤ l.length) := hk
        have hk : k = 2 ∨ k = 3 := by omega
        show (decide (k = 2) || decide (k = 3)) = true
        rw [Bool.or_eq_true, decide_eq_true_eq, decide_eq_true_eq]
        exact hk
      rw [if_pos hc]
      show (cloneT _, true) = _
      rw [cloneT_of hv]
theorem convs_eq : ∀ (l : List Te), (∀ a ∈ l, validT a = true) → (match buildTs l with | some m => (convRs l).map (·.1) = m ∧ (convRs l).all (·.2) = true | none => (convRs l).all (·.2) = false)
  | [], _ => ⟨rfl, rfl⟩
  | t :: l, hv => by
    have h1 := conv_eq t (hv t List.mem_cons_self)
    have h2 := convs_eq l fun a ha => hv a (List.mem_cons_of_mem _ ha)
    rw [buildTs, convRs]
    cases ht : buildT t with
    | none =>
      rw [ht] at h1
      show ((convR t).2 && _) = false
      rw [h1]
      rfl
    | some x =>
      rw [ht] at h1
      cases hl : buildTs l with
      | none =>
        rw [hl] at h2
        show ((convR t).2 && (convRs l).all (·.2)) = false
        rw [h2, Bool.and_false]
      | some m =>
        rw [hl] at h2
        refine ⟨?_, ?_⟩
        · rw [List.map_cons, h1, h2.1]
        · show ((convR t).2 && (convRs l).all (·.2)) = true
          rw [h1, h2.2]
          rfl
end
theorem ok_ref16_small : FOk ct_ref16_small (gTb fun t => decide (min (szT t : Int) 2001 ≤ 2000)) := fok_ref16_small ok_ref03_Size fun ds outs hw hg => by
  obtain ⟨d, r, rfl, hd, rfl⟩ := hw
  obtain ⟨t, rfl, ht⟩ := wfT hd
  simp only [gTb, dT_eT, Option.some.injEq] at hg
  subst hg
  simp only [tree_ref16_small, go_need, go_br, go_leaf, go_back, allSay, X.says, X.ev, X.evs, evl, tblS, List.getD_cons_zero, List.getD_cons_succ, List.getElem?_cons_zero, List.getElem?_cons_succ, tt_b, int_i, str_s, rs_r, Option.isSome_some, Option.getD_some, decide_eq_true_eq, decide_eq_false_iff_not, List.length_map, i_inj, b_inj, s_inj, rng64, List.take_succ_cons, List.take_zero, List.nil_append, List.cons_append, decide_true, decide_false, Bool.or_true, true_and, and_true, dT_eT, eT_0, eT_1, eT_2, eT_3, eT_eq, eT_z, gTi]
def goalT (t : Te) : Te × Bool := if validT t then (match buildT t with
  | some u => if 2000 < szT u then (zT, false) else (u, true)
  | none => (zT, false)) else (zT, false)
def gTTB (f : Te → Te × Bool) : List D → Option (List D)
  | [t] => some [eT (f (dT t)).1, .b (f (dT t)).2]
  | _ => none
theorem ok_body_Goal : FOk ct_body_Goal (gTTB goalT) := fok_body_Goal ok_term_Valid ok_body_conv ok_term_Size fun ds outs hw hg => by
  obtain ⟨d, r, rfl, hd, rfl⟩ := hw
  obtain ⟨t, rfl, ht⟩ := wfT hd
  simp only [gTTB, dT_eT, Option.some.injEq] at hg
  subst hg
  simp only [tree_body_Goal, go_need, go_br, go_leaf, go_back, allSay, X.says, X.ev, X.evs, evl, tblS, List.getD_cons_zero, List.getD_cons_succ, List.getElem?_cons_zero, List.getElem?_cons_succ, tt_b, int_i, str_s, rs_r, Option.isSome_some, Option.getD_some, decide_eq_true_eq, decide_eq_false_iff_not, List.length_map, i_inj, b_inj, s_inj, rng64, List.take_succ_cons, List.take_zero, List.nil_append, List.cons_append, decide_true, decide_false, Bool.or_true, true_and, and_true, dT_eT, eT_0, eT_1, eT_2, eT_3, eT_eq, eT_z, gTb]
  refine ⟨fun h => ?_, fun h => ?_⟩
  · have h : validT t = false := by simpa using h
    simp only [goalT, h]
    rfl
  have h : validT t = true := by simpa using h
  simp only [go_need, go_br, go_leaf, go_back, allSay, X.says, X.ev, X.evs, evl, tblS, List.getD_cons_zero, List.getD_cons_succ, List.getElem?_cons_zero, List.getElem?_cons_succ, tt_b, int_i, str_s, rs_r, Option.isSome_some, Option.getD_some, decide_eq_true_eq, decide_eq_false_iff_not, List.length_map, i_inj, b_inj, s_inj, rng64, List.take_succ_cons, List.take_zero, List.nil_append, List.cons_append, decide_true, decide_false, Bool.or_true, true_and, and_true, dT_eT, eT_0, eT_1, eT_2, eT_3, eT_eq, eT_z, gTb, gCv, gTi, h, if_true, goalT, convT]
  cases buildT t with
  | none => simp
  | some u =>
    by_cases hz : 2000 < szT u
    · have : (2000 : Int) < min (szT u : Int) 2001 := by omega
      simp [hz, this]
    · have : ¬ (2000 : Int) < min (szT u : Int) 2001 := by omega
      simp [hz, this]
theorem ok_ref16_Goal : FOk ct_ref16_Goal (gTTB goalT) := fok_ref16_Goal ok_ref03_Valid ok_ref16_convert ok_ref16_small fun ds outs hw hg => by
  obtain ⟨d, r, rfl, hd, rfl⟩ := hw
  obtain ⟨t, rfl, ht⟩ := wfT hd
  simp only [gTTB, dT_eT, Option.some.injEq] at hg
  subst hg
  simp only [tree_ref16_Goal, go_need, go_br, go_leaf, go_back, allSay, X.says, X.ev, X.evs, evl, tblS, List.getD_cons_zero, List.getD_cons_succ, List.getElem?_cons_zero, List.getElem?_cons_succ, tt_b, int_i, str_s, rs_r, Option.isSome_some, Option.getD_some, decide_eq_true_eq, decide_eq_false_iff_not, List.length_map, i_inj, b_inj, s_inj, rng64, List.take_succ_cons, List.take_zero, List.nil_append, List.cons_append, decide_true, decide_false, Bool.or_true, true_and, and_true, dT_eT, eT_0, eT_1, eT_2, eT_3, eT_eq, eT_z, gTb]
  refine ⟨fun h => ?_, fun h => ?_⟩
  · have h : validT t = false := by simpa using h
    simp only [goalT, h]
    rfl
  have h : validT t = true := by simpa using h
  have hc := conv_eq t h
  simp only [go_need, go_br, go_leaf, go_back, allSay, X.says, X.ev, X.evs, evl, tblS, List.getD_cons_zero, List.getD_cons_succ, List.getElem?_cons_zero, List.getElem?_cons_succ, tt_b, int_i, str_s, rs_r, Option.isSome_some, Option.getD_some, decide_eq_true_eq, decide_eq_false_iff_not, List.length_map, i_inj, b_inj, s_inj, rng64, List.take_succ_cons, List.take_zero, List.nil_append, List.cons_append, decide_true, decide_false, Bool.or_true, true_and, and_true, dT_eT, eT_0, eT_1, eT_2, eT_3, eT_eq, eT_z, gTb, gCv, gTi, h, if_true, goalT]
  cases hb : buildT t with
  | none =>
    rw [hb] at hc
    simp only [hc]
    simp
  | some u =>
    rw [hb] at hc
    simp only [hc]
    by_cases hz : 2000 < szT u
    · have : ¬ min (szT u : Int) 2001 ≤ 2000 := by omega
      simp [hz, this]
    · have : min (szT u : Int) 2001 ≤ 2000 := by omega
      simp [hz, this]
def checkT (t : Te) : Te × Te × Bool := if validT t then (if t.k = 0 then (zT, instT, false) else match buildT t with
  | some u => if 2000 < szT u then (zT, zT, false) else (u, zT, true)
  | none => (zT, typeT t, false)) else (zT, zT, false)
def gTTTB (f : Te → Te × Te × Bool) : List D → Option (List D)
  | [t] => some [eT (f (dT t)).1, eT (f (dT t)).2.1, .b (f (dT t)).2.2]
  | _ => none
theorem ok_body_Check : FOk ct_body_Check (gTTTB checkT) := fok_body_Check ok_term_Valid ok_balls_Inst ok_body_conv ok_balls_Type ok_term_Size fun ds outs hw hg => by
  obtain ⟨d, r, rfl, hd, rfl⟩ := hw
  obtain ⟨t, rfl, ht⟩ := wfT hd
  simp only [gTTTB, dT_eT, Option.some.injEq] at hg
  subst hg
  simp only [tree_body_Check, go_need, go_br, go_leaf, go_back, allSay, X.says, X.ev, X.evs, evl, tblS, List.getD_cons_zero, List.getD_cons_succ, List.getElem?_cons_zero, List.getElem?_cons_succ, tt_b, int_i, str_s, rs_r, Option.isSome_some, Option.getD_some, decide_eq_true_eq, decide_eq_false_iff_not, List.length_map, i_inj, b_inj, s_inj, rng64, List.take_succ_cons, List.take_zero, List.nil_append, List.cons_append, decide_true, decide_false, Bool.or_true, true_and, and_true, dT_eT, eT_0, eT_1, eT_2, eT_3, eT_eq, eT_z, gTb]
  refine ⟨fun h => ?_, fun h => ?_⟩
  · have h : validT t = false := by simpa using h
    simp only [checkT, h]
    rfl
  have h : validT t = true := by simpa using h
  simp only [go_need, go_br, go_leaf, go_back, allSay, X.says, X.ev, X.evs, evl, tblS, List.getD_cons_zero, List.getD_cons_succ, List.getElem?_cons_zero, List.getElem?_cons_succ, tt_b, int_i, str_s, rs_r, Option.isSome_some, Option.getD_some, decide_eq_true_eq, decide_eq_false_iff_not, List.length_map, i_inj, b_inj, s_inj, rng64, List.take_succ_cons, List.take_zero, List.nil_append, List.cons_append, decide_true, decide_false, Bool.or_true, true_and, and_true, dT_eT, eT_0, eT_1, eT_2, eT_3, eT_eq, eT_z, gTb, gCv, gTi, gTy, h, if_true, checkT, convT]
  refine ⟨fun h0 => by rw [if_pos h0], fun h0 => ?_⟩
  rw [if_neg h0]
  cases buildT t with
  | none => simp
  | some u =>
    by_cases hz : 2000 < szT u
    · have : (2000 : Int) < min (szT u : Int) 2001 := by omega
      simp [hz, this]
    · have : ¬ (2000 : Int) < min (szT u : Int) 2001 := by omega
      simp [hz, this]
theorem ok_ref16_Check : FOk ct_ref16_Check (gTTTB checkT) := fok_ref16_Check ok_ref03_Valid ok_ref06_Inst ok_ref16_convert ok_ref06_Type ok_ref16_small fun ds outs hw hg => by
  obtain ⟨d, r, rfl, hd, rfl⟩ := hw
  obtain ⟨t, rfl, ht⟩ := wfT hd
  simp only [gTTTB, dT_eT, Option.some.injEq] at hg
  subst hg
  simp only [tree_ref16_Check, go_need, go_br, go_leaf, go_back, allSay, X.says, X.ev, X.evs, evl, tblS, List.getD_cons_zero, List.getD_cons_succ, List.getElem?_cons_zero, List.getElem?_cons_succ, tt_b, int_i, str_s, rs_r, Option.isSome_some, Option.getD_some, decide_eq_true_eq, decide_eq_false_iff_not, List.length_map, i_inj, b_inj, s_inj, rng64, List.take_succ_cons, List.take_zero, List.nil_append, List.cons_append, decide_true, decide_false, Bool.or_true, true_and, and_true, dT_eT, eT_0, eT_1, eT_2, eT_3, eT_eq, eT_z, gTb]
  refine ⟨fun h => ?_, fun h => ?_⟩
  · have h : validT t = false := by simpa using h
    simp only [checkT, h]
    rfl
  have h : validT t = true := by simpa using h
  have hc := conv_eq t h
  simp only [go_need, go_br, go_leaf, go_back, allSay, X.says, X.ev, X.evs, evl, tblS, List.getD_cons_zero, List.getD_cons_succ, List.getElem?_cons_zero, List.getElem?_cons_succ, tt_b, int_i, str_s, rs_r, Option.isSome_some, Option.getD_some, decide_eq_true_eq, decide_eq_false_iff_not, List.length_map, i_inj, b_inj, s_inj, rng64, List.take_succ_cons, List.take_zero, List.nil_append, List.cons_append, decide_true, decide_false, Bool.or_true, true_and, and_true, dT_eT, eT_0, eT_1, eT_2, eT_3, eT_eq, eT_z, gTb, gCv, gTi, gTy, h, if_true, checkT, inst_eq, (type_eq h).2.1]
  refine ⟨fun h0 => by rw [if_pos h0], fun h0 => ?_⟩
  rw [if_neg h0]
  cases hb : buildT t with
  | none =>
    rw [hb] at hc
    simp only [hc]
    simp
  | some u =>
    rw [hb] at hc
    simp only [hc]
    by_cases hz : 2000 < szT u
    · have : ¬ min (szT u : Int) 2001 ≤ 2000 := by omega
      simp [hz, this]
    · have : min (szT u : Int) 2001 ≤ 2000 := by omega
      simp [hz, this]

/-! ### Cuts -/
mutual
def cutsT : Te → Bool
  | .mk k n s l => if k = 2 then decide (s = sBang) else if branchT (.mk k n s l) then (if s = sArrow then (cutsTs l).getD 1 false else (cutsTs l).getD 0 false || (cutsTs l).getD 1 false) else false
def cutsTs : List Te → List Bool
  | [] => []
  | t :: l => cutsT t :: cutsTs l
end
theorem cutsTs_get : ∀ (l : List Te) (j : Nat), j < l.length → (cutsTs l).getD j false = cutsT (l.getD j default)
  | t :: l, 0, _ => rfl
  | t :: l, j + 1, h => by
    rw [cutsTs, List.getD_cons_succ, List.getD_cons_succ]
    exact cutsTs_get l j (by simpa using h)
theorem cutsT_t {t : Te} : cutsT t = if t.k = 2 then decide (t.s = sBang) else if branchT t then (if t.s = sArrow then cutsT (t.l.getD 1 default) else cutsT (t.l.getD 0 default) || cutsT (t.l.getD 1 default)) else false := by
  cases t with
  | mk k n s l =>
    rw [cutsT]
    by_cases hb : branchT (.mk k n s l) = true
    · have hl := (branch_len hb).1
      have hl : l.length = 2 := hl
      rw [cutsTs_get l 0 (by omega), cutsTs_get l 1 (by omega)]
      rfl
    · rw [if_neg hb, if_neg hb]
      rfl
def gCu : List D → Option (List D)
  | [t] => if validT (dT t) then some [.b (cutsT (dT t))] else none
  | _ => none
theorem ok_body_cuts : FOk ct_body_cuts gCu := fok_cut (m := mT) enter_body_cuts fun N ih => fok_body_cuts ok_body_branch ih fun ds outs hw hg => by
  obtain ⟨d, r, rfl, hd, rfl⟩ := hw
  obtain ⟨t, rfl, ht⟩ := wfT hd
  simp only [cutM, mT, gCu, List.getD_cons_zero, dT_eT, Option.ite_none_right_eq_some, Option.some.injEq] at hg
  obtain ⟨hsz, hv, rfl⟩ := hg
  rw [tree_body_cuts, cutsT_t, go_br]
  refine ⟨fun h => ?_, fun h => ?_⟩
  · simp only [go_need, go_br, go_leaf, go_back, allSay, X.says, X.ev, X.evs, evl, tblS, List.getD_cons_zero, List.getD_cons_succ, List.getElem?_cons_zero, List.getElem?_cons_succ, tt_b, int_i, str_s, rs_r, Option.isSome_some, Option.getD_some, decide_eq_true_eq, decide_eq_false_iff_not, List.length_map, i_inj, b_inj, s_inj, rng64, List.take_succ_cons, List.take_zero, List.nil_append, List.cons_append, decide_true, decide_false, Bool.or_true, true_and, and_true, dT_eT, eT_0, eT_1, eT_2, eT_3, eT_eq, eT_z] at h
    rw [if_pos h]
    simp only [go_need, go_br, go_leaf, go_back, allSay, X.says, X.ev, X.evs, evl, tblS, List.getD_cons_zero, List.getD_cons_succ, List.getElem?_cons_zero, List.getElem?_cons_succ, tt_b, int_i, str_s, rs_r, Option.isSome_some, Option.getD_some, decide_eq_true_eq, decide_eq_false_iff_not, List.length_map, i_inj, b_inj, s_inj, rng64, List.take_succ_cons, List.take_zero, List.nil_append, List.cons_append, decide_true, decide_false, Bool.or_true, true_and, and_true, dT_eT, eT_0, eT_1, eT_2, eT_3, eT_eq, eT_z]
  simp only [go_need, go_br, go_leaf, go_back, allSay, X.says, X.ev, X.evs, evl, tblS, List.getD_cons_zero, List.getD_cons_succ, List.getElem?_cons_zero, List.getElem?_cons_succ, tt_b, int_i, str_s, rs_r, Option.isSome_some, Option.getD_some, decide_eq_true_eq, decide_eq_false_iff_not, List.length_map, i_inj, b_inj, s_inj, rng64, List.take_succ_cons, List.take_zero, List.nil_append, List.cons_append, decide_true, decide_false, Bool.or_true, true_and, and_true, dT_eT, eT_0, eT_1, eT_2, eT_3, eT_eq, eT_z] at h
  rw [if_neg h]
  simp only [go_need, go_br, go_leaf, go_back, allSay, X.says, X.ev, X.evs, evl, tblS, List.getD_cons_zero, List.getD_cons_succ, List.getElem?_cons_zero, List.getElem?_cons_succ, tt_b, int_i, str_s, rs_r, Option.isSome_some, Option.getD_some, decide_eq_true_eq, decide_eq_false_iff_not, List.length_map, i_inj, b_inj, s_inj, rng64, List.take_succ_cons, List.take_zero, List.nil_append, List.cons_append, decide_true, decide_false, Bool.or_true, true_and, and_true, dT_eT, eT_0, eT_1, eT_2, eT_3, eT_eq, eT_z, gTb]
  refine ⟨fun hb => ?_, fun hb => ?_⟩
  · rw [if_neg (by simpa using hb)]
  have hb : branchT t = true := by simpa using hb
  have hl := (branch_len hb).1
  have s0 := arg_sz (t := t) (k := 0) (by omega)
  have s1 := arg_sz (t := t) (k := 1) (by omega)
  have g0 : (D.r (t.l.map eT)).get 0 = eT (t.l.getD 0 default) := get_t (k := 0) (by omega)
  have g1 : (D.r (t.l.map eT)).get 1 = eT (t.l.getD 1 default) := get_t (k := 1) (by omega)
  have v0 := valid_getD hv (j := 0) (by omega)
  have v1 := valid_getD hv (j := 1) (by omega)
  have hl2 : (t.l.length : Int) = 2 := by omega
  simp only [hb, if_true, go_need, go_br, go_leaf, go_back, allSay, X.says, X.ev, X.evs, evl, tblS, List.getD_cons_zero, List.getD_cons_succ, List.getElem?_cons_zero, List.getElem?_cons_succ, tt_b, int_i, str_s, rs_r, Option.isSome_some, Option.getD_some, decide_eq_true_eq, decide_eq_false_iff_not, List.length_map, i_inj, b_inj, s_inj, rng64, List.take_succ_cons, List.take_zero, List.nil_append, List.cons_append, decide_true, decide_false, Bool.or_true, true_and, and_true, dT_eT, eT_0, eT_1, eT_2, eT_3, eT_eq, eT_z, g0, g1, cutM, mT, gCu, if_pos (show szT (t.l.getD 0 default) < N by omega), if_pos (show szT (t.l.getD 1 default) < N by omega), v0, v1, hl2]
  refine ⟨fun ha => ?_, fun ha => ?_⟩
  · rw [if_pos ha]
    simp
  · rw [if_neg ha]
    simp
theorem ok_ref16_cuts : FOk ct_ref16_cuts gCu := fok_cut (m := mT) enter_ref16_cuts fun N ih => fok_ref16_cuts ok_ref16_Is ih fun ds outs hw hg => by
  obtain ⟨d, r, rfl, hd, rfl⟩ := hw
  obtain ⟨t, rfl, ht⟩ := wfT hd
  simp only [cutM, mT, gCu, List.getD_cons_zero, dT_eT, Option.ite_none_right_eq_some, Option.some.injEq] at hg
  obtain ⟨hsz, hv, rfl⟩ := hg
  have hk := valid_kind hv
  have hjb := joins_branch hv
  have two : joinsT t = true → _ := fun hj => by
    have hl := joins_len hj
    have s0 := arg_sz (t := t) (k := 0) (by omega)
    have s1 := arg_sz (t := t) (k := 1) (by omega)
    exact (⟨hl, get_t (k := 0) (by omega), get_t (k := 1) (by omega), valid_getD hv (j := 0) (by omega), valid_getD hv (j := 1) (by omega), s0, s1⟩ : t.l.length = 2 ∧ (D.r (t.l.map eT)).get ((0 : Nat) : Int) = eT (t.l.getD 0 default) ∧ (D.r (t.l.map eT)).get ((1 : Nat) : Int) = eT (t.l.getD 1 default) ∧ validT (t.l.getD 0 default) = true ∧ validT (t.l.getD 1 default) = true ∧ szT (t.l.getD 0 default) < szT t ∧ szT (t.l.getD 1 default) < szT t)
  simp only [tree_ref16_cuts, go_need, go_br, go_leaf, go_back, allSay, X.says, X.ev, X.evs, evl, tblS, List.getD_cons_zero, List.getD_cons_succ, List.getElem?_cons_zero, List.getElem?_cons_succ, tt_b, int_i, str_s, rs_r, Option.isSome_some, Option.getD_some, decide_eq_true_eq, decide_eq_false_iff_not, List.length_map, i_inj, b_inj, s_inj, rng64, List.take_succ_cons, List.take_zero, List.nil_append, List.cons_append, decide_true, decide_false, Bool.or_true, true_and, and_true, dT_eT, eT_0, eT_1, eT_2, eT_3, eT_eq, eT_z, gIs]
  refine ⟨fun h => ?_, fun h => ⟨fun ha => ?_, fun ha => ?_⟩⟩
  · have hj : joinsT t = true := by rw [joinsT, h]; rfl
    obtain ⟨hl, g0, g1, v0, v1, s0, s1⟩ := two hj
    have g0 : (D.r (t.l.map eT)).get 0 = eT (t.l.getD 0 default) := g0
    have g1 : (D.r (t.l.map eT)).get 1 = eT (t.l.getD 1 default) := g1
    have hl2 : (t.l.length : Int) = 2 := by omega
    have hna : ¬ t.s = sArrow := by
      simp only [isT, Bool.or_eq_true, Bool.and_eq_true, decide_eq_true_eq] at h
      rcases h with h | h <;> (rw [h.1.2]; decide)
    have hk3 : ¬ t.k = 2 := by omega
    simp only [go_need, go_br, go_leaf, go_back, allSay, X.says, X.ev, X.evs, evl, tblS, List.getD_cons_zero, List.getD_cons_succ, List.getElem?_cons_zero, List.getElem?_cons_succ, tt_b, int_i, str_s, rs_r, Option.isSome_some, Option.getD_some, decide_eq_true_eq, decide_eq_false_iff_not, List.length_map, i_inj, b_inj, s_inj, rng64, List.take_succ_cons, List.take_zero, List.nil_append, List.cons_append, decide_true, decide_false, Bool.or_true, true_and, and_true, dT_eT, eT_0, eT_1, eT_2, eT_3, eT_eq, eT_z, g0, g1, cutM, mT, gCu, if_pos (show szT (t.l.getD 0 default) < N by omega), if_pos (show szT (t.l.getD 1 default) < N by omega), v0, v1, hl2]
    rw [cutsT_t (t := t), if_neg hk3, ← hjb, if_pos hj, if_neg hna]
    simp [tt_b]
  · have hj : joinsT t = true := by rw [joinsT, ha]; simp
    obtain ⟨hl, g0, g1, v0, v1, s0, s1⟩ := two hj
    have g1 : (D.r (t.l.map eT)).get 1 = eT (t.l.getD 1 default) := g1
    have hl2 : (t.l.length : Int) = 2 := by omega
    have hna : t.s = sArrow := by
      simp only [isT, Bool.and_eq_true, decide_eq_true_eq] at ha
      exact ha.1.2
    have hk3 : ¬ t.k = 2 := by omega
    simp only [go_need, go_br, go_leaf, go_back, allSay, X.says, X.ev, X.evs, evl, tblS, List.getD_cons_zero, List.getD_cons_succ, List.getElem?_cons_zero, List.getElem?_cons_succ, tt_b, int_i, str_s, rs_r, Option.isSome_some, Option.getD_some, decide_eq_true_eq, decide_eq_false_iff_not, List.length_map, i_inj, b_inj, s_inj, rng64, List.take_succ_cons, List.take_zero, List.nil_append, List.cons_append, decide_true, decide_false, Bool.or_true, true_and, and_true, dT_eT, eT_0, eT_1, eT_2, eT_3, eT_eq, eT_z, g1, cutM, mT, gCu, if_pos (show szT (t.l.getD 1 default) < N by omega), v1, hl2]
    rw [cutsT_t (t := t), if_neg hk3, ← hjb, if_pos hj, if_pos hna]
    simp [tt_b]
  · have hj : joinsT t = false := by rw [joinsT, h, ha]; rfl
    rw [cutsT_t, ← hjb, hj]
    by_cases hk2 : t.k = 2
    · have hl0 : t.l.length = 0 := by omega
      simp [isT, hk2, hl0]
    · have hl0 : ¬ ((t.k = 2 ∨ t.k = 3) ∧ (t.l.length : Int) = 0) := by omega
      rw [if_neg hk2]
      have : isT t sBang 0 = false := by
        rw [Bool.eq_false_iff]
        intro q
        simp only [isT, Bool.and_eq_true, Bool.or_eq_true, decide_eq_true_eq] at q
        exact hl0 ⟨q.1.1, q.2⟩
      show [D.b (isT t sBang 0)] = _
      rw [this]
      rfl
def cutsV (t : Te) : Bool := validT t && cutsT t
theorem ok_body_Cuts : FOk ct_body_Cuts (gTb cutsV) := fok_body_Cuts ok_term_Valid ok_body_cuts fun ds outs hw hg => by
  obtain ⟨d, r, rfl, hd, rfl⟩ := hw
  obtain ⟨t, rfl, ht⟩ := wfT hd
  simp only [gTb, dT_eT, Option.some.injEq] at hg
  subst hg
  simp only [tree_body_Cuts, go_need, go_br, go_leaf, go_back, allSay, X.says, X.ev, X.evs, evl, tblS, List.getD_cons_zero, List.getD_cons_succ, List.getElem?_cons_zero, List.getElem?_cons_succ, tt_b, int_i, str_s, rs_r, Option.isSome_some, Option.getD_some, decide_eq_true_eq, decide_eq_false_iff_not, List.length_map, i_inj, b_inj, s_inj, rng64, List.take_succ_cons, List.take_zero, List.nil_append, List.cons_append, decide_true, decide_false, Bool.or_true, true_and, and_true, dT_eT, eT_0, eT_1, eT_2, eT_3, eT_eq, eT_z, gTb, gCu, cutsV]
  cases validT t <;> simp [tt_b]
theorem ok_ref16_Cuts : FOk ct_ref16_Cuts (gTb cutsV) := fok_ref16_Cuts ok_ref03_Valid ok_ref16_cuts fun ds outs hw hg => by
  obtain ⟨d, r, rfl, hd, rfl⟩ := hw
  obtain ⟨t, rfl, ht⟩ := wfT hd
  simp only [gTb, dT_eT, Option.some.injEq] at hg
  subst hg
  simp only [tree_ref16_Cuts, go_need, go_br, go_leaf, go_back, allSay, X.says, X.ev, X.evs, evl, tblS, List.getD_cons_zero, List.getD_cons_succ, List.getElem?_cons_zero, List.getElem?_cons_succ, tt_b, int_i, str_s, rs_r, Option.isSome_some, Option.getD_some, decide_eq_true_eq, decide_eq_false_iff_not, List.length_map, i_inj, b_inj, s_inj, rng64, List.take_succ_cons, List.take_zero, List.nil_append, List.cons_append, decide_true, decide_false, Bool.or_true, true_and, and_true, dT_eT, eT_0, eT_1, eT_2, eT_3, eT_eq, eT_z, gTb, gCu, cutsV]
  cases validT t <;> simp [tt_b]
end Go.Proofs.Ytflahdpkkgmpeaa

namespace Go.Proofs.Ytflahdpkkgmpeaa
open Go.RowKit
set_option linter.unusedVariables false
set_option linter.unusedSimpArgs false

/-! ### Control -/
def posD : List D → D → Int
  | [], _ => -1
  | a :: l, x => if a = x then 0 else if posD l x < 0 then -1 else posD l x + 1
theorem posD_iff : ∀ {l : List D} {x : D}, 0 ≤ posD l x ↔ x ∈ l
  | [], x => by simp [posD]
  | a :: l, x => by
    have ih := posD_iff (l := l) (x := x)
    unfold posD
    by_cases e : a = x
    · simp [e]
    · rw [if_neg e]
      have : x ∈ a :: l ↔ x ∈ l := by rw [List.mem_cons]; exact ⟨fun q => q.elim (fun q => absurd q.symm e) id, .inr⟩
      rw [this, ← ih]
      split <;> omega
theorem posD_hit : ∀ {l : List D} {x : D} {k : Nat}, k < l.length → l.getD k .u = x → (∀ j, j < k → l.getD j .u ≠ x) → posD l x = k
  | a :: l, x, 0, _, h, _ => by
    unfold posD
    rw [if_pos (by simpa using h)]
    rfl
  | a :: l, x, k + 1, hk, h, hn => by
    unfold posD
    have := posD_hit (l := l) (x := x) (k := k) (by simpa using hk) (by simpa using h) (fun j hj => by simpa using hn (j + 1) (by omega))
    rw [if_neg (by simpa using hn 0 (by omega)), this, if_neg (by omega)]
    simp
theorem posD_not {l : List D} {x : D} (h : x ∉ l) : posD l x = -1 := by
  induction l with
  | nil => rfl
  | cons a l ih =>
    unfold posD
    have := ih fun q => h (List.mem_cons_of_mem _ q)
    rw [if_neg (fun e : a = x => h (by rw [e]; exact List.mem_cons_self)), this, if_pos (by omega)]
def gIdx : List D → Option (List D)
  | [l, x] => some [.i (posD l.rs x)]
  | _ => none
theorem ok_slices_Index_construct : FOk ct_slices_Index_construct gIdx := fok_slices_Index_construct fun ds outs hw hg => by
  obtain ⟨d, r, rfl, hd, e, r', rfl, he, rfl⟩ := hw
  obtain ⟨l, te, rfl, -, hl, -⟩ := hd.row
  have hl := Nat.le_trans hl (LM_le te)
  have hL : LIM ≤ 140737488355328 := by unfold LIM; omega
  simp only [gIdx, rs_r, Option.some.injEq] at hg
  subst hg
  rw [tree_slices_Index_construct, go_loop]
  refine ⟨fun st => ∃ k : Nat, k ≤ l.length ∧ st = [.i 0, .i k] ∧ ∀ j, j < k → l.getD j .u ≠ e, fun st => l.length - (st.getD 1 .u).int.toNat, ⟨0, Nat.zero_le _, rfl, fun j hj => absurd hj (Nat.not_lt_zero _)⟩, ?_⟩
  rintro st - ⟨k, hk, rfl, hP⟩
  rw [go_br]
  refine ⟨fun hlt => ?_, fun hlt => ?_⟩
  · simp only [go_need, go_br, go_leaf, go_back, allSay, X.says, X.ev, X.evs, evl, tblS, List.getD_cons_zero, List.getD_cons_succ, List.getElem?_cons_zero, List.getElem?_cons_succ, tt_b, int_i, str_s, rs_r, Option.isSome_some, Option.getD_some, decide_eq_true_eq, decide_eq_false_iff_not, List.length_map, i_inj, b_inj, s_inj, rng64, List.take_succ_cons, List.take_zero, List.nil_append, List.cons_append, decide_true, decide_false, Bool.or_true, true_and, and_true, dT_eT, eT_0, eT_1, eT_2, eT_3, eT_eq, eT_z] at hlt
    have hkl : k < l.length := by omega
    have hgk : (D.r l).get (k : Int) = l.getD k .u := rfl
    simp only [go_need, go_br, go_leaf, go_back, allSay, X.says, X.ev, X.evs, evl, tblS, List.getD_cons_zero, List.getD_cons_succ, List.getElem?_cons_zero, List.getElem?_cons_succ, tt_b, int_i, str_s, rs_r, Option.isSome_some, Option.getD_some, decide_eq_true_eq, decide_eq_false_iff_not, List.length_map, i_inj, b_inj, s_inj, rng64, List.take_succ_cons, List.take_zero, List.nil_append, List.cons_append, decide_true, decide_false, Bool.or_true, true_and, and_true, dT_eT, eT_0, eT_1, eT_2, eT_3, eT_eq, eT_z, hgk]
    refine ⟨⟨by omega, by omega⟩, fun hx => ?_, fun hx => ⟨⟨by omega, by omega⟩, ?_⟩⟩
    · rw [posD_hit hkl hx.symm hP]
    · rw [updB, if_pos rfl]
      refine ⟨⟨k + 1, by omega, by simp, upto_succ hP fun q => hx q.symm⟩, ?_⟩
      simp [D.int]
      omega
  · simp only [go_need, go_br, go_leaf, go_back, allSay, X.says, X.ev, X.evs, evl, tblS, List.getD_cons_zero, List.getD_cons_succ, List.getElem?_cons_zero, List.getElem?_cons_succ, tt_b, int_i, str_s, rs_r, Option.isSome_some, Option.getD_some, decide_eq_true_eq, decide_eq_false_iff_not, List.length_map, i_inj, b_inj, s_inj, rng64, List.take_succ_cons, List.take_zero, List.nil_append, List.cons_append, decide_true, decide_false, Bool.or_true, true_and, and_true, dT_eT, eT_0, eT_1, eT_2, eT_3, eT_eq, eT_z] at hlt ⊢
    have : k = l.length := by omega
    subst this
    rw [posD_not fun hm => by
      obtain ⟨j, hj, q⟩ := List.getElem_of_mem hm
      exact hP j hj (by rw [List.getD_eq_getElem?_getD, List.getElem?_eq_getElem hj]; exact q)]
theorem decB {p q : Prop} {i : Decidable p} {j : Decidable q} (h : p ↔ q) : @decide p i = @decide q j := by
  cases i <;> cases j <;> simp_all
def gMem : List D → Option (List D)
  | [l, x] => some [.b (decide (0 ≤ posD l.rs x))]
  | _ => none
theorem ok_slices_Contains_construct : FOk ct_slices_Contains_construct gMem := fok_slices_Contains_construct ok_slices_Index_construct fun ds outs hw hg => by
  obtain ⟨d, r, rfl, hd, e, r', rfl, he, rfl⟩ := hw
  obtain ⟨l, te, rfl, -⟩ := hd.row
  simp only [gMem, rs_r, Option.some.injEq] at hg
  subst hg
  simp only [tree_slices_Contains_construct, go_need, go_br, go_leaf, go_back, allSay, X.says, X.ev, X.evs, evl, tblS, List.getD_cons_zero, List.getD_cons_succ, List.getElem?_cons_zero, List.getElem?_cons_succ, tt_b, int_i, str_s, rs_r, Option.isSome_some, Option.getD_some, decide_eq_true_eq, decide_eq_false_iff_not, List.length_map, i_inj, b_inj, s_inj, rng64, List.take_succ_cons, List.take_zero, List.nil_append, List.cons_append, decide_true, decide_false, Bool.or_true, true_and, and_true, dT_eT, eT_0, eT_1, eT_2, eT_3, eT_eq, eT_z, gIdx]
  exact congrArg (fun b => [D.b b]) (decB Iff.rfl)
abbrev sFail : ByteArray := ⟨#[102, 97, 105, 108]⟩
abbrev sNot : ByteArray := ⟨#[92, 43]⟩
abbrev sOnce : ByteArray := ⟨#[111, 110, 99, 101]⟩
def ctlT (s : ByteArray) (n : Int) : Bool := decide ((s = sTrue ∨ s = sFail ∨ s = sBang) ∧ n = 0 ∨ (s = sComma ∨ s = sSemi ∨ s = sArrow) ∧ n = 2 ∨ (s = sNot ∨ s = sOnce) ∧ n = 1)
def gCtl : List D → Option (List D)
  | [s, n] => some [.b (ctlT s.str n.int)]
  | _ => none
theorem ok_body_Control : FOk ct_body_Control gCtl := fok_body_Control ok_slices_Contains_construct fun ds outs hw hg => by
  obtain ⟨d, r, rfl, hd, e, r', rfl, he, rfl⟩ := hw
  obtain ⟨s, rfl, hs⟩ := hd.str
  obtain ⟨n, rfl, hn⟩ := wfI he
  simp only [gCtl, str_s, int_i, Option.some.injEq] at hg
  subst hg
  simp only [tree_body_Control, go_need, go_br, go_leaf, go_back, allSay, X.says, X.ev, X.evs, evl, tblS, List.getD_cons_zero, List.getD_cons_succ, List.getElem?_cons_zero, List.getElem?_cons_succ, tt_b, int_i, str_s, rs_r, Option.isSome_some, Option.getD_some, decide_eq_true_eq, decide_eq_false_iff_not, List.length_map, i_inj, b_inj, s_inj, rng64, List.take_succ_cons, List.take_zero, List.nil_append, List.cons_append, decide_true, decide_false, Bool.or_true, true_and, and_true, dT_eT, eT_0, eT_1, eT_2, eT_3, eT_eq, eT_z, gMem]
  refine congrArg (fun b => [D.b b]) (decB ?_)
  rw [posD_iff]
  simp only [List.mem_cons, List.not_mem_nil, or_false, a_inj, List.cons.injEq, s_inj, i_inj, and_true]
  constructor
  · rintro (⟨h1, h2⟩ | ⟨h1, h2⟩ | ⟨h1, h2⟩ | ⟨h1, h2⟩ | ⟨h1, h2⟩ | ⟨h1, h2⟩ | ⟨h1, h2⟩ | ⟨h1, h2⟩) <;> simp [h1, h2]
  · rintro (⟨h1 | h1 | h1, h2⟩ | ⟨h1 | h1 | h1, h2⟩ | ⟨h1 | h1, h2⟩) <;> simp [h1, h2]
theorem ok_ref16_Control : FOk ct_ref16_Control gCtl := fok_ref16_Control fun ds outs hw hg => by
  obtain ⟨d, r, rfl, hd, e, r', rfl, he, rfl⟩ := hw
  obtain ⟨s, rfl, hs⟩ := hd.str
  obtain ⟨n, rfl, hn⟩ := wfI he
  simp only [gCtl, str_s, int_i, Option.some.injEq] at hg
  subst hg
  by_cases h1 : s = sTrue
  · subst h1; simp [tree_ref16_Control, go_need, go_br, go_leaf, go_back, allSay, X.says, X.ev, X.evs, evl, tblS, List.getD_cons_zero, List.getD_cons_succ, List.getElem?_cons_zero, List.getElem?_cons_succ, tt_b, int_i, str_s, rs_r, Option.isSome_some, Option.getD_some, decide_eq_true_eq, decide_eq_false_iff_not, List.length_map, i_inj, b_inj, s_inj, rng64, List.take_succ_cons, List.take_zero, List.nil_append, List.cons_append, decide_true, decide_false, Bool.or_true, true_and, and_true, dT_eT, eT_0, eT_1, eT_2, eT_3, eT_eq, eT_z, ctlT]
  by_cases h2 : s = sFail
  · subst h2; simp [tree_ref16_Control, go_need, go_br, go_leaf, go_back, allSay, X.says, X.ev, X.evs, evl, tblS, List.getD_cons_zero, List.getD_cons_succ, List.getElem?_cons_zero, List.getElem?_cons_succ, tt_b, int_i, str_s, rs_r, Option.isSome_some, Option.getD_some, decide_eq_true_eq, decide_eq_false_iff_not, List.length_map, i_inj, b_inj, s_inj, rng64, List.take_succ_cons, List.take_zero, List.nil_append, List.cons_append, decide_true, decide_false, Bool.or_true, true_and, and_true, dT_eT, eT_0, eT_1, eT_2, eT_3, eT_eq, eT_z, ctlT]
  by_cases h3 : s = sBang
  · subst h3; simp [tree_ref16_Control, go_need, go_br, go_leaf, go_back, allSay, X.says, X.ev, X.evs, evl, tblS, List.getD_cons_zero, List.getD_cons_succ, List.getElem?_cons_zero, List.getElem?_cons_succ, tt_b, int_i, str_s, rs_r, Option.isSome_some, Option.getD_some, decide_eq_true_eq, decide_eq_false_iff_not, List.length_map, i_inj, b_inj, s_inj, rng64, List.take_succ_cons, List.take_zero, List.nil_append, List.cons_append, decide_true, decide_false, Bool.or_true, true_and, and_true, dT_eT, eT_0, eT_1, eT_2, eT_3, eT_eq, eT_z, ctlT]
  by_cases h4 : s = sComma
  · subst h4; simp [tree_ref16_Control, go_need, go_br, go_leaf, go_back, allSay, X.says, X.ev, X.evs, evl, tblS, List.getD_cons_zero, List.getD_cons_succ, List.getElem?_cons_zero, List.getElem?_cons_succ, tt_b, int_i, str_s, rs_r, Option.isSome_some, Option.getD_some, decide_eq_true_eq, decide_eq_false_iff_not, List.length_map, i_inj, b_inj, s_inj, rng64, List.take_succ_cons, List.take_zero, List.nil_append, List.cons_append, decide_true, decide_false, Bool.or_true, true_and, and_true, dT_eT, eT_0, eT_1, eT_2, eT_3, eT_eq, eT_z, ctlT]
  by_cases h5 : s = sSemi
  · subst h5; simp [tree_ref16_Control, go_need, go_br, go_leaf, go_back, allSay, X.says, X.ev, X.evs, evl, tblS, List.getD_cons_zero, List.getD_cons_succ, List.getElem?_cons_zero, List.getElem?_cons_succ, tt_b, int_i, str_s, rs_r, Option.isSome_some, Option.getD_some, decide_eq_true_eq, decide_eq_false_iff_not, List.length_map, i_inj, b_inj, s_inj, rng64, List.take_succ_cons, List.take_zero, List.nil_append, List.cons_append, decide_true, decide_false, Bool.or_true, true_and, and_true, dT_eT, eT_0, eT_1, eT_2, eT_3, eT_eq, eT_z, ctlT]
  by_cases h6 : s = sArrow
  · subst h6; simp [tree_ref16_Control, go_need, go_br, go_leaf, go_back, allSay, X.says, X.ev, X.evs, evl, tblS, List.getD_cons_zero, List.getD_cons_succ, List.getElem?_cons_zero, List.getElem?_cons_succ, tt_b, int_i, str_s, rs_r, Option.isSome_some, Option.getD_some, decide_eq_true_eq, decide_eq_false_iff_not, List.length_map, i_inj, b_inj, s_inj, rng64, List.take_succ_cons, List.take_zero, List.nil_append, List.cons_append, decide_true, decide_false, Bool.or_true, true_and, and_true, dT_eT, eT_0, eT_1, eT_2, eT_3, eT_eq, eT_z, ctlT]
  by_cases h7 : s = sNot
  · subst h7; simp [tree_ref16_Control, go_need, go_br, go_leaf, go_back, allSay, X.says, X.ev, X.evs, evl, tblS, List.getD_cons_zero, List.getD_cons_succ, List.getElem?_cons_zero, List.getElem?_cons_succ, tt_b, int_i, str_s, rs_r, Option.isSome_some, Option.getD_some, decide_eq_true_eq, decide_eq_false_iff_not, List.length_map, i_inj, b_inj, s_inj, rng64, List.take_succ_cons, List.take_zero, List.nil_append, List.cons_append, decide_true, decide_false, Bool.or_true, true_and, and_true, dT_eT, eT_0, eT_1, eT_2, eT_3, eT_eq, eT_z, ctlT]
  by_cases h8 : s = sOnce
  · subst h8; simp [tree_ref16_Control, go_need, go_br, go_leaf, go_back, allSay, X.says, X.ev, X.evs, evl, tblS, List.getD_cons_zero, List.getD_cons_succ, List.getElem?_cons_zero, List.getElem?_cons_succ, tt_b, int_i, str_s, rs_r, Option.isSome_some, Option.getD_some, decide_eq_true_eq, decide_eq_false_iff_not, List.length_map, i_inj, b_inj, s_inj, rng64, List.take_succ_cons, List.take_zero, List.nil_append, List.cons_append, decide_true, decide_false, Bool.or_true, true_and, and_true, dT_eT, eT_0, eT_1, eT_2, eT_3, eT_eq, eT_z, ctlT]
  · simp [tree_ref16_Control, go_need, go_br, go_leaf, go_back, allSay, X.says, X.ev, X.evs, evl, tblS, List.getD_cons_zero, List.getD_cons_succ, List.getElem?_cons_zero, List.getElem?_cons_succ, tt_b, int_i, str_s, rs_r, Option.isSome_some, Option.getD_some, decide_eq_true_eq, decide_eq_false_iff_not, List.length_map, i_inj, b_inj, s_inj, rng64, List.take_succ_cons, List.take_zero, List.nil_append, List.cons_append, decide_true, decide_false, Bool.or_true, true_and, and_true, dT_eT, eT_0, eT_1, eT_2, eT_3, eT_eq, eT_z, h1, h2, h3, h4, h5, h6, h7, h8, ctlT]
end Go.Proofs.Ytflahdpkkgmpeaa

namespace Go.Proofs.Ytflahdpkkgmpeaa
open Go.RowKit
set_option linter.unusedVariables false
set_option linter.unusedSimpArgs false

/-! ### Numbering by a map -/
def encL : Nat → List Int → List D
  | _, [] => []
  | i, v :: l => .a [.i v, .i (i : Nat)] :: encL (i + 1) l
def encM (vs : List Int) : D := .mp (encL 0 vs)
def decM (d : D) : List Int := d.ms.map fun p => (p.fld 0).int
theorem decL : ∀ (i : Nat) (l : List Int), (encL i l).map (fun p => (p.fld 0).int) = l
  | _, [] => rfl
  | i, v :: l => by rw [encL, List.map_cons, decL (i + 1) l]; rfl
theorem decM_encM (vs : List Int) : decM (encM vs) = vs := decL 0 vs
theorem encL_len : ∀ (i : Nat) (l : List Int), (encL i l).length = l.length
  | _, [] => rfl
  | i, v :: l => by rw [encL, List.length_cons, encL_len (i + 1) l]; rfl
theorem mfind_enc : ∀ (i : Nat) (l : List Int) (x : Int), mfind (.i x) (encL i l) = if x ∈ l then some (.i (i + posL l x)) else none
  | _, [], x => by simp [encL, mfind]
  | i, v :: l, x => by
    rw [encL, mfind]
    have e : (D.a [.i v, .i (i : Nat)]).fld 0 = .i v := rfl
    have e1 : (D.a [.i v, .i (i : Nat)]).fld 1 = .i (i : Nat) := rfl
    rw [e, e1]
    by_cases h : v = x
    · subst h
      rw [if_pos rfl, if_pos List.mem_cons_self]
      unfold posL
      rw [if_pos rfl, Int.add_zero]
    · rw [if_neg (by simpa using h), mfind_enc (i + 1) l x]
      by_cases hx : x ∈ l
      · have := (posL_mem hx).1
        rw [if_pos hx, if_pos (List.mem_cons_of_mem _ hx)]
        have e2 : posL (v :: l) x = posL l x + 1 := by
          conv => lhs; unfold posL
          rw [if_neg h, if_neg (by omega)]
        rw [e2]
        congr 2
        push_cast
        omega
      · rw [if_neg hx, if_neg fun q => by
          rcases List.mem_cons.1 q with q | q
          · exact h q.symm
          · exact hx q]
theorem mset_enc : ∀ (i : Nat) (l : List Int) (x : Int), x ∉ l → mset (.i x) (.i ((i + l.length : Nat) : Int)) (encL i l) = encL i (l ++ [x])
  | i, [], x, _ => rfl
  | i, v :: l, x, h => by
    rw [encL, mset]
    have e : (D.a [.i v, .i (i : Nat)]).fld 0 = .i v := rfl
    have hv : v ≠ x := fun e => h (by rw [e]; exact List.mem_cons_self)
    rw [e, if_neg (by simpa using hv), List.cons_append, encL, List.length_cons, show i + (l.length + 1) = (i + 1) + l.length by omega, mset_enc (i + 1) l x fun q => h (List.mem_cons_of_mem _ q)]
theorem mhas_enc (vs : List Int) (x : Int) : fnD 1 [encM vs, .i x] = .b (decide (x ∈ vs)) := by
  show D.b (mfind (.i x) (encL 0 vs)).isSome = _
  rw [mfind_enc]
  by_cases h : x ∈ vs <;> simp [h]
theorem mget_enc {vs : List Int} {x : Int} (h : x ∈ vs) : fnD 0 [encM vs, .i x, .i 0] = .i (posL vs x) := by
  show (mfind (.i x) (encL 0 vs)).getD (.i 0) = _
  rw [mfind_enc, if_pos h]
  simp
theorem mput_enc {vs : List Int} {x : Int} (h : x ∉ vs) : fnD 2 [encM vs, .i x, .i (vs.length : Nat)] = encM (vs ++ [x]) := by
  show D.mp (mset (.i x) (.i (vs.length : Nat)) (encL 0 vs)) = _
  have := mset_enc 0 vs x h
  rw [Nat.zero_add] at this
  rw [this]
  rfl
theorem mlen_enc (vs : List Int) : fnD 3 [encM vs] = .i (vs.length : Nat) := by
  show D.i ((encL 0 vs).length : Nat) = _
  rw [encL_len]
def okM (m : D) (n : Nat) : Bool := decide (m = encM (decM m)) && decide ((decM m).length + n ≤ 1000000)
def gNumP : List D → Option (List D)
  | [t, m] => if okM m (szT (dT t)) then some [eT (numT (varsT (decM m) (dT t)) (dT t)), encM (varsT (decM m) (dT t))] else none
  | _ => none
theorem numT_pre {vs W : List Int} {t : Te} {m : List Int} (h : W = varsT vs t ++ m) : numT (varsT vs t) t = numT W t :=
  mapV_congr (V := varsT vs t) (fun x hx => by rw [h, posL_app hx]) t (varsT_in t vs)
theorem ok_body_number : FOk ct_body_number gNumP := fok_cut (m := mT) enter_body_number fun N ih => fok_body_number ih fun ds outs hw hg => by
  obtain ⟨d, r, rfl, hd, e, r', rfl, he, rfl⟩ := hw
  obtain ⟨t, rfl, ht⟩ := wfT hd
  simp only [cutM, mT, gNumP, List.getD_cons_zero, dT_eT, Option.ite_none_right_eq_some, Option.some.injEq, okM, Bool.and_eq_true, decide_eq_true_eq] at hg
  obtain ⟨hsz, ⟨hm, hlen⟩, rfl⟩ := hg
  generalize decM e = vs at *
  subst hm
  have hl := ht.l
  have hs := szT_l t
  have key : ∀ (x y : X) (V : List Int) (n : Int), V.length + szTs t.l ≤ 1000000 → varsTs V t.l = varsT vs t → (n = if t.k = 0 then posL (varsT vs t) t.n else t.n) →
      x.ev (evl (tblS [(ct_body_number, cutM mT N gNumP)]) [eT t, encM vs]) = encM V → y.ev (evl (tblS [(ct_body_number, cutM mT N gNumP)]) [eT t, encM vs]) = eT (.mk t.k n t.s []) →
      Tree.go (tblS [(ct_body_number, cutM mT N gNumP)]) (fun o => o = [eT (numT (varsT vs t) t), encM (varsT vs t)]) (.loop 9 2 [(.lit (.i 0)), x, y] (bodyOf tree_body_number)) [eT t, encM vs] fun _ _ => False := by
    intro x y V n hV1 hV2 hn hx hy
    rw [go_loop]
    simp only [bodyOf, tree_body_number]
    refine ⟨fun st => ∃ k : Nat, k ≤ t.l.length ∧ st = [.i k, encM (varsTs V (t.l.take k)), eT (.mk t.k n t.s ((t.l.take k).map (numT (varsT vs t))))], fun st => t.l.length - (st.getD 0 .u).int.toNat, ⟨0, Nat.zero_le _, by simp only [X.evs, hx, hy, X.ev]; rfl⟩, ?_⟩
    rintro st - ⟨k, hk, rfl⟩
    rw [go_br]
    refine ⟨fun hlt => ?_, fun hlt => ?_⟩
    · simp only [go_need, go_br, go_leaf, go_back, allSay, X.says, X.ev, X.evs, evl, tblS, List.getD_cons_zero, List.getD_cons_succ, List.getElem?_cons_zero, List.getElem?_cons_succ, tt_b, int_i, str_s, rs_r, Option.isSome_some, Option.getD_some, decide_eq_true_eq, decide_eq_false_iff_not, List.length_map, i_inj, b_inj, s_inj, rng64, List.take_succ_cons, List.take_zero, List.nil_append, List.cons_append, decide_true, decide_false, Bool.or_true, true_and, and_true, dT_eT, eT_0, eT_1, eT_2, eT_3, eT_eq, eT_z] at hlt
      have hkl' : k < t.l.length := by omega
      have ha := arg_sz hkl'
      have h1 := varsTs_len (t.l.take k) V
      have h2 := sz_take hkl'
      have hok : okM (encM (varsTs V (t.l.take k))) (szT (t.l.getD k default)) = true := by
        rw [okM, decM_encM, Bool.and_eq_true]
        exact ⟨decide_eq_true rfl, decide_eq_true (by omega)⟩
      have hW : ∃ m, varsT vs t = varsT (varsTs V (t.l.take k)) (t.l.getD k default) ++ m := by
        rw [← hV2, ← varsTs_snoc hkl']
        have e : t.l = t.l.take (k + 1) ++ t.l.drop (k + 1) := (List.take_append_drop _ _).symm
        obtain ⟨m, hm⟩ := varsTs_pre (t.l.drop (k + 1)) (varsTs V (t.l.take (k + 1)))
        refine ⟨m, ?_⟩
        conv => lhs; rw [e, varsTs_app]
        exact hm
      obtain ⟨m, hm⟩ := hW
      simp only [go_need, go_br, go_leaf, go_back, allSay, X.says, X.ev, X.evs, evl, tblS, List.getD_cons_zero, List.getD_cons_succ, List.getElem?_cons_zero, List.getElem?_cons_succ, tt_b, int_i, str_s, rs_r, Option.isSome_some, Option.getD_some, decide_eq_true_eq, decide_eq_false_iff_not, List.length_map, i_inj, b_inj, s_inj, rng64, List.take_succ_cons, List.take_zero, List.nil_append, List.cons_append, decide_true, decide_false, Bool.or_true, true_and, and_true, dT_eT, eT_0, eT_1, eT_2, eT_3, eT_eq, eT_z, get_t hkl', cutM, mT, gNumP, decM_encM, hok, if_true, if_pos (show szT (t.l.getD k default) < N by omega), Te_l, List.length_take]
      refine ⟨⟨by omega, by omega⟩, by omega, ⟨by omega, by omega⟩, ?_⟩
      rw [updB, if_pos rfl]
      refine ⟨⟨k + 1, by omega, ?_⟩, ?_⟩
      · rw [take_snoc hkl', varsTs_app, List.map_append, eT_snoc, numT_pre hm]
        rfl
      · simp [D.int]
        omega
    · simp only [go_need, go_br, go_leaf, go_back, allSay, X.says, X.ev, X.evs, evl, tblS, List.getD_cons_zero, List.getD_cons_succ, List.getElem?_cons_zero, List.getElem?_cons_succ, tt_b, int_i, str_s, rs_r, Option.isSome_some, Option.getD_some, decide_eq_true_eq, decide_eq_false_iff_not, List.length_map, i_inj, b_inj, s_inj, rng64, List.take_succ_cons, List.take_zero, List.nil_append, List.cons_append, decide_true, decide_false, Bool.or_true, true_and, and_true, dT_eT, eT_0, eT_1, eT_2, eT_3, eT_eq, eT_z] at hlt ⊢
      have : k = t.l.length := by omega
      subst this
      rw [List.take_length, hV2, hn, numT, mapV_t]
  rw [tree_body_number, go_br]
  refine ⟨fun h => ?_, fun h => ?_⟩
  · simp only [go_need, go_br, go_leaf, go_back, allSay, X.says, X.ev, X.evs, evl, tblS, List.getD_cons_zero, List.getD_cons_succ, List.getElem?_cons_zero, List.getElem?_cons_succ, tt_b, int_i, str_s, rs_r, Option.isSome_some, Option.getD_some, decide_eq_true_eq, decide_eq_false_iff_not, List.length_map, i_inj, b_inj, s_inj, rng64, List.take_succ_cons, List.take_zero, List.nil_append, List.cons_append, decide_true, decide_false, Bool.or_true, true_and, and_true, dT_eT, eT_0, eT_1, eT_2, eT_3, eT_eq, eT_z] at h
    rw [go_br]
    have hwin : t.n ∈ varsT vs t := by
      have := varsT_in t vs
      cases t with
      | mk k n s l => exact this.1 h
    refine ⟨fun hh => ?_, fun hh => ?_⟩
    · simp only [go_need, go_br, go_leaf, go_back, allSay, X.says, X.ev, X.evs, evl, tblS, List.getD_cons_zero, List.getD_cons_succ, List.getElem?_cons_zero, List.getElem?_cons_succ, tt_b, int_i, str_s, rs_r, Option.isSome_some, Option.getD_some, decide_eq_true_eq, decide_eq_false_iff_not, List.length_map, i_inj, b_inj, s_inj, rng64, List.take_succ_cons, List.take_zero, List.nil_append, List.cons_append, decide_true, decide_false, Bool.or_true, true_and, and_true, dT_eT, eT_0, eT_1, eT_2, eT_3, eT_eq, eT_z, mhas_enc, decide_eq_true_eq, Bool.not_eq_true', decide_eq_false_iff_not] at hh
      have e1 : varsTs (vs ++ [t.n]) t.l = varsT vs t := by rw [varsT_t, if_pos ⟨h, hh⟩]
      have e2 : posL (varsT vs t) t.n = vs.length := by
        obtain ⟨m, hm⟩ := varsTs_pre t.l (vs ++ [t.n])
        rw [← e1, hm, posL_app (by simp), posL_snoc hh]
      rw [go_need]
      refine ⟨by simp only [go_need, go_br, go_leaf, go_back, allSay, X.says, X.ev, X.evs, evl, tblS, List.getD_cons_zero, List.getD_cons_succ, List.getElem?_cons_zero, List.getElem?_cons_succ, tt_b, int_i, str_s, rs_r, Option.isSome_some, Option.getD_some, decide_eq_true_eq, decide_eq_false_iff_not, List.length_map, i_inj, b_inj, s_inj, rng64, List.take_succ_cons, List.take_zero, List.nil_append, List.cons_append, decide_true, decide_false, Bool.or_true, true_and, and_true, dT_eT, eT_0, eT_1, eT_2, eT_3, eT_eq, eT_z, mlen_enc]; omega, key _ _ (vs ++ [t.n]) vs.length (by simp only [List.length_append, List.length_cons, List.length_nil]; omega) e1 (by rw [if_pos h, e2]) ?_ ?_⟩
      · simp only [go_need, go_br, go_leaf, go_back, allSay, X.says, X.ev, X.evs, evl, tblS, List.getD_cons_zero, List.getD_cons_succ, List.getElem?_cons_zero, List.getElem?_cons_succ, tt_b, int_i, str_s, rs_r, Option.isSome_some, Option.getD_some, decide_eq_true_eq, decide_eq_false_iff_not, List.length_map, i_inj, b_inj, s_inj, rng64, List.take_succ_cons, List.take_zero, List.nil_append, List.cons_append, decide_true, decide_false, Bool.or_true, true_and, and_true, dT_eT, eT_0, eT_1, eT_2, eT_3, eT_eq, eT_z, mlen_enc, mput_enc hh]
      · simp only [go_need, go_br, go_leaf, go_back, allSay, X.says, X.ev, X.evs, evl, tblS, List.getD_cons_zero, List.getD_cons_succ, List.getElem?_cons_zero, List.getElem?_cons_succ, tt_b, int_i, str_s, rs_r, Option.isSome_some, Option.getD_some, decide_eq_true_eq, decide_eq_false_iff_not, List.length_map, i_inj, b_inj, s_inj, rng64, List.take_succ_cons, List.take_zero, List.nil_append, List.cons_append, decide_true, decide_false, Bool.or_true, true_and, and_true, dT_eT, eT_0, eT_1, eT_2, eT_3, eT_eq, eT_z, mlen_enc, eT_mk]
        rfl
    · simp only [go_need, go_br, go_leaf, go_back, allSay, X.says, X.ev, X.evs, evl, tblS, List.getD_cons_zero, List.getD_cons_succ, List.getElem?_cons_zero, List.getElem?_cons_succ, tt_b, int_i, str_s, rs_r, Option.isSome_some, Option.getD_some, decide_eq_true_eq, decide_eq_false_iff_not, List.length_map, i_inj, b_inj, s_inj, rng64, List.take_succ_cons, List.take_zero, List.nil_append, List.cons_append, decide_true, decide_false, Bool.or_true, true_and, and_true, dT_eT, eT_0, eT_1, eT_2, eT_3, eT_eq, eT_z, mhas_enc, decide_eq_true_eq, Bool.not_eq_false'] at hh
      have e1 : varsTs vs t.l = varsT vs t := by rw [varsT_t, if_neg fun q => q.2 hh]
      have e2 : posL (varsT vs t) t.n = posL vs t.n := by
        obtain ⟨m, hm⟩ := varsT_pre t vs
        rw [hm, posL_app hh]
      refine key _ _ vs (posL vs t.n) (by omega) e1 (by rw [if_pos h, e2]) ?_ ?_
      · simp only [go_need, go_br, go_leaf, go_back, allSay, X.says, X.ev, X.evs, evl, tblS, List.getD_cons_zero, List.getD_cons_succ, List.getElem?_cons_zero, List.getElem?_cons_succ, tt_b, int_i, str_s, rs_r, Option.isSome_some, Option.getD_some, decide_eq_true_eq, decide_eq_false_iff_not, List.length_map, i_inj, b_inj, s_inj, rng64, List.take_succ_cons, List.take_zero, List.nil_append, List.cons_append, decide_true, decide_false, Bool.or_true, true_and, and_true, dT_eT, eT_0, eT_1, eT_2, eT_3, eT_eq, eT_z]
      · simp only [go_need, go_br, go_leaf, go_back, allSay, X.says, X.ev, X.evs, evl, tblS, List.getD_cons_zero, List.getD_cons_succ, List.getElem?_cons_zero, List.getElem?_cons_succ, tt_b, int_i, str_s, rs_r, Option.isSome_some, Option.getD_some, decide_eq_true_eq, decide_eq_false_iff_not, List.length_map, i_inj, b_inj, s_inj, rng64, List.take_succ_cons, List.take_zero, List.nil_append, List.cons_append, decide_true, decide_false, Bool.or_true, true_and, and_true, dT_eT, eT_0, eT_1, eT_2, eT_3, eT_eq, eT_z, mget_enc hh, eT_mk]
        rfl
  · simp only [go_need, go_br, go_leaf, go_back, allSay, X.says, X.ev, X.evs, evl, tblS, List.getD_cons_zero, List.getD_cons_succ, List.getElem?_cons_zero, List.getElem?_cons_succ, tt_b, int_i, str_s, rs_r, Option.isSome_some, Option.getD_some, decide_eq_true_eq, decide_eq_false_iff_not, List.length_map, i_inj, b_inj, s_inj, rng64, List.take_succ_cons, List.take_zero, List.nil_append, List.cons_append, decide_true, decide_false, Bool.or_true, true_and, and_true, dT_eT, eT_0, eT_1, eT_2, eT_3, eT_eq, eT_z] at h
    refine key _ _ vs t.n (by omega) (by rw [varsT_t, if_neg fun q => h q.1]) (by rw [if_neg h]) ?_ ?_
    · simp only [go_need, go_br, go_leaf, go_back, allSay, X.says, X.ev, X.evs, evl, tblS, List.getD_cons_zero, List.getD_cons_succ, List.getElem?_cons_zero, List.getElem?_cons_succ, tt_b, int_i, str_s, rs_r, Option.isSome_some, Option.getD_some, decide_eq_true_eq, decide_eq_false_iff_not, List.length_map, i_inj, b_inj, s_inj, rng64, List.take_succ_cons, List.take_zero, List.nil_append, List.cons_append, decide_true, decide_false, Bool.or_true, true_and, and_true, dT_eT, eT_0, eT_1, eT_2, eT_3, eT_eq, eT_z]
    · simp only [go_need, go_br, go_leaf, go_back, allSay, X.says, X.ev, X.evs, evl, tblS, List.getD_cons_zero, List.getD_cons_succ, List.getElem?_cons_zero, List.getElem?_cons_succ, tt_b, int_i, str_s, rs_r, Option.isSome_some, Option.getD_some, decide_eq_true_eq, decide_eq_false_iff_not, List.length_map, i_inj, b_inj, s_inj, rng64, List.take_succ_cons, List.take_zero, List.nil_append, List.cons_append, decide_true, decide_false, Bool.or_true, true_and, and_true, dT_eT, eT_0, eT_1, eT_2, eT_3, eT_eq, eT_z, eT_mk]
      rfl
end Go.Proofs.Ytflahdpkkgmpeaa

namespace Go.Proofs.Ytflahdpkkgmpeaa
open Go.RowKit
set_option linter.unusedVariables false
set_option linter.unusedSimpArgs false

abbrev Cla := Te × Te
def eK (c : Cla) : D := .a [eT c.1, eT c.2]
def dK (d : D) : Cla := (dT (d.fld 0), dT (d.fld 1))
theorem dK_eK (c : Cla) : dK (eK c) = c := by
  show (dT (eT c.1), dT (eT c.2)) = c
  rw [dT_eT, dT_eT]
theorem eK_0 (c : Cla) : (eK c).fld 0 = eT c.1 := rfl
theorem eK_1 (c : Cla) : (eK c).fld 1 = eT c.2 := rfl
theorem eK_mk (a b : Te) : D.a [eT a, eT b] = eK (a, b) := rfl
theorem eK_s0 (c : Cla) (a : Te) : D.a ((eK c).fs.set 0 (eT a)) = eK (a, c.2) := rfl
theorem eK_s1 (c : Cla) (a : Te) : D.a ((eK c).fs.set 1 (eT a)) = eK (c.1, a) := rfl
def zK : Cla := (zT, zT)
theorem eK_z : D.a [eT zT, eT zT] = eK zK := rfl
theorem eK_z' : D.a [.a [.i 0, .i 0, .s ⟨#[]⟩, .r []], .a [.i 0, .i 0, .s ⟨#[]⟩, .r []]] = eK zK := rfl
theorem eK_s01 (a b : Te) : D.a (((eK zK).fs.set 0 (eT a)).set 1 (eT b)) = eK (a, b) := rfl
theorem wfK {d : D} (h : Wf d T_Clause) : ∃ c : Cla, d = eK c ∧ okT c.1 ∧ okT c.2 := by
  obtain ⟨ds, rfl, hl⟩ := h.st_of (fs := [T_Term, T_Term]) rfl
  obtain ⟨a, b, rfl, ha, hb⟩ := wfL2 hl
  obtain ⟨x, rfl, hx⟩ := wfT ha
  obtain ⟨y, rfl, hy⟩ := wfT hb
  exact ⟨(x, y), rfl, hx, hy⟩
def fitsK (c : Cla) : Bool := decide (min (szT c.1 : Int) 2001 + min (szT c.2 : Int) 2001 ≤ 2000)
theorem fits_iff (c : Cla) : fitsK c = true ↔ szT c.1 + szT c.2 ≤ 2000 := by
  have h1 := szT_pos c.1
  have h2 := szT_pos c.2
  simp only [fitsK, decide_eq_true_eq]
  omega
def gKb (f : Cla → Bool) : List D → Option (List D)
  | [c] => some [.b (f (dK c))]
  | _ => none
theorem ok_body_fits : FOk ct_body_fits (gKb fitsK) := fok_body_fits ok_term_Size fun ds outs hw hg => by
  obtain ⟨d, r, rfl, hd, rfl⟩ := hw
  obtain ⟨c, rfl, h1, h2⟩ := wfK hd
  simp only [gKb, dK_eK, Option.some.injEq] at hg
  subst hg
  simp only [tree_body_fits, go_need, go_br, go_leaf, go_back, allSay, X.says, X.ev, X.evs, evl, tblS, List.getD_cons_zero, List.getD_cons_succ, List.getElem?_cons_zero, List.getElem?_cons_succ, tt_b, int_i, str_s, rs_r, Option.isSome_some, Option.getD_some, decide_eq_true_eq, decide_eq_false_iff_not, List.length_map, i_inj, b_inj, s_inj, rng64, List.take_succ_cons, List.take_zero, List.nil_append, List.cons_append, decide_true, decide_false, Bool.or_true, true_and, and_true, dT_eT, eT_0, eT_1, eT_2, eT_3, eT_eq, eT_z, eK_0, eK_1, gTi, fitsK]
  omega
/-- The variables of a clause; its canonical form. -/
def varsK (c : Cla) : List Int := varsTs [] [c.1, c.2]
def canK (c : Cla) : Cla := (numT (varsK c) c.1, numT (varsK c) c.2)
def szK (c : Cla) : Nat := szT c.1 + szT c.2
def gCan : List D → Option (List D)
  | [c] => if szK (dK c) ≤ 10000 then some [eK (canK (dK c)), .i ((varsK (dK c)).length : Nat)] else none
  | _ => none
theorem encM_0 : D.mp [] = encM [] := rfl
theorem ok_body_canonical : FOk ct_body_canonical gCan := fok_body_canonical ok_body_number fun ds outs hw hg => by
  obtain ⟨d, r, rfl, hd, rfl⟩ := hw
  obtain ⟨⟨a, b⟩, rfl, h1, h2⟩ := wfK hd
  simp only [gCan, dK_eK, Option.ite_none_right_eq_some, Option.some.injEq] at hg
  obtain ⟨hsz, rfl⟩ := hg
  have hsz : szT a + szT b ≤ 10000 := hsz
  have l1 := varsT_len a []
  have l2 := varsT_len b (varsT [] a)
  simp only [List.length_nil] at l1
  have o1 : okM (encM []) (szT a) = true := by
    rw [okM, decM_encM, Bool.and_eq_true]
    exact ⟨decide_eq_true rfl, decide_eq_true (by simp; omega)⟩
  have o2 : okM (encM (varsT [] a)) (szT b) = true := by
    rw [okM, decM_encM, Bool.and_eq_true]
    exact ⟨decide_eq_true rfl, decide_eq_true (by omega)⟩
  have ev : varsK (a, b) = varsT (varsT [] a) b := rfl
  obtain ⟨m, hm⟩ := varsT_pre b (varsT [] a)
  simp only [tree_body_canonical, go_need, go_br, go_leaf, go_back, allSay, X.says, X.ev, X.evs, evl, tblS, List.getD_cons_zero, List.getD_cons_succ, List.getElem?_cons_zero, List.getElem?_cons_succ, tt_b, int_i, str_s, rs_r, Option.isSome_some, Option.getD_some, decide_eq_true_eq, decide_eq_false_iff_not, List.length_map, i_inj, b_inj, s_inj, rng64, List.take_succ_cons, List.take_zero, List.nil_append, List.cons_append, decide_true, decide_false, Bool.or_true, true_and, and_true, dT_eT, eT_0, eT_1, eT_2, eT_3, eT_eq, eT_z, eK_0, eK_1, encM_0, gNumP, o1, o2, if_true, decM_encM, mlen_enc, eK_z', eK_z, eK_s01, fs_a]
  refine ⟨by omega, ?_⟩
  rw [numT_pre hm, canK, ev]

def clauseC (head rest : Te) : Cla × Te × Int :=
  if head.k = 0 then (zK, instT, 8) else if callT head then (match buildT rest with
    | some g => if szT head + szT g ≤ 2000 then (if (varsK (head, g)).length ≤ 64 then (canK (head, g), zT, 0) else (zK, zT, 2)) else (zK, zT, 2)
    | none => (zK, typeT rest, 8)) else (zK, typeT head, 8)
def ruleB (t : Te) : Bool := (decide (t.k = 3) && decide (t.s = sNeck)) && decide ((t.l.length : Int) = 2)
def clauseT (t : Te) : Cla × Te × Int := if validT t then (if ruleB t then clauseC (t.l.getD 0 default) (t.l.getD 1 default) else clauseC t (atomR sTrue)) else (zK, zT, 1)
def gCla : List D → Option (List D)
  | [t] => some [eK (clauseT (dT t)).1, eT (clauseT (dT t)).2.1, .i (clauseT (dT t)).2.2]
  | _ => none
theorem true_atom : atomT sTrue = atomR sTrue := atomT_ok (by decide)
theorem true_valid : validT (atomR sTrue) = true := atom_valid (by decide)
theorem rule_len {t : Te} (h : ruleB t = true) : t.l.length = 2 := by
  simp only [ruleB, Bool.and_eq_true, decide_eq_true_eq] at h
  omega
theorem can_ok {head g : Te} (h : szT head + szT g ≤ 2000) : gCan [D.a [eT head, eT g]] = some [eK (canK (head, g)), .i ((varsK (head, g)).length : Nat)] := by
  have : szK (head, g) ≤ 10000 := by show szT head + szT g ≤ 10000; omega
  simp only [gCan, eK_mk, dK_eK, if_pos this]
theorem fits_ok (head g : Te) : gKb fitsK [D.a [eT head, eT g]] = some [.b (fitsK (head, g))] := by simp only [gKb, eK_mk, dK_eK]
theorem ok_body_Clause : FOk ct_body_Clause gCla := fok_body_Clause ok_term_Valid ok_term_Atom ok_balls_Inst ok_body_callable ok_balls_Type ok_body_conv ok_body_fits ok_body_canonical fun ds outs hw hg => by
  obtain ⟨d, r, rfl, hd, rfl⟩ := hw
  obtain ⟨t, rfl, ht⟩ := wfT hd
  simp only [gCla, dT_eT, Option.some.injEq] at hg
  subst hg
  cases hv : validT t with
  | false => simp [tree_body_Clause, go_need, go_br, go_leaf, go_back, allSay, X.says, X.ev, X.evs, evl, tblS, List.getD_cons_zero, List.getD_cons_succ, List.getElem?_cons_zero, List.getElem?_cons_succ, tt_b, int_i, str_s, rs_r, Option.isSome_some, Option.getD_some, decide_eq_true_eq, decide_eq_false_iff_not, List.length_map, i_inj, b_inj, s_inj, rng64, List.take_succ_cons, List.take_zero, List.nil_append, List.cons_append, decide_true, decide_false, Bool.or_true, true_and, and_true, dT_eT, eT_0, eT_1, eT_2, eT_3, eT_eq, eT_z, gTb, hv, clauseT, zK, eK]
  | true =>
    cases hr : ruleB t with
    | true =>
      have hl := rule_len hr
      have g0 : (D.r (t.l.map eT)).get 0 = eT (t.l.getD 0 default) := get_t (k := 0) (by omega)
      have g1 : (D.r (t.l.map eT)).get 1 = eT (t.l.getD 1 default) := get_t (k := 1) (by omega)
      have v0 := valid_getD hv (j := 0) (by omega)
      have v1 := valid_getD hv (j := 1) (by omega)
      have hl2 : (t.l.length : Int) = 2 := by omega
      have hr' := hr
      simp only [ruleB, Bool.and_eq_true, decide_eq_true_eq] at hr'
      simp only [clauseT, hv, hr, if_true]
      generalize t.l.getD 0 default = head at *
      generalize t.l.getD 1 default = rest at *
      by_cases h0 : head.k = 0
      · simp [tree_body_Clause, go_need, go_br, go_leaf, go_back, allSay, X.says, X.ev, X.evs, evl, tblS, List.getD_cons_zero, List.getD_cons_succ, List.getElem?_cons_zero, List.getElem?_cons_succ, tt_b, int_i, str_s, rs_r, Option.isSome_some, Option.getD_some, decide_eq_true_eq, decide_eq_false_iff_not, List.length_map, i_inj, b_inj, s_inj, rng64, List.take_succ_cons, List.take_zero, List.nil_append, List.cons_append, decide_true, decide_false, Bool.or_true, true_and, and_true, dT_eT, eT_0, eT_1, eT_2, eT_3, eT_eq, eT_z, gTb, hv, hr'.1.1, hr'.1.2, hl, hl2, g0, g1, gSt, h0, clauseC, zK, eK]
      cases hc : callT head with
      | false => simp [tree_body_Clause, go_need, go_br, go_leaf, go_back, allSay, X.says, X.ev, X.evs, evl, tblS, List.getD_cons_zero, List.getD_cons_succ, List.getElem?_cons_zero, List.getElem?_cons_succ, tt_b, int_i, str_s, rs_r, Option.isSome_some, Option.getD_some, decide_eq_true_eq, decide_eq_false_iff_not, List.length_map, i_inj, b_inj, s_inj, rng64, List.take_succ_cons, List.take_zero, List.nil_append, List.cons_append, decide_true, decide_false, Bool.or_true, true_and, and_true, dT_eT, eT_0, eT_1, eT_2, eT_3, eT_eq, eT_z, gTb, hv, hr'.1.1, hr'.1.2, hl, hl2, g0, g1, gSt, h0, clauseC, zK, eK, hc, gTy]
      | true =>
        cases hb : buildT rest with
        | none => simp [tree_body_Clause, go_need, go_br, go_leaf, go_back, allSay, X.says, X.ev, X.evs, evl, tblS, List.getD_cons_zero, List.getD_cons_succ, List.getElem?_cons_zero, List.getElem?_cons_succ, tt_b, int_i, str_s, rs_r, Option.isSome_some, Option.getD_some, decide_eq_true_eq, decide_eq_false_iff_not, List.length_map, i_inj, b_inj, s_inj, rng64, List.take_succ_cons, List.take_zero, List.nil_append, List.cons_append, decide_true, decide_false, Bool.or_true, true_and, and_true, dT_eT, eT_0, eT_1, eT_2, eT_3, eT_eq, eT_z, gTb, hv, hr'.1.1, hr'.1.2, hl, hl2, g0, g1, gSt, h0, clauseC, zK, eK, hc, gTy, gCv, v1, convT, hb]
        | some g =>
          by_cases hz : szT head + szT g ≤ 2000
          · have hf2 : fitsK (head, g) = true := (fits_iff _).2 hz
            by_cases h64 : (varsK (head, g)).length ≤ 64
            · have h65 : ¬ (64 : Int) < ((varsK (head, g)).length : Nat) := by omega
              simp [tree_body_Clause, go_need, go_br, go_leaf, go_back, allSay, X.says, X.ev, X.evs, evl, tblS, List.getD_cons_zero, List.getD_cons_succ, List.getElem?_cons_zero, List.getElem?_cons_succ, tt_b, int_i, str_s, rs_r, Option.isSome_some, Option.getD_some, decide_eq_true_eq, decide_eq_false_iff_not, List.length_map, i_inj, b_inj, s_inj, rng64, List.take_succ_cons, List.take_zero, List.nil_append, List.cons_append, decide_true, decide_false, Bool.or_true, true_and, and_true, dT_eT, eT_0, eT_1, eT_2, eT_3, eT_eq, eT_z, gTb, hv, hr'.1.1, hr'.1.2, hl, hl2, g0, g1, gSt, h0, clauseC, hc, gTy, gCv, v1, convT, hb, fits_ok, hf2, can_ok hz, hz, h64, h65, tt_b]
            · have h65 : (64 : Int) < ((varsK (head, g)).length : Nat) := by omega
              simp [tree_body_Clause, go_need, go_br, go_leaf, go_back, allSay, X.says, X.ev, X.evs, evl, tblS, List.getD_cons_zero, List.getD_cons_succ, List.getElem?_cons_zero, List.getElem?_cons_succ, tt_b, int_i, str_s, rs_r, Option.isSome_some, Option.getD_some, decide_eq_true_eq, decide_eq_false_iff_not, List.length_map, i_inj, b_inj, s_inj, rng64, List.take_succ_cons, List.take_zero, List.nil_append, List.cons_append, decide_true, decide_false, Bool.or_true, true_and, and_true, dT_eT, eT_0, eT_1, eT_2, eT_3, eT_eq, eT_z, gTb, hv, hr'.1.1, hr'.1.2, hl, hl2, g0, g1, gSt, h0, clauseC, zK, eK, hc, gTy, gCv, v1, convT, hb, fits_ok, hf2, can_ok hz, hz, h64, h65, tt_b]
          · have hf2 : fitsK (head, g) = false := by rw [Bool.eq_false_iff]; exact fun q => hz ((fits_iff _).1 q)
            simp [tree_body_Clause, go_need, go_br, go_leaf, go_back, allSay, X.says, X.ev, X.evs, evl, tblS, List.getD_cons_zero, List.getD_cons_succ, List.getElem?_cons_zero, List.getElem?_cons_succ, tt_b, int_i, str_s, rs_r, Option.isSome_some, Option.getD_some, decide_eq_true_eq, decide_eq_false_iff_not, List.length_map, i_inj, b_inj, s_inj, rng64, List.take_succ_cons, List.take_zero, List.nil_append, List.cons_append, decide_true, decide_false, Bool.or_true, true_and, and_true, dT_eT, eT_0, eT_1, eT_2, eT_3, eT_eq, eT_z, gTb, hv, hr'.1.1, hr'.1.2, hl, hl2, g0, g1, gSt, h0, clauseC, zK, eK, hc, gTy, gCv, v1, convT, hb, fits_ok, hf2, hz, tt_b]
    | false =>
      have hr2 : ((decide (t.k = 3) && decide (t.s = sNeck)) && decide ((t.l.length : Int) = 2)) = false := hr
      simp only [clauseT, hv, hr, if_true]
      have hb : buildT (atomR sTrue) = some (atomR sTrue) := rfl
      have v1 := true_valid
      simp only [tree_body_Clause, go_need, go_br, go_leaf, go_back, allSay, X.says, X.ev, X.evs, evl, tblS, List.getD_cons_zero, List.getD_cons_succ, List.getElem?_cons_zero, List.getElem?_cons_succ, tt_b, int_i, str_s, rs_r, Option.isSome_some, Option.getD_some, decide_eq_true_eq, decide_eq_false_iff_not, List.length_map, i_inj, b_inj, s_inj, rng64, List.take_succ_cons, List.take_zero, List.nil_append, List.cons_append, decide_true, decide_false, Bool.or_true, true_and, and_true, dT_eT, eT_0, eT_1, eT_2, eT_3, eT_eq, eT_z, gTb, hv, hr2, gSt, true_atom]
      generalize atomR sTrue = rest at *
      by_cases h0 : t.k = 0
      · simp [go_need, go_br, go_leaf, go_back, allSay, X.says, X.ev, X.evs, evl, tblS, List.getD_cons_zero, List.getD_cons_succ, List.getElem?_cons_zero, List.getElem?_cons_succ, tt_b, int_i, str_s, rs_r, Option.isSome_some, Option.getD_some, decide_eq_true_eq, decide_eq_false_iff_not, List.length_map, i_inj, b_inj, s_inj, rng64, List.take_succ_cons, List.take_zero, List.nil_append, List.cons_append, decide_true, decide_false, Bool.or_true, true_and, and_true, dT_eT, eT_0, eT_1, eT_2, eT_3, eT_eq, eT_z, gTb, gSt, h0, clauseC, zK, eK]
      cases hc : callT t with
      | false => simp [go_need, go_br, go_leaf, go_back, allSay, X.says, X.ev, X.evs, evl, tblS, List.getD_cons_zero, List.getD_cons_succ, List.getElem?_cons_zero, List.getElem?_cons_succ, tt_b, int_i, str_s, rs_r, Option.isSome_some, Option.getD_some, decide_eq_true_eq, decide_eq_false_iff_not, List.length_map, i_inj, b_inj, s_inj, rng64, List.take_succ_cons, List.take_zero, List.nil_append, List.cons_append, decide_true, decide_false, Bool.or_true, true_and, and_true, dT_eT, eT_0, eT_1, eT_2, eT_3, eT_eq, eT_z, gTb, gSt, h0, clauseC, zK, eK, hc, gTy]
      | true =>
        by_cases hz : szT t + szT rest ≤ 2000
        · have hf2 : fitsK (t, rest) = true := (fits_iff _).2 hz
          by_cases h64 : (varsK (t, rest)).length ≤ 64
          · have h65 : ¬ (64 : Int) < ((varsK (t, rest)).length : Nat) := by omega
            simp [go_need, go_br, go_leaf, go_back, allSay, X.says, X.ev, X.evs, evl, tblS, List.getD_cons_zero, List.getD_cons_succ, List.getElem?_cons_zero, List.getElem?_cons_succ, tt_b, int_i, str_s, rs_r, Option.isSome_some, Option.getD_some, decide_eq_true_eq, decide_eq_false_iff_not, List.length_map, i_inj, b_inj, s_inj, rng64, List.take_succ_cons, List.take_zero, List.nil_append, List.cons_append, decide_true, decide_false, Bool.or_true, true_and, and_true, dT_eT, eT_0, eT_1, eT_2, eT_3, eT_eq, eT_z, gTb, gSt, h0, clauseC, hc, gTy, gCv, v1, convT, hb, fits_ok, hf2, can_ok hz, hz, h64, h65, tt_b]
          · have h65 : (64 : Int) < ((varsK (t, rest)).length : Nat) := by omega
            simp [go_need, go_br, go_leaf, go_back, allSay, X.says, X.ev, X.evs, evl, tblS, List.getD_cons_zero, List.getD_cons_succ, List.getElem?_cons_zero, List.getElem?_cons_succ, tt_b, int_i, str_s, rs_r, Option.isSome_some, Option.getD_some, decide_eq_true_eq, decide_eq_false_iff_not, List.length_map, i_inj, b_inj, s_inj, rng64, List.take_succ_cons, List.take_zero, List.nil_append, List.cons_append, decide_true, decide_false, Bool.or_true, true_and, and_true, dT_eT, eT_0, eT_1, eT_2, eT_3, eT_eq, eT_z, gTb, gSt, h0, clauseC, zK, eK, hc, gTy, gCv, v1, convT, hb, fits_ok, hf2, can_ok hz, hz, h64, h65, tt_b]
        · have hf2 : fitsK (t, rest) = false := by rw [Bool.eq_false_iff]; exact fun q => hz ((fits_iff _).1 q)
          simp [go_need, go_br, go_leaf, go_back, allSay, X.says, X.ev, X.evs, evl, tblS, List.getD_cons_zero, List.getD_cons_succ, List.getElem?_cons_zero, List.getElem?_cons_succ, tt_b, int_i, str_s, rs_r, Option.isSome_some, Option.getD_some, decide_eq_true_eq, decide_eq_false_iff_not, List.length_map, i_inj, b_inj, s_inj, rng64, List.take_succ_cons, List.take_zero, List.nil_append, List.cons_append, decide_true, decide_false, Bool.or_true, true_and, and_true, dT_eT, eT_0, eT_1, eT_2, eT_3, eT_eq, eT_z, gTb, gSt, h0, clauseC, zK, eK, hc, gTy, gCv, v1, convT, hb, fits_ok, hf2, hz, tt_b]
end Go.Proofs.Ytflahdpkkgmpeaa
