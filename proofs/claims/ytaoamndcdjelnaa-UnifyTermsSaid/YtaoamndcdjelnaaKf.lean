/-
 Lemmas of the walk and plain laws, put together. No condition.
-/
import Derived.Test.YtaoamndcdjelnaaKe
namespace Go.Proofs.Ytaoamndcdjelnaa
open Go.RowKit
set_option linter.unusedVariables false
set_option linter.unusedSimpArgs false
set_option maxRecDepth 100000
set_option linter.unusedSectionVars false
inductive Te where
 | mk (k n : Int) (s : ByteArray) (l : List Te)
instance : Inhabited Te := ⟨.mk 0 0 ⟨#[]⟩ []⟩
def Te.k : Te → Int | .mk k _ _ _ => k
def Te.n : Te → Int | .mk _ n _ _ => n
def Te.s : Te → ByteArray | .mk _ _ s _ => s
def Te.l : Te → List Te | .mk _ _ _ l => l
mutual
theorem Te.ind0 {P : Te → Prop} (h : ∀ k n s l, (∀ t ∈ l, P t) → P (.mk k n s l)) : ∀ t, P t
 | .mk k n s l => h k n s l (Te.inds h l)
theorem Te.inds {P : Te → Prop} (h : ∀ k n s l, (∀ t ∈ l, P t) → P (.mk k n s l)) : ∀ (l : List Te), ∀ t ∈ l, P t
 | [], _, ht => by cases ht
 | u :: l, t, ht => by
  exact (List.mem_cons.1 ht).elim (fun e => e ▸ Te.ind0 h u) fun h' => Te.inds h l t h'
end
theorem Te.ind {P : Te → Prop} (h : ∀ k n s l, (∀ t ∈ l, P t) → P (.mk k n s l)) (t : Te) : P t := Te.ind0 h t
mutual
def eT : Te → D
 | .mk k n s l => .a [.i k, .i n, .s s, .r (eTs l)]
def eTs : List Te → List D
 | [] => []
 | t :: l => eT t :: eTs l
end
theorem z4b : ∀ l, eTs l = l.map eT
 | [] => rfl
 | t :: l => by rw [eTs, z4b l, List.map_cons]
theorem qkq (k n : Int) (s : ByteArray) (l : List Te) : eT (.mk k n s l) = .a [.i k, .i n, .s s, .r (l.map eT)] := by rw [eT, z4b]
mutual
def dT : D → Te
 | .a [.i k, .i n, .s s, .r l] => .mk k n s (dTs l)
 | _ => .mk 0 0 ⟨#[]⟩ []
def dTs : List D → List Te
 | [] => []
 | d :: l => dT d :: dTs l
end
mutual
theorem zb : ∀ t, dT (eT t) = t
 | .mk k n s l => by simp only [eT, dT, z4v l]
theorem z4v : ∀ l, dTs (eTs l) = l
 | [] => rfl
 | t :: l => by simp only [eTs, dTs, zb t, z4v l]
end
theorem zho {t u : Te} (h : eT t = eT u) : t = u := by rw [← zb t, h, zb u]
theorem zg6 (t u : Te) : (eT t = eT u) = (t = u) := propext ⟨zho, fun h => h ▸ rfl⟩
theorem zhw (t : Te) : (eT t).fld 0 = .i t.k := by cases t; rfl
theorem zgn (t : Te) : (eT t).fld 1 = .i t.n := by cases t; rfl
theorem zhp (t : Te) : (eT t).fld 2 = .s t.s := by cases t; rfl
theorem zj3 (t : Te) : (eT t).fld 3 = .r (t.l.map eT) := by cases t; rw [qkq]; rfl
theorem qnl (k n : Int) (s : ByteArray) (l : List Te) (x : Te) : D.a ((eT (.mk k n s l)).fs.set 3 (.r (l.map eT ++ [eT x]))) = eT (.mk k n s (l ++ [x])) := by
 rw [qkq, qkq]
 simp [D.fs]
def zT : Te := .mk 0 0 ⟨#[]⟩ []
theorem zh2 : D.a [.i 0, .i 0, .s ⟨#[]⟩, .r []] = eT zT := rfl
theorem gnT : type_of% (And.intro @zb (And.intro @zhw (And.intro @zgn (And.intro @zhp (And.intro @zj3 (And.intro @zg6 @zh2)))))) := And.intro @zb (And.intro @zhw (And.intro @zgn (And.intro @zhp (And.intro @zj3 (And.intro @zg6 @zh2)))))
mutual
def szT : Te → Nat
 | .mk _ _ _ l => q02 l + 1
def q02 : List Te → Nat
 | [] => 0
 | t :: l => szT t + q02 l
end
theorem qca (t : Te) : 1 ≤ szT t := by cases t; rw [szT]; omega
theorem z15 {t : Te} : ∀ {l : List Te}, t ∈ l → szT t ≤ q02 l
 | u :: l, h => by
  rcases List.mem_cons.1 h with rfl | h
  ·rw [q02]; omega
  ·have := z15 h; rw [q02]; omega
theorem z5q {t u : Te} (h : u ∈ t.l) : szT u < szT t := by
 cases t
 have := z15 h
 rw [szT]
 exact Nat.lt_succ_of_le this
theorem qas : ∀ (l m : List Te), q02 (l ++ m) = q02 l + q02 m
 | [], m => by simp [q02]
 | t :: l, m => by rw [List.cons_append, q02, q02, qas l m]; omega
theorem qhu {l : List Te} {k : Nat} (h : k < l.length) : q02 (l.take (k + 1)) = q02 (l.take k) + szT (l.getD k default) := by
 rw [q8x h, qas]
 simp [q02]
theorem qft : ∀ (l : List Te), l.length ≤ q02 l
 | [] => Nat.le_refl _
 | t :: l => by have := qft l; have := qca t; rw [q02, List.length_cons]; omega
theorem qp3 (t : Te) : szT t = q02 t.l + 1 := by cases t; rw [szT]; rfl
mutual
def okT : Te → Prop
 | .mk k n s l => i64 k ∧ i64 n ∧ s.size ≤ LIM ∧ l.length ≤ 2513169434843 ∧ zem l
def zem : List Te → Prop
 | [] => True
 | t :: l => okT t ∧ zem l
end
theorem z0t : ∀ {l : List Te}, zem l ↔ ∀ t ∈ l, okT t
 | [] => ⟨fun _ t h => (by cases h), fun _ => trivial⟩
 | t :: l => by rw [zem, z0t]; simp
theorem zbl {k n : Int} {s : ByteArray} {l : List Te} : okT (.mk k n s l) ↔ i64 k ∧ i64 n ∧ s.size ≤ LIM ∧ l.length ≤ 2513169434843 ∧ ∀ t ∈ l, okT t := by rw [okT, z0t]
theorem okT.l {t : Te} (h : okT t) : t.l.length ≤ 2513169434843 := by cases t; exact (zbl.1 h).2.2.2.1
theorem zfg (d : D) : (Wf d qe5 → ∃ t, d = eT t ∧ okT t) ∧ (Wf d qno → ∃ l : List Te, d = .r (l.map eT) ∧ l.length ≤ 2513169434843 ∧ ∀ t ∈ l, okT t) := by
 have noS : ∀ {d : D}, Wf d qe5 → ∃ l, d = .a l := fun h => let ⟨l, e, _⟩ := h.st_of (fs := [.int .i64, .int .i64, .str, qno]) rfl; ⟨l, e⟩
 have noR : ∀ {d : D}, Wf d qno → ∃ l, d = .r l := fun h => let ⟨l, e, _⟩ := h.row_of (te := qe5) rfl; ⟨l, e⟩
 induction d using D.ind with
 | hu => exact ⟨fun h => (by obtain ⟨_, e⟩ := noS h; cases e), fun h => (by obtain ⟨_, e⟩ := noR h; cases e)⟩
 | hi n => exact ⟨fun h => (by obtain ⟨_, e⟩ := noS h; cases e), fun h => (by obtain ⟨_, e⟩ := noR h; cases e)⟩
 | hb n => exact ⟨fun h => (by obtain ⟨_, e⟩ := noS h; cases e), fun h => (by obtain ⟨_, e⟩ := noR h; cases e)⟩
 | hs n => exact ⟨fun h => (by obtain ⟨_, e⟩ := noS h; cases e), fun h => (by obtain ⟨_, e⟩ := noR h; cases e)⟩
 | hm n => exact ⟨fun h => (by obtain ⟨_, e⟩ := noS h; cases e), fun h => (by obtain ⟨_, e⟩ := noR h; cases e)⟩
 | ha l ih =>
  refine ⟨fun h => ?_, fun h => (by obtain ⟨_, e⟩ := noR h; cases e)⟩
  obtain ⟨ds, e, hl⟩ := h.st_of (fs := [.int .i64, .int .i64, .str, qno]) rfl
  injection e with e
  subst e
  obtain ⟨d0, r, rfl, h0, hl⟩ := q7e hl
  obtain ⟨d1, r, rfl, h1, hl⟩ := q7e hl
  obtain ⟨d2, d3, rfl, h2, h3⟩ := qvi hl
  obtain ⟨k, rfl, hk⟩ := wfI h0
  obtain ⟨n, rfl, hn⟩ := wfI h1
  obtain ⟨s, rfl, hs⟩ := h2.str
  obtain ⟨ts, rfl, h4, h5⟩ := (ih d3 (by simp)).2 h3
  exact ⟨.mk k n s ts, (qkq _ _ _ _).symm, zbl.2 ⟨hk, hn, hs, h4, h5⟩⟩
 | hr l ih =>
  refine ⟨fun h => (by obtain ⟨_, e⟩ := noS h; cases e), fun h => ?_⟩
  obtain ⟨l', e, h1, h2⟩ := h.row_of (te := qe5) rfl
  injection e with e
  subst e
  obtain ⟨m, rfl, h3⟩ := q95 (e := eT) (P := okT) fun x hx => (ih x hx).1 (h2 x hx)
  have e : LM qe5 = 2513169434843 := by kernel_rfl
  rw [e, List.length_map] at h1
  exact ⟨m, rfl, h1, h3⟩
theorem wfT {d : D} (h : Wf d qe5) : ∃ t, d = eT t ∧ okT t := (zfg d).1 h
def q2y (t : Te) : Bool :=
 if t.k = 0 then decide (0 ≤ t.n) && (decide (t.n ≤ 1099511627776) && (decide (t.s = ⟨#[]⟩) && decide ((t.l.length : Int) = 0)))
 else if t.k = 1 then decide (t.s = ⟨#[]⟩) && decide ((t.l.length : Int) = 0)
 else if t.k = 2 then decide (t.n = 0) && (decide ((t.s.size : Int) ≤ 100) && decide ((t.l.length : Int) = 0))
 else if t.k = 3 then decide (t.n = 0) && (decide ((t.s.size : Int) ≤ 100) && (decide (1 ≤ (t.l.length : Int)) && decide ((t.l.length : Int) ≤ 8)))
 else false
mutual
def qu : Te → Bool
 | .mk k n s l => q2y (.mk k n s l) && zj l
def zj : List Te → Bool
 | [] => true
 | t :: l => qu t && zj l
end
theorem q7z : ∀ {l : List Te}, zj l = true ↔ ∀ t ∈ l, qu t = true
 | [] => ⟨fun _ t h => (by cases h), fun _ => rfl⟩
 | t :: l => by rw [zj, Bool.and_eq_true, q7z]; simp
theorem qq0 (t : Te) : qu t = (q2y t && (List.range t.l.length).all fun i => qu (t.l.getD i default)) := by
 cases t with
 | mk k n s l =>
  rw [qu]
  congr 1
  rw [Bool.eq_iff_iff, q7z, List.all_eq_true]
  refine ⟨fun h i hi => h _ (q19 (List.mem_range.1 hi)), fun h t ht => ?_⟩
  obtain ⟨i, hi, rfl⟩ := List.getElem_of_mem ht
  have := h i (List.mem_range.2 hi)
  rwa [show (Te.mk k n s l).l.getD i default = l[i] by simp [Te.l, List.getD_eq_getElem?_getD, List.getElem?_eq_getElem hi]] at this
def qi (t : Te) : Bool := decide (szT t ≤ 2000) && qu t
mutual
def idT : Te → Te → Bool
 | .mk k n s l, .mk k' n' s' l' => decide (k = k') && (decide (n = n') && (decide (s = s') && z2t l l'))
def z2t : List Te → List Te → Bool
 | [], [] => true
 | t :: l, u :: m => idT t u && z2t l m
 | _, _ => false
end
mutual
theorem q98 : ∀ (t u : Te), idT t u = true ↔ t = u
 | .mk k n s l, .mk k' n' s' l' => by simp [idT, qyi l l']
theorem qyi : ∀ (l m : List Te), z2t l m = true ↔ l = m
 | [], [] => by simp [z2t]
 | t :: l, u :: m => by simp [z2t, q98 t u, qyi l m]
 | [], _ :: _ => by simp [z2t]
 | _ :: _, [] => by simp [z2t]
end
instance : DecidableEq Te := fun t u => if h : idT t u = true then .isTrue ((q98 t u).1 h) else .isFalse fun e => h ((q98 t u).2 e)
def mT (ds : List D) : Nat := szT (dT (ds.getD 0 .u))
def zeh : List D → Option (List D)
 | [t, m] => if 1 ≤ m.int then some [.i (min (szT (dT t) : Int) m.int)] else none
 | _ => none
def gTi (f : Te → Int) : List D → Option (List D)
 | [t] => some [.i (f (dT t))]
 | _ => none
def gTb (f : Te → Bool) : List D → Option (List D)
 | [t] => some [.b (f (dT t))]
 | _ => none
def gTT (f : Te → Te) : List D → Option (List D)
 | [t] => some [eT (f (dT t))]
 | _ => none
def qpv (f : Te → Te → Bool) : List D → Option (List D)
 | [t, v] => some [.b (f (dT t) (dT v))]
 | _ => none
theorem zd5 (k n : Int) (s : ByteArray) (l : List Te) : (Te.mk k n s l).l = l := rfl
theorem q87 {l : List Te} {k : Nat} (h : k < l.length) : (D.r (l.map eT)).get (k : Int) = eT (l.getD k default) := q27 eT h
theorem q6y {t : Te} {k : Nat} (h : k < t.l.length) : szT (t.l.getD k default) < szT t := z5q (q19 h)
theorem qr9 : FOk ye zeh := q2t (m := mT) q89 fun N ih => qmq ih fun ds outs hw hg => by
 obtain ⟨d, r, rfl, hd, e, r', rfl, he, rfl⟩ := hw
 obtain ⟨t, rfl, ht⟩ := wfT hd
 obtain ⟨m, rfl, hm⟩ := wfI he
 simp only [q15, mT, zeh, List.getD_cons_zero, zb, z5, Option.ite_none_right_eq_some, Option.some.injEq] at hg
 obtain ⟨hsz, h1, rfl⟩ := hg
 have hl := ht.l
 rw [q4u, zi]
 refine ⟨fun st => ∃ k : Nat, k ≤ t.l.length ∧ st = [.i (min ((q02 (t.l.take k) : Int) + 1) m), .i k], fun st => t.l.length - (st.getD 1 .u).int.toNat, ⟨0, Nat.zero_le _, by simp [X.evs, X.ev, q02]; omega⟩, ?_⟩
 rintro st - ⟨k, hk, rfl⟩
 rw [qd]
 refine ⟨fun hlt => ?_, fun hlt => ?_⟩
 ·simp only [q9, qd, qa, qb, qc, X.says, X.ev, X.evs, evl, qe, gnA, gnT, Bool.and_eq_true] at hlt
  obtain ⟨hkl, hlm⟩ := hlt
  have hkl' : k < t.l.length := by omega
  have ha := q6y hkl'
  have hs := qhu hkl'
  have hmn : 1 ≤ m - min ((q02 (t.l.take k) : Int) + 1) m := by omega
  simp only [q9, qd, qa, qb, qc, X.says, X.ev, X.evs, evl, qe, gnA, gnT, q87 hkl', q15, mT, zeh, if_pos hmn, if_pos (show szT (t.l.getD k default) < N by omega)]
  refine ⟨⟨by omega, by omega, by omega, by omega⟩, ⟨by omega, by omega⟩, ?_⟩
  rw [jm, if_pos rfl]
  refine ⟨⟨k + 1, by omega, ?_⟩, ?_⟩
  ·rw [hs]
   simp
   omega
  ·simp [D.int]
   omega
 ·simp only [q9, qd, qa, qb, qc, X.says, X.ev, X.evs, evl, qe, gnA, gnT, Bool.and_eq_false_iff] at hlt
  simp only [q9, qd, qa, qb, qc, X.says, X.ev, X.evs, evl, qe, gnA, gnT]
  have hz := qp3 t
  have : min ((q02 (t.l.take k) : Int) + 1) m = min (szT t : Int) m := by
   rcases hlt with h | h
   ·have : k = t.l.length := by omega
    subst this
    rw [List.take_length]
    omega
   ·have h2 := qas (t.l.take k) (t.l.drop k)
    rw [List.take_append_drop] at h2
    omega
  rw [this]
theorem qsr : FOk q0f (gTi fun t => min (szT t : Int) 2001) := qpq qr9 fun ds outs hw hg => by
 obtain ⟨d, r, rfl, hd, rfl⟩ := hw
 obtain ⟨t, rfl, ht⟩ := wfT hd
 simp only [gTi, zb, Option.some.injEq] at hg
 subst hg
 simp [q68, q9, qd, qa, qb, qc, X.says, X.ev, X.evs, evl, qe, gnA, gnT, zeh]
theorem qsd : FOk q0h (gTb q2y) := qpe fun ds outs hw hg => by
 obtain ⟨d, r, rfl, hd, rfl⟩ := hw
 obtain ⟨t, rfl, ht⟩ := wfT hd
 simp only [gTb, zb, Option.some.injEq] at hg
 subst hg
 simp only [q5y, q9, qd, qa, qb, qc, X.says, X.ev, X.evs, evl, qe, gnA, gnT, q2y]
 by_cases h0 : t.k = 0
 ·simp [h0, Bool.and_assoc]
 ·by_cases h1 : t.k = 1
  ·simp [h1]
  ·by_cases h2 : t.k = 2
   ·simp [h2, Bool.and_assoc]
   ·by_cases h3 : t.k = 3
    ·simp [h3, Bool.and_assoc]
    ·simp [h0, h1, h2, h3]
theorem q3z (t : Te) : qu t = true ↔ q2y t = true ∧ ∀ j, j < t.l.length → qu (t.l.getD j default) = true := by
 rw [qq0, Bool.and_eq_true, List.all_eq_true]
 simp
theorem qpy : FOk yl (gTb qu) := q2t (m := mT) q8c fun N ih => qlv qsd ih fun ds outs hw hg => by
 obtain ⟨d, r, rfl, hd, rfl⟩ := hw
 obtain ⟨t, rfl, ht⟩ := wfT hd
 simp only [q15, mT, gTb, List.getD_cons_zero, zb, z5, Option.ite_none_right_eq_some, Option.some.injEq] at hg
 obtain ⟨hsz, rfl⟩ := hg
 have hl := ht.l
 simp only [q53, q9, qd, qa, qb, qc, X.says, X.ev, X.evs, evl, qe, gnA, gnT, gTb]
 refine ⟨fun hn => ?_, fun hn => ?_⟩
 ·rw [qq0, show q2y t = false by simpa using hn]
  rfl
 have hn : q2y t = true := by simpa using hn
 rw [zi]
 refine ⟨fun st => ∃ k : Nat, k ≤ t.l.length ∧ st = [.b false, .i k] ∧ ∀ j, j < k → qu (t.l.getD j default) = true, fun st => t.l.length - (st.getD 1 .u).int.toNat, ⟨0, Nat.zero_le _, rfl, fun j hj => absurd hj (Nat.not_lt_zero _)⟩, ?_⟩
 rintro st - ⟨k, hk, rfl, hP⟩
 rw [qd]
 refine ⟨fun hlt => ?_, fun hlt => ?_⟩
 ·simp only [q9, qd, qa, qb, qc, X.says, X.ev, X.evs, evl, qe, gnA, gnT] at hlt
  have hkl' : k < t.l.length := by omega
  have ha := q6y hkl'
  simp only [q9, qd, qa, qb, qc, X.says, X.ev, X.evs, evl, qe, gnA, gnT, q87 hkl', q15, mT, gTb, if_pos (show szT (t.l.getD k default) < N by omega)]
  refine ⟨⟨by omega, by omega⟩, fun hx => ?_, fun hx => ⟨⟨by omega, by omega⟩, ?_⟩⟩
  ·have : qu t = false := by
    cases hh : qu t with
    | false => rfl
    | true => rw [((q3z t).1 hh).2 k hkl'] at hx; cases hx
   rw [this]
  ·rw [jm, if_pos rfl]
   refine ⟨⟨k + 1, by omega, by simp, q4q hP (by simpa using hx)⟩, ?_⟩
   simp [D.int]
   omega
 ·simp only [q9, qd, qa, qb, qc, X.says, X.ev, X.evs, evl, qe, gnA, gnT] at hlt ⊢
  have : k = t.l.length := by omega
  subst this
  rw [(q3z t).2 ⟨hn, hP⟩]
theorem q0s : FOk qm (gTb qi) := ql7 qsr qpy fun ds outs hw hg => by
 obtain ⟨d, r, rfl, hd, rfl⟩ := hw
 obtain ⟨t, rfl, ht⟩ := wfT hd
 simp only [gTb, zb, Option.some.injEq] at hg
 subst hg
 have e : decide (min (szT t : Int) 2001 ≤ 2000) = decide (szT t ≤ 2000) := by rw [decide_eq_decide]; omega
 simp [q4r, q9, qd, qa, qb, qc, X.says, X.ev, X.evs, evl, qe, gnA, gnT, gTi, gTb, qi, e]
theorem qpt {t u : Te} : idT t u = true ↔ t.k = u.k ∧ t.n = u.n ∧ t.s = u.s ∧ t.l.length = u.l.length ∧ ∀ j, j < t.l.length → idT (t.l.getD j default) (u.l.getD j default) = true := by
 rw [q98]
 cases t with
 | mk k n s l =>
  cases u with
  | mk k' n' s' l' =>
   simp only [Te.k, Te.n, Te.s, Te.l, Te.mk.injEq, q98]
   refine ⟨?_, ?_⟩
   ·rintro ⟨rfl, rfl, rfl, rfl⟩
    exact ⟨rfl, rfl, rfl, rfl, fun _ _ => rfl⟩
   ·rintro ⟨rfl, rfl, rfl, h1, h2⟩
    refine ⟨rfl, rfl, rfl, List.ext_getElem h1 fun i hi hi' => ?_⟩
    have := h2 i hi
    simpa [List.getD_eq_getElem?_getD, List.getElem?_eq_getElem hi, List.getElem?_eq_getElem hi'] using this
theorem q7c : FOk qw (qpv idT) := q2t (m := mT) q4l fun N ih => qd7 ih fun ds outs hw hg => by
 obtain ⟨d, r, rfl, hd, e, r', rfl, he, rfl⟩ := hw
 obtain ⟨t, rfl, ht⟩ := wfT hd
 obtain ⟨u, rfl, hu⟩ := wfT he
 simp only [q15, mT, qpv, List.getD_cons_zero, zb, z5, Option.ite_none_right_eq_some, Option.some.injEq] at hg
 obtain ⟨hsz, rfl⟩ := hg
 have hl := ht.l
 have no : (¬ idT t u = true) → [D.b false] = [D.b (idT t u)] := fun h => by rw [Bool.eq_false_iff.2 h]
 simp only [q2p, q9, qd, qa, qb, qc, X.says, X.ev, X.evs, evl, qe, gnA, gnT, qpv]
 refine ⟨fun hn => no fun h => ?_, fun hn => ?_⟩
 ·obtain ⟨e1, e2, e3, e4, -⟩ := qpt.1 h
  simp [e1, e2, e3, e4] at hn
 simp only [Bool.or_eq_false_iff, Bool.not_eq_false', decide_eq_true_eq] at hn
 obtain ⟨⟨⟨e1, e2⟩, e3⟩, e4⟩ := hn
 have e4 : t.l.length = u.l.length := by omega
 rw [zi]
 refine ⟨fun st => ∃ k : Nat, k ≤ t.l.length ∧ st = [.b false, .i k] ∧ ∀ j, j < k → idT (t.l.getD j default) (u.l.getD j default) = true, fun st => t.l.length - (st.getD 1 .u).int.toNat, ⟨0, Nat.zero_le _, rfl, fun j hj => absurd hj (Nat.not_lt_zero _)⟩, ?_⟩
 rintro st - ⟨k, hk, rfl, hP⟩
 rw [qd]
 refine ⟨fun hlt => ?_, fun hlt => ?_⟩
 ·simp only [q9, qd, qa, qb, qc, X.says, X.ev, X.evs, evl, qe, gnA, gnT] at hlt
  have hkl' : k < t.l.length := by omega
  have hku' : k < u.l.length := by omega
  have ha := q6y hkl'
  simp only [q9, qd, qa, qb, qc, X.says, X.ev, X.evs, evl, qe, gnA, gnT, q87 hkl', q87 hku', q15, mT, qpv, if_pos (show szT (t.l.getD k default) < N by omega)]
  refine ⟨⟨by omega, by omega, by omega, by omega⟩, fun hx => no fun h => ?_, fun hx => ⟨⟨by omega, by omega⟩, ?_⟩⟩
  ·rw [(qpt.1 h).2.2.2.2 k hkl'] at hx
   cases hx
  ·rw [jm, if_pos rfl]
   refine ⟨⟨k + 1, by omega, by simp, q4q hP (by simpa using hx)⟩, ?_⟩
   simp [D.int]
   omega
 ·simp only [q9, qd, qa, qb, qc, X.says, X.ev, X.evs, evl, qe, gnA, gnT] at hlt ⊢
  have : k = t.l.length := by omega
  subst this
  rw [qpt.2 ⟨e1, e2, e3, e4, hP⟩]
def z5k (t u : Te) : Bool := qi t && (qi u && idT t u)
theorem qry : FOk q0i (qpv z5k) := qqa q0s q7c fun ds outs hw hg => by
 obtain ⟨d, r, rfl, hd, e, r', rfl, he, rfl⟩ := hw
 obtain ⟨t, rfl, ht⟩ := wfT hd
 obtain ⟨u, rfl, hu⟩ := wfT he
 simp only [qpv, zb, Option.some.injEq] at hg
 subst hg
 simp [q5v, q9, qd, qa, qb, qc, X.says, X.ev, X.evs, evl, qe, gnA, gnT, gTb, qpv, z5k, Bool.and_assoc]
def ze3 : List D → Option (List D)
 | [t, m] => if 1 ≤ m.int then some [.i (m.int - min (szT (dT t) : Int) m.int)] else none
 | _ => none
theorem qq1 : FOk yo ze3 := q2t (m := mT) q7t fun N ih => qm8 ih fun ds outs hw hg => by
 obtain ⟨d, r, rfl, hd, e, r', rfl, he, rfl⟩ := hw
 obtain ⟨t, rfl, ht⟩ := wfT hd
 obtain ⟨m, rfl, hm⟩ := wfI he
 simp only [q15, mT, ze3, List.getD_cons_zero, zb, z5, Option.ite_none_right_eq_some, Option.some.injEq] at hg
 obtain ⟨hsz, h1, rfl⟩ := hg
 have hl := ht.l
 rw [q4x, q9]
 refine ⟨by simp only [q9, qd, qa, qb, qc, X.says, X.ev, X.evs, evl, qe, gnA, gnT]; omega, ?_⟩
 rw [zi]
 refine ⟨fun st => ∃ k : Nat, k ≤ t.l.length ∧ st = [.i k, .i (m - min ((q02 (t.l.take k) : Int) + 1) m)], fun st => t.l.length - (st.getD 0 .u).int.toNat, ⟨0, Nat.zero_le _, by simp [X.evs, X.ev, q02, evl, D.int]; omega⟩, ?_⟩
 rintro st - ⟨k, hk, rfl⟩
 rw [qd]
 refine ⟨fun hlt => ?_, fun hlt => ?_⟩
 ·simp only [q9, qd, qa, qb, qc, X.says, X.ev, X.evs, evl, qe, gnA, gnT, Bool.and_eq_true] at hlt
  obtain ⟨hkl, hlm⟩ := hlt
  have hkl' : k < t.l.length := by omega
  have ha := q6y hkl'
  have hs := qhu hkl'
  have hmn : 1 ≤ m - min ((q02 (t.l.take k) : Int) + 1) m := by omega
  simp only [q9, qd, qa, qb, qc, X.says, X.ev, X.evs, evl, qe, gnA, gnT, q87 hkl', q15, mT, ze3, if_pos hmn, if_pos (show szT (t.l.getD k default) < N by omega)]
  refine ⟨⟨by omega, by omega⟩, ⟨by omega, by omega⟩, ?_⟩
  rw [jm, if_pos rfl]
  refine ⟨⟨k + 1, by omega, ?_⟩, ?_⟩
  ·rw [hs]
   simp
   omega
  ·simp [D.int]
   omega
 ·simp only [q9, qd, qa, qb, qc, X.says, X.ev, X.evs, evl, qe, gnA, gnT, Bool.and_eq_false_iff] at hlt
  simp only [q9, qd, qa, qb, qc, X.says, X.ev, X.evs, evl, qe, gnA, gnT]
  have hz := qp3 t
  have : m - min ((q02 (t.l.take k) : Int) + 1) m = m - min (szT t : Int) m := by
   rcases hlt with h | h
   ·have : k = t.l.length := by omega
    subst this
    rw [List.take_length]
    omega
   ·have h2 := qas (t.l.take k) (t.l.drop k)
    rw [List.take_append_drop] at h2
    omega
  rw [this]
theorem qvz : FOk q11 (gTi fun t => min (szT t : Int) 2001) := qsx qq1 fun ds outs hw hg => by
 obtain ⟨d, r, rfl, hd, rfl⟩ := hw
 obtain ⟨t, rfl, ht⟩ := wfT hd
 simp only [gTi, zb, Option.some.injEq] at hg
 subst hg
 simp [q6t, q9, qd, qa, qb, qc, X.says, X.ev, X.evs, evl, qe, gnA, gnT, ze3]
 omega
theorem qxs : FOk yb (gTb qu) := q2t (m := mT) qa5 fun N ih => qsa ih fun ds outs hw hg => by
 obtain ⟨d, r, rfl, hd, rfl⟩ := hw
 obtain ⟨t, rfl, ht⟩ := wfT hd
 simp only [q15, mT, gTb, List.getD_cons_zero, zb, z5, Option.ite_none_right_eq_some, Option.some.injEq] at hg
 obtain ⟨hsz, rfl⟩ := hg
 have hl := ht.l
 have key : ∀ (x : X), x.ev (evl (qe [(yb, q15 mT N (gTb qu))]) [eT t]) = .b (q2y t) → Tree.go (qe [(yb, q15 mT N (gTb qu))]) (fun o => o = [D.b (qu t)]) (.loop 12 1 [x, (.lit (.i 0))] (.br (.and (.lt (.tok 2) (.len (.fld (.tok 0) 3))) (.tok 1)) (.need [(.le (.lit (.i 0)) (.tok 2)), (.lt (.tok 2) (.len (.fld (.tok 0) 3))), (.ok 0 [(.get (.fld (.tok 0) 3) (.tok 2))])] (.need [(.rng .i64 (.add (.tok 2) (.lit (.i 1))))] (.back 12 [(.call 0 0 [(.get (.fld (.tok 0) 3) (.tok 2))]), (.add (.tok 2) (.lit (.i 1)))]))) (.leaf [(.tok 1)]))) [eT t] fun _ _ => False := by
  intro x hx
  rw [zi]
  refine ⟨fun st => ∃ (k : Nat) (v : Bool), k ≤ t.l.length ∧ st = [.b v, .i k] ∧ (v = true ↔ q2y t = true ∧ ∀ j, j < k → qu (t.l.getD j default) = true), fun st => t.l.length - (st.getD 1 .u).int.toNat, ⟨0, q2y t, Nat.zero_le _, by simp only [X.evs, hx, X.ev]; rfl, by simp⟩, ?_⟩
  rintro st - ⟨k, v, hk, rfl, hv⟩
  rw [qd]
  refine ⟨fun hlt => ?_, fun hlt => ?_⟩
  ·simp only [q9, qd, qa, qb, qc, X.says, X.ev, X.evs, evl, qe, gnA, gnT, Bool.and_eq_true] at hlt
   obtain ⟨hlt, rfl⟩ := hlt
   have hkl' : k < t.l.length := by omega
   have ha := q6y hkl'
   simp only [q9, qd, qa, qb, qc, X.says, X.ev, X.evs, evl, qe, gnA, gnT, q87 hkl', q15, mT, gTb, if_pos (show szT (t.l.getD k default) < N by omega)]
   refine ⟨⟨by omega, by omega⟩, ⟨by omega, by omega⟩, ?_⟩
   rw [jm, if_pos rfl]
   have hv' := hv.1 rfl
   refine ⟨⟨k + 1, _, by omega, rfl, ⟨fun h => ⟨hv'.1, q4q hv'.2 h⟩, fun h => h.2 k (Nat.lt_succ_self _)⟩⟩, ?_⟩
   simp [D.int]
   omega
  ·simp only [q9, qd, qa, qb, qc, X.says, X.ev, X.evs, evl, qe, gnA, gnT, Bool.and_eq_false_iff] at hlt
   simp only [q9, qd, qa, qb, qc, X.says, X.ev, X.evs, evl, qe, gnA, gnT]
   rw [show v = qu t from ?_]
   cases hvv : v with
   | false =>
    cases hh : qu t with
    | false => rfl
    | true =>
     have h2 := (q3z t).1 hh
     rw [hv.2 ⟨h2.1, fun j hj => h2.2 j (by omega)⟩] at hvv
     cases hvv
   | true =>
    have : k = t.l.length := by
     rcases hlt with h | h
     ·omega
     ·rw [hvv] at h; cases h
    subst this
    exact ((q3z t).2 (hv.1 hvv)).symm
 rw [q7r]
 simp only [qd]
 have e0 : ∀ z : Int, (X.eq (.fld (.tok 0) 0) (.lit (.i z))).ev (evl (qe [(yb, q15 mT N (gTb qu))]) [eT t]) = .b (decide (t.k = z)) := fun z => by
  simp only [q9, qd, qa, qb, qc, X.says, X.ev, X.evs, evl, qe, gnA, gnT]
 simp only [e0, z0q, decide_eq_true_eq, decide_eq_false_iff_not]
 refine ⟨fun h => key _ ?_, fun h0 => ⟨fun h => key _ ?_, fun h1 => ⟨fun h => key _ ?_, fun h2 => ⟨fun h => key _ ?_, fun h3 => key _ ?_⟩⟩⟩⟩
 all_goals simp only [q9, qd, qa, qb, qc, X.says, X.ev, X.evs, evl, qe, gnA, gnT, q2y]
 ·simp [h, Bool.and_assoc]
 ·simp [h, Bool.and_assoc]
 ·simp [h, Bool.and_assoc]
 ·have e8 : decide (0 < (t.l.length : Int)) = decide (1 ≤ (t.l.length : Int)) := rfl
  rw [e8]
  simp [h, Bool.and_assoc]
 ·simp [h0, h1, h2, h3]
theorem qt1 : FOk q0d (gTb qi) := qnu qvz qxs fun ds outs hw hg => by
 obtain ⟨d, r, rfl, hd, rfl⟩ := hw
 obtain ⟨t, rfl, ht⟩ := wfT hd
 simp only [gTb, zb, Option.some.injEq] at hg
 subst hg
 have e : decide (min (szT t : Int) 2001 ≤ 2000) = decide (szT t ≤ 2000) := by rw [decide_eq_decide]; omega
 simp [q63, q9, qd, qa, qb, qc, X.says, X.ev, X.evs, evl, qe, gnA, gnT, gTi, gTb, qi, e]
theorem ql5 : FOk jk (gTT id) := qk9 fun ds outs hw hg => by
 obtain ⟨d, r, rfl, hd, rfl⟩ := hw
 obtain ⟨t, rfl, ht⟩ := wfT hd
 simp only [gTT, zb, Option.some.injEq] at hg
 subst hg
 simp only [q4b, q9, qd, qa, qb, qc, X.says, X.ev, X.evs, evl, qe, gnA, gnT, id]
theorem qt4 : FOk yx (gTT id) := q2t (m := mT) q8n fun N ih => qqf ql5 ih fun ds outs hw hg => by
 obtain ⟨d, r, rfl, hd, rfl⟩ := hw
 obtain ⟨t, rfl, ht⟩ := wfT hd
 simp only [q15, mT, gTT, List.getD_cons_zero, zb, z5, Option.ite_none_right_eq_some, Option.some.injEq] at hg
 obtain ⟨hsz, rfl⟩ := hg
 have hl := ht.l
 rw [q5u, qd]
 refine ⟨fun h => ?_, fun h => ?_⟩
 ·simp only [q9, qd, qa, qb, qc, X.says, X.ev, X.evs, evl, qe, gnA, gnT, gTT, id]
 rw [zi]
 refine ⟨fun st => ∃ k : Nat, k ≤ t.l.length ∧ st = [.i k, eT (.mk t.k t.n t.s (t.l.take k))], fun st => t.l.length - (st.getD 0 .u).int.toNat, ⟨0, Nat.zero_le _, by simp only [X.evs, X.ev, evl, List.getD_cons_zero, zhw, zgn, zhp, qkq]; rfl⟩, ?_⟩
 rintro st - ⟨k, hk, rfl⟩
 rw [qd]
 refine ⟨fun hlt => ?_, fun hlt => ?_⟩
 ·simp only [q9, qd, qa, qb, qc, X.says, X.ev, X.evs, evl, qe, gnA, gnT] at hlt
  have hkl' : k < t.l.length := by omega
  have ha := q6y hkl'
  simp only [q9, qd, qa, qb, qc, X.says, X.ev, X.evs, evl, qe, gnA, gnT, q87 hkl', q15, mT, gTT, if_pos (show szT (t.l.getD k default) < N by omega), id, zd5, List.length_take]
  refine ⟨⟨by omega, by omega⟩, by omega, ⟨by omega, by omega⟩, ?_⟩
  rw [jm, if_pos rfl]
  refine ⟨⟨k + 1, by omega, ?_⟩, ?_⟩
  ·rw [q8x hkl', qnl]
   rfl
  ·simp [D.int]
   omega
 ·simp only [q9, qd, qa, qb, qc, X.says, X.ev, X.evs, evl, qe, gnA, gnT] at hlt ⊢
  have : k = t.l.length := by omega
  subst this
  rw [List.take_length]
  cases t
  rfl
theorem qs7 : FOk q0l (gTT fun t => if qi t then t else zT) := qny qt1 qt4 fun ds outs hw hg => by
 obtain ⟨d, r, rfl, hd, rfl⟩ := hw
 obtain ⟨t, rfl, ht⟩ := wfT hd
 simp only [gTT, zb, Option.some.injEq] at hg
 subst hg
 simp only [q66, q9, qd, qa, qb, qc, X.says, X.ev, X.evs, evl, qe, gnA, gnT, gTb, gTT, id]
 cases qi t <;> simp
def gSt (f : ByteArray → Te) : List D → Option (List D)
 | [s] => some [eT (f s.str)]
 | _ => none
def zcl (s : ByteArray) : Te := if s.size ≤ 100 then .mk 2 0 s [] else zT
theorem z97 {s : ByteArray} (h : s.size ≤ 100) : zcl s = .mk 2 0 s [] := if_pos h
theorem qxu : FOk q12 (gSt zcl) := qrx qs7 fun ds outs hw hg => by
 obtain ⟨d, r, rfl, hd, rfl⟩ := hw
 obtain ⟨s, rfl, hs⟩ := hd.str
 simp only [gSt, qkh, Option.some.injEq] at hg
 subst hg
 have e : D.a ((D.a ([D.i 0, .i 0, .s ⟨#[]⟩, .r []].set 0 (.i 2))).fs.set 2 (.s s)) = eT (.mk 2 0 s []) := rfl
 simp only [q7g, q9, qd, qa, qb, qc, X.says, X.ev, X.evs, evl, qe, gnA, gnT, gTT, zk6]
 have e2 : D.a (((eT zT).fs.set 0 (.i 2)).set 2 (.s s)) = eT (.mk 2 0 s []) := rfl
 simp only [e2]
 have : qi (.mk 2 0 s []) = decide (s.size ≤ 100) := by
  rw [Bool.eq_iff_iff]
  simp [qi, szT, q02, qu, zj, q2y, Te.k, Te.n, Te.s, Te.l]
  exact Iff.trans decide_eq_true_iff (Int.ofNat_le (n := 100))
 simp only [zb, this, zcl, decide_eq_true_eq]
def gIt (f : Int → Te) : List D → Option (List D)
 | [n] => some [eT (f n.int)]
 | _ => none
theorem z19 : FOk q1o (gIt fun n => .mk 1 n ⟨#[]⟩ []) := qxo fun ds outs hw hg => by
 obtain ⟨d, r, rfl, hd, rfl⟩ := hw
 obtain ⟨n, rfl, hn⟩ := wfI hd
 simp only [gIt, z5, Option.some.injEq] at hg
 subst hg
 simp only [q8e, q9, qd, qa, qb, qc, X.says, X.ev, X.evs, evl, qe, gnA, gnT]
 rfl
theorem qfk {s : So} (h : qs s = true) : qgx s = true := by
 simp only [qs, Bool.and_eq_true] at h
 exact h.1
theorem qmv {s : So} (h : qs s = true) : qbl s.ys = true := by
 have := qfk h
 simp only [qgx, Bool.and_eq_true] at this
 exact this.2.2.2.2
theorem qxy {s : So} (h : qs s = true) : s.cs.length ≤ 1048576 := by
 have := qfk h
 simp only [qgx, Bool.and_eq_true, decide_eq_true_eq] at this
 omega
theorem q6i {s : So} (h : qs s = true) {i : Int} (hi : inS s i = true) : q3b s i = true := by
 simp only [qs, Bool.and_eq_true] at h
 have h1 := qn.1 hi
 have hk := q9b h.2.1 (k := i.toNat) (by omega)
 rwa [show ((i.toNat : Nat) : Int) = i by omega] at hk
theorem qkt {s : So} (h : qs s = true) {i : Int} (hi : inS s i = true) (ht : (cellAt s i).t ≠ 4) : vcR s (cellAt s i) = true := by
 have := q6i h hi
 unfold q3b at this
 rw [if_neg ht] at this
 simp only [Bool.and_eq_true] at this
 exact this.1
theorem qy2 {s : So} (h : qs s = true) {i : Int} (hi : inS s i = true) : qub s i = true := by
 by_cases ht : (cellAt s i).t = 4
 ·exact (En.st (fun hn => by have := hn.1; rw [z9 hi] at this; omega)).ends
 ·have := q6i h hi
  unfold q3b at this
  rw [if_neg ht] at this
  simp only [Bool.and_eq_true] at this
  exact this.2.1
theorem q4h {s : So} {c : Ce} (h : vcR s c = true) (ht : c.t = 0) : inS s c.n = true ∧ (cellAt s c.n).t ≠ 4 := by
 unfold vcR at h
 rw [if_pos ht] at h
 simp only [Bool.and_eq_true, Bool.not_eq_true', decide_eq_false_iff_not] at h
 rw [z9 h.1] at h
 exact h
theorem z39 {s : So} (h : qs s = true) {n : Int} (hn : Ns s n) : inS s (nx s n) = true := by
 have hi := hn.inS
 have ht : (cellAt s n).t = 0 := by have := hn.1; rwa [z9 hi] at this
 exact (q4h (qkt h hi (by omega)) ht).1
theorem qf1 {s : So} (h : qs s = true) {i : Int} (hi : inS s i = true) (ht : (cellAt s i).t = 4) : 1 ≤ arS s (cellAt s i).n ∧ arS s (cellAt s i).n ≤ 8 ∧ ∀ j : Nat, (j : Int) < arS s (cellAt s i).n → inS s (i + 1 + j) = true ∧ vcR s (cellAt s (i + 1 + j)) = true := by
 have := q6i h hi
 unfold q3b at this
 rw [if_pos ht] at this
 simp only [Bool.and_eq_true, decide_eq_true_eq, List.all_eq_true, List.mem_range, Bool.not_eq_true', decide_eq_false_iff_not] at this
 obtain ⟨h1, h2, h3⟩ := this
 refine ⟨h1, (zau (qmv h) _).2, fun j hj => ?_⟩
 have q := qn.1 h2
 have q1 := qn.1 hi
 have hin : inS s (i + 1 + j) = true := qn.2 ⟨by omega, by omega⟩
 refine ⟨hin, qkt h hin ?_⟩
 have := h3 j (by omega)
 rw [show i + ((j : Int) + 1) = i + 1 + j by omega, z9 hin] at this
 exact this
theorem q6w {s : So} {n : Int} (h : 0 ≤ arS s n) : 0 ≤ n ∧ n < s.ys.length ∧ arS s n = (s.ys.getD n.toNat default).ar := by
 unfold arS at h ⊢
 split at h
 ·rename_i hn
  rw [if_pos hn]
  exact ⟨hn.1, hn.2, rfl⟩
 ·omega
def q3q (s : So) (n : Int) : Sy := s.ys.getD n.toNat default
theorem qvu {s : So} (h : qs s = true) {n : Int} (hn : 0 ≤ arS s n) : (q3q s n).name.size ≤ 100 := by
 obtain ⟨h0, h1, -⟩ := q6w hn
 have := qmv h
 simp only [qbl, Bool.and_eq_true] at this
 have := q9b this.2 (k := n.toNat) (by omega)
 simp only [qpd, okY, Bool.and_eq_true, decide_eq_true_eq] at this
 exact this.1.1
theorem qzr {s : So} (hv : ∀ m, Ns s m → inS s (nx s m) = true) : ∀ (k : Nat) (n : Int), inS s n = true → q1g s (k + 1) n = true → q1g s k n = false → ∃ l : List Int, l.length = k + 1 ∧ l.Nodup ∧ (∀ x ∈ l, inS s x = true) ∧ ∀ x ∈ l, ∃ j, j ≤ k ∧ q1g s (j + 1) x = true
 | 0, n, hi, h1, _ => ⟨[n], rfl, by simp, (fun x hx => by rw [List.mem_singleton.1 hx]; exact hi), fun x hx => ⟨0, Nat.le_refl _, by rw [List.mem_singleton.1 hx]; exact h1⟩⟩
 | k + 1, n, hi, h1, h2 => by
  have hn : Ns s n := Classical.byContradiction fun hn => by rw [q37 hn] at h2; cases h2
  have h1' := h1
  rw [q07 hn] at h1 h2
  obtain ⟨l, e1, e2, e3, e4⟩ := qzr hv k _ (hv n hn) h1 h2
  refine ⟨n :: l, by simp [e1], ?_, fun x hx => ?_, fun x hx => ?_⟩
  ·refine List.nodup_cons.2 ⟨fun hm => ?_, e2⟩
   obtain ⟨j, hj, he⟩ := e4 n hm
   rw [q07 hn] at he
   rw [qbr hj he] at h2
   cases h2
  ·rcases List.mem_cons.1 hx with rfl | hx
   ·exact hi
   ·exact e3 x hx
  ·rcases List.mem_cons.1 hx with rfl | hx
   ·exact ⟨k + 1, Nat.le_refl _, h1'⟩
   ·obtain ⟨j, hj, he⟩ := e4 x hx
    exact ⟨j, by omega, he⟩
theorem q81 {s : So} (h : qs s = true) {n : Int} (hi : inS s n = true) : q1g s s.cs.length n = true := by
 cases hk' : q1g s s.cs.length n with
 | true => rfl
 | false =>
  obtain ⟨l, e1, e2, e3, -⟩ := qzr (fun m hm => z39 h hm) s.cs.length n hi (qy2 h hi) hk'
  have h1 := qpl s.cs.length (l.map Int.toNat) ?_ ?_
  ·rw [List.length_map, e1] at h1
   omega
  ·refine List.Pairwise.map _ (fun a b h => h) ?_
   refine List.Pairwise.imp_of_mem (R := fun a b => a ≠ b) (fun {a b} ha hb hab e => hab ?_) e2
   have h1 := qn.1 (e3 a ha)
   have h2 := qn.1 (e3 b hb)
   omega
  ·intro x hx
   obtain ⟨a, ha, rfl⟩ := List.mem_map.1 hx
   have h1 := qn.1 (e3 a ha)
   omega
def derN (s : So) : Nat → Ce → Ce
 | 0, c => c
 | k + 1, c => if c.t = 0 ∧ inS s c.n = true ∧ cellAt s c.n ≠ c then derN s k (cellAt s c.n) else c
theorem qr4 {s : So} {c : Ce} (h : c.t ≠ 0) : ∀ k, derN s k c = c
 | 0 => rfl
 | k + 1 => if_neg fun q => h q.1
theorem qo8 {s : So} (j : Nat) : ∀ (k : Nat) (n : Int), q1g s k n = true → derN s (k + j) ⟨0, n⟩ = derN s k ⟨0, n⟩
 | 0, n, h => by cases h
 | k + 1, n, h => by
  rw [show k + 1 + j = (k + j) + 1 by omega]
  unfold derN
  split
  ·rename_i hc
   by_cases ht : (cellAt s n).t = 0
   ·have e : cellAt s n = ⟨0, nx s n⟩ := Ce.ext' ht rfl
    have hn : Ns s n := ⟨(z9 hc.2.1).trans ht, fun hn => hc.2.2 (Ce.ext' ht hn)⟩
    rw [q07 hn] at h
    show derN s (k + j) (cellAt s n) = derN s k (cellAt s n)
    rw [e]
    exact qo8 j k _ h
   ·rw [qr4 ht, qr4 ht]
  ·rfl
def qp (s : So) (c : Ce) : Ce := if vcR s c then derN s (s.cs.length + 1) c else ⟨0, 0⟩
theorem qn3 {s : So} (h : qs s = true) {c : Ce} (hc : vcR s c = true) : derN s s.cs.length c = derN s (s.cs.length + 1) c := by
 by_cases ht : c.t = 0
 ·have e : c = ⟨0, c.n⟩ := Ce.ext' ht rfl
  rw [e]
  exact (qo8 1 _ _ (q81 h (q4h hc ht).1)).symm
 ·rw [qr4 ht, qr4 ht]
theorem z57 {s : So} (h : qs s = true) : ∀ (k : Nat) {c : Ce}, vcR s c = true → vcR s (derN s k c) = true
 | 0, c, hc => hc
 | k + 1, c, hc => by
  unfold derN
  split
  ·rename_i q
   exact z57 h k (qkt h q.2.1 (q4h hc q.1).2)
  ·exact hc
theorem qgl {s : So} (h : qs s = true) {c : Ce} (hc : vcR s c = true) : vcR s (qp s c) = true := by
 rw [qp, if_pos hc]
 exact z57 h _ hc
def q8d (g : Ce → Int → Te × Int) : List Ce → Int → List Te × Int
 | [], l => ([], l)
 | c :: cs, l => if l < 0 then ([], l) else ((g c l).1 :: (q8d g cs (g c l).2).1, (q8d g cs (g c l).2).2)
def q2g (s : So) (n : Int) (k : Nat) : List Ce := (List.range k).map fun j => cellAt s (n + 1 + (j : Nat))
def q1l (s : So) : Nat → Ce → Int → Te × Int
 | 0, _, left => (zT, left - 1)
 | f + 1, c, left => if left - 1 < 0 then (zT, left - 1)
  else if (qp s c).t = 1 then (.mk 1 (qp s c).n ⟨#[]⟩ [], left - 1)
  else if (qp s c).t = 2 then (.mk 2 0 (q3q s (qp s c).n).name [], left - 1)
  else if (qp s c).t = 3 then (.mk 3 0 (q3q s (cellAt s (qp s c).n).n).name (q8d (q1l s f) (q2g s (qp s c).n (arS s (cellAt s (qp s c).n).n).toNat) (left - 1)).1, (q8d (q1l s f) (q2g s (qp s c).n (arS s (cellAt s (qp s c).n).n).toNat) (left - 1)).2)
  else (.mk 0 (qp s c).n ⟨#[]⟩ [], left - 1)
theorem qx9 {g : Ce → Int → Te × Int} (hg : ∀ c l, 0 ≤ l → (g c l).2 ≤ l - 1 ∧ -1 ≤ (g c l).2) : ∀ (cs : List Ce) (l : Int), -1 ≤ l → (q8d g cs l).2 ≤ l ∧ -1 ≤ (q8d g cs l).2
 | [], l, h => ⟨Int.le_refl _, h⟩
 | c :: cs, l, h => by
  unfold q8d
  split
  ·exact ⟨Int.le_refl _, h⟩
  ·have h1 := hg c l (by omega)
   have h2 := qx9 hg cs (g c l).2 h1.2
   exact ⟨by omega, h2.2⟩
theorem qv5 (s : So) : ∀ (f : Nat) (c : Ce) (l : Int), 0 ≤ l → (q1l s f c l).2 ≤ l - 1 ∧ -1 ≤ (q1l s f c l).2
 | 0, c, l, h => ⟨Int.le_refl _, by simp only [q1l]; omega⟩
 | f + 1, c, l, h => by
  unfold q1l
  split
  ·simp only; omega
  split
  ·simp only; omega
  split
  ·simp only; omega
  split
  ·exact qx9 (qv5 s f) _ _ (by omega)
  ·simp only; omega
theorem z38 {g : Ce → Int → Te × Int} {P : Ce → Prop} (hl : ∀ c l, 0 ≤ l → (g c l).2 ≤ l - 1 ∧ -1 ≤ (g c l).2) (hg : ∀ c l, P c → 0 ≤ l → 0 ≤ (g c l).2 → qu (g c l).1 = true ∧ (szT (g c l).1 : Int) = l - (g c l).2) : ∀ (cs : List Ce) (l : Int), (∀ c ∈ cs, P c) → -1 ≤ l → 0 ≤ (q8d g cs l).2 → (q8d g cs l).1.length = cs.length ∧ zj (q8d g cs l).1 = true ∧ (q02 (q8d g cs l).1 : Int) = l - (q8d g cs l).2
 | [], l, _, _, _ => by simp [q8d, zj, q02]
 | c :: cs, l, hP, h, h0 => by
  unfold q8d at h0 ⊢
  split at h0
  ·simp only at h0; omega
  rename_i hn
  rw [if_neg hn]
  have h1 := hl c l (by omega)
  have h2 := qx9 hl cs (g c l).2 h1.2
  simp only at h0
  obtain ⟨q1, q2, q3⟩ := z38 hl hg cs (g c l).2 (fun c hc => hP c (List.mem_cons_of_mem _ hc)) h1.2 h0
  obtain ⟨q4, q5⟩ := hg c l (hP c List.mem_cons_self) (by omega) (by omega)
  simp only [List.length_cons, zj, q02, q1, q2, q4]
  refine ⟨by first | trivial | rfl, by first | trivial | rfl, ?_⟩
  omega
theorem z54 {s : So} (h : qs s = true) : ∀ (f : Nat) (c : Ce) (l : Int), vcR s c = true → 0 ≤ l → 0 ≤ (q1l s f c l).2 → qu (q1l s f c l).1 = true ∧ (szT (q1l s f c l).1 : Int) = l - (q1l s f c l).2
 | 0, c, l, _, _, h0 => by
  simp only [q1l] at h0 ⊢
  exact ⟨rfl, by simp [zT, szT, q02]; omega⟩
 | f + 1, c, l, hc, hl, h0 => by
  have hd := qgl h hc
  unfold q1l at h0 ⊢
  split at h0
  ·simp only at h0; omega
  rename_i hn
  rw [if_neg hn]
  split at h0
  ·rename_i ht
   rw [if_pos ht]
   exact ⟨by simp [qu, zj, q2y, Te.k, Te.n, Te.s, Te.l], by simp [szT, q02]; omega⟩
  rename_i h1
  rw [if_neg h1]
  split at h0
  ·rename_i ht
   rw [if_pos ht]
   have ha : arS s (qp s c).n = 0 := by
    simp only [vcR, ht] at hd
    simpa using hd
   have := qvu h (n := (qp s c).n) (by omega)
   refine ⟨?_, by simp [szT, q02]; omega⟩
   have h2 : ((q3q s (qp s c).n).name.size : Int) ≤ 100 := by omega
   simp only [qu, zj, q2y, Te.k, Te.n, Te.s, Te.l, h2]
   rfl
  rename_i h2
  rw [if_neg h2]
  split at h0
  ·rename_i ht
   rw [if_pos ht]
   have htag : q08 s (qp s c).n = 4 := by
    simp only [vcR, ht] at hd
    simpa using hd
   have hin := q2s (by decide) htag
   rw [z9 hin] at htag
   obtain ⟨a1, a2, a3⟩ := qf1 h hin htag
   obtain ⟨q1, q2, q3⟩ := z38 (P := fun c => vcR s c = true) (qv5 s f) (fun c l => z54 h f c l) (q2g s (qp s c).n (arS s (cellAt s (qp s c).n).n).toNat) (l - 1) (fun x hx => by
    obtain ⟨j, hj, rfl⟩ := List.mem_map.1 hx
    have := List.mem_range.1 hj
    exact (a3 j (by omega)).2) (by omega) h0
   have h3 := qvu h (n := (cellAt s (qp s c).n).n) (by omega)
   have h4 : ((q3q s (cellAt s (qp s c).n).n).name.size : Int) ≤ 100 := by omega
   have h5 : (q2g s (qp s c).n (arS s (cellAt s (qp s c).n).n).toNat).length = (arS s (cellAt s (qp s c).n).n).toNat := by simp [q2g]
   rw [h5] at q1
   refine ⟨?_, by simp only [szT]; omega⟩
   simp only [qu, q2y, Te.k, Te.n, Te.s, Te.l, h4, q1, q2]
   have h6 : (1 : Int) ≤ ((arS s (cellAt s (qp s c).n).n).toNat : Int) := by omega
   have h7 : ((arS s (cellAt s (qp s c).n).n).toNat : Int) ≤ 8 := by omega
   simp only [h6, h7]
   rfl
  rename_i h3
  rw [if_neg h3]
  have hin : inS s (qp s c).n = true := by
   rcases qmx hd with ht | ht | ht | ht | ht
   ·exact (q4h hd ht).1
   ·exact absurd ht h1
   ·exact absurd ht h2
   ·exact absurd ht h3
   ·simp only [vcR, ht] at hd
    exact q2s (t := 5) (by decide) (by simpa using hd)
  have q := qn.1 hin
  have q1 := qxy h
  refine ⟨?_, by simp [szT, q02]; omega⟩
  have h4 : 0 ≤ (qp s c).n := q.1
  have h5 : (qp s c).n ≤ 1099511627776 := by omega
  simp only [qu, zj, q2y, Te.k, Te.n, Te.s, Te.l, h4, h5]
  rfl
theorem z75 {s : So} (h : qs s = true) {f : Nat} {c : Ce} {l : Int} (hc : vcR s c = true) (hl : 0 ≤ l) (hm : l ≤ 2000) (h0 : 0 ≤ (q1l s f c l).2) : qi (q1l s f c l).1 = true := by
 obtain ⟨q1, q2⟩ := z54 h f c l hc hl h0
 simp only [qi, q1, Bool.and_true, decide_eq_true_eq]
 omega
def zd3 : List D → Option (List D)
 | [s, c] => if qs (dS s) then some [eC (qp (dS s) (dC c))] else none
 | _ => none
theorem z3r : D.a [.i 0, .i 0] = eC ⟨0, 0⟩ := rfl
theorem qqw : FOk qq zd3 := q9w yk q6h fun ds outs hw hg => by
 obtain ⟨d, r, rfl, hd, e, r', rfl, he, rfl⟩ := hw
 obtain ⟨s, rfl, hs⟩ := wfS hd
 obtain ⟨c, rfl, hc⟩ := wfC he
 simp only [zd3, z3, ym, Option.ite_none_right_eq_some, Option.some.injEq] at hg
 obtain ⟨hv, rfl⟩ := hg
 have hvs := q3u hv
 have hl := qxy hv
 have hvc : ∀ c, vcP s c = vcR s c := hvs.vc
 simp only [q2v, q9, qd, qa, qb, qc, X.says, X.ev, X.evs, evl, qe, gnA, qg8, hvc, z3r]
 refine ⟨fun h => ?_, fun h => ?_⟩
 ·simp only [qp, show vcR s c = false by simpa using h]
  rfl
 have hvc' : vcR s c = true := by simpa using h
 rw [zi]
 refine ⟨fun st => ∃ (k : Nat) (x : Ce), k ≤ s.cs.length ∧ st = [.i k, eC x] ∧ derN s (s.cs.length - k) x = qp s c, fun st => s.cs.length - (st.getD 0 .u).int.toNat, ⟨0, c, Nat.zero_le _, rfl, by rw [Nat.sub_zero, qn3 hv hvc', qp, if_pos hvc']⟩, ?_⟩
 rintro st - ⟨k, x, hk, rfl, hP⟩
 rw [qd]
 refine ⟨fun hlt => ?_, fun hlt => ?_⟩
 ·simp only [q9, qd, qa, qb, qc, X.says, X.ev, X.evs, evl, qe, gnA] at hlt
  have hkl : k < s.cs.length := by omega
  obtain ⟨n, hn⟩ : ∃ n, s.cs.length - k = n + 1 := ⟨s.cs.length - k - 1, by omega⟩
  rw [hn] at hP
  unfold derN at hP
  have hn2 : s.cs.length - (k + 1) = n := by omega
  have ht := hvs.tag_in x.n
  by_cases h0 : x.t = 0
  ·cases hin : inS s x.n with
   | true =>
    have h3 := qn.1 hin
    rw [hin] at ht
    have ht' : ¬ q08 s x.n < 0 := by have := of_decide_eq_true ht; omega
    simp only [q9, qd, qa, qb, qc, X.says, X.ev, X.evs, evl, qe, gnA, q8m, j9 hin, h0, ht', h3.1, h3.2]
    refine ⟨fun hx => ?_, fun hx => ?_⟩
    ·have hx' : cellAt s x.n = x := by simpa using hx
     rw [if_neg (fun q => q.2.2 hx')] at hP
     rw [hP]
    ·have hx' : cellAt s x.n ≠ x := by simpa using hx
     rw [if_pos ⟨h0, hin, hx'⟩] at hP
     refine ⟨⟨by omega, by omega⟩, ?_⟩
     rw [jm, if_pos rfl]
     refine ⟨⟨k + 1, cellAt s x.n, by omega, by simp, by rw [hn2]; exact hP⟩, ?_⟩
     simp [D.int]
     omega
   | false =>
    rw [hin] at ht
    have ht' : q08 s x.n < 0 := by have := of_decide_eq_false ht; omega
    rw [if_neg (fun q => by rw [hin] at q; cases q.2.1)] at hP
    simp only [q9, qd, qa, qb, qc, X.says, X.ev, X.evs, evl, qe, gnA, q8m, h0, ht', ← hP]
    simp
  ·rw [if_neg (fun q => h0 q.1)] at hP
   simp only [q9, qd, qa, qb, qc, X.says, X.ev, X.evs, evl, qe, gnA, q8m, h0, ← hP]
   simp
 ·simp only [q9, qd, qa, qb, qc, X.says, X.ev, X.evs, evl, qe, gnA] at hlt ⊢
  have : k = s.cs.length := by omega
  subst this
  rw [Nat.sub_self] at hP
  rw [← hP, derN]
def z8v (s : So) (c : Ce) (l : Int) (n : Nat) : Bool := qs s && (vcR s c && (decide (0 ≤ l) && decide (l < n)))
def qq2 (n : Nat) : List D → Option (List D)
 | [c, l, s] => if z8v (dS s) (dC c) l.int n then some [eT (q1l (dS s) n (dC c) l.int).1, .i (q1l (dS s) n (dC c) l.int).2] else none
 | _ => none
theorem zal {g : Ce → Int → Te × Int} {l : Int} (h : l < 0) : ∀ cs, q8d g cs l = ([], l)
 | [] => rfl
 | c :: cs => if_pos h
theorem z6i {s : So} {n : Int} {m k : Nat} (h : k < m) : (q2g s n m).drop k = cellAt s (n + 1 + k) :: (q2g s n m).drop (k + 1) := by
 have hl : k < (q2g s n m).length := by simp [q2g, h]
 rw [List.drop_eq_getElem_cons hl]
 simp [q2g]
theorem z9i {s : So} {i : Int} (h : 0 ≤ arS s i) : (D.r (s.ys.map eY)).get i = eY (q3q s i) := z0d eY (q6w h).1 (q6w h).2.1
theorem ziq (n : Int) : D.a ((D.a ((eT zT).fs.set 0 (.i 0))).fs.set 1 (.i n)) = eT (.mk 0 n ⟨#[]⟩ []) := rfl
theorem zj4 (x : ByteArray) : D.a ((D.a ((eT zT).fs.set 0 (.i 3))).fs.set 2 (.s x)) = eT (.mk 3 0 x []) := rfl
theorem qbt : ∀ n, FOk yj (qq2 n)
 | 0 => (FOk.none q7x).sub fun ds outs h => by
  unfold qq2 at h
  split at h
  ·simp only [z8v, Option.ite_none_right_eq_some, Bool.and_eq_true, decide_eq_true_eq] at h
   omega
  ·cases h
 | f + 1 => qm4 (qbt f) qqw z19 qb3 qxu q6h fun ds outs hw hg => by
  obtain ⟨d, r, rfl, hd, e, r', rfl, he, e2, r2, rfl, he2, hw⟩ := hw
  obtain rfl : r2 = [] := hw
  obtain ⟨c, rfl, hc⟩ := wfC hd
  obtain ⟨l, rfl, hl⟩ := wfI he
  obtain ⟨s, rfl, hs⟩ := wfS he2
  simp only [qq2, z8v, z3, ym, z5, Option.ite_none_right_eq_some, Option.some.injEq, Bool.and_eq_true, decide_eq_true_eq] at hg
  obtain ⟨⟨hv, hvc, h0, hf⟩, rfl⟩ := hg
  have h0 := of_decide_eq_true h0
  have hf := of_decide_eq_true hf
  have hlen := qxy hv
  have hd := qgl hv hvc
  have hder : zd3 [eS s, eC c] = some [eC (qp s c)] := by simp only [zd3, z3, ym, hv, if_true]
  simp only [q4t, q9, qd, qa, qb, qc, X.says, X.ev, X.evs, evl, qe, gnA, gnT, hder, gIt, q8m, gSt]
  refine ⟨⟨by omega, by omega⟩, fun hn => ?_, fun hn => ?_⟩
  ·rw [q1l, if_pos hn]
  have hn' : ¬ l - 1 < 0 := hn
  unfold q1l
  simp only [if_neg hn']
  refine ⟨fun h1 => ?_, fun h1 => ?_⟩
  ·rw [if_pos h1]
  simp only [if_neg h1]
  have h2' : (qp s c).t = 2 → arS s (qp s c).n = 0 := fun ht => by
   simp only [vcR, ht] at hd
   simpa using hd
  have h3' : (qp s c).t = 3 → q08 s (qp s c).n = 4 := fun ht => by
   simp only [vcR, ht] at hd
   simpa using hd
  by_cases h2 : (qp s c).t = 2
  ·have ha := h2' h2
   have hsy := z9i (s := s) (i := (qp s c).n) (by omega)
   have hr := q6w (s := s) (n := (qp s c).n) (by omega)
   have hnm := qvu hv (n := (qp s c).n) (by omega)
   simp [h2, ha, hsy, zee, hr.1, hr.2.1, qkh, z97 hnm]
  simp only [h2]
  by_cases h3 : (qp s c).t = 3
  ·have htag := h3' h3
   have hin := q2s (by decide) htag
   have htag' := htag
   rw [z9 hin] at htag'
   obtain ⟨a1, a2, a3⟩ := qf1 hv hin htag'
   have hr := q6w (s := s) (n := (cellAt s (qp s c).n).n) (by omega)
   have hsy := z9i (s := s) (i := (cellAt s (qp s c).n).n) (by omega)
   have hi := qn.1 hin
   have hge : (0 : Int) ≤ arS s (cellAt s (qp s c).n).n := by omega
   have hsr : (q3q s (cellAt s (qp s c).n).n).ar = arS s (cellAt s (qp s c).n).n := hr.2.2.symm
   simp only [h3, htag, q9, qd, qa, qb, qc, X.says, X.ev, X.evs, evl, qe, gnA, gnT, j9 hin, hsy, hr.1, hr.2.1, hi.1, hi.2, hge]
   generalize hF : q8d (q1l s f) (q2g s (qp s c).n (arS s (cellAt s (qp s c).n).n).toNat) (l - 1) = F
   generalize har : arS s (cellAt s (qp s c).n).n = ar at *
   refine ⟨fun h => by simp at h, fun _ => ⟨fun _ => ⟨⟨by omega, by omega⟩, ?_⟩, fun h => by simp at h⟩⟩
   simp only [if_false, if_true]
   rw [zi]
   refine ⟨fun st => ∃ (k : Nat) (x : Int) (ts : List Te), (k : Int) ≤ ar ∧ -1 ≤ x ∧ x ≤ l - 1 ∧ ts.length = k ∧ st = [.i ((qp s c).n + 1 + k), .i x, eT (.mk 3 0 (q3q s (cellAt s (qp s c).n).n).name ts)] ∧ F = (ts ++ (q8d (q1l s f) ((q2g s (qp s c).n ar.toNat).drop k) x).1, (q8d (q1l s f) ((q2g s (qp s c).n ar.toNat).drop k) x).2), fun st => ar.toNat - ((st.getD 0 .u).int - (qp s c).n - 1).toNat, ⟨0, l - 1, [], by omega, by omega, by omega, rfl, ?_, by rw [← hF]; rfl⟩, ?_⟩
   ·simp only [X.evs, q9, qd, qa, qb, qc, X.says, X.ev, X.evs, evl, qe, gnA, gnT, hder, j9 hin, hsy, zj4]
    simp
   rintro st - ⟨k, x, ts, hk, hx1, hx2, hts, rfl, hFk⟩
   by_cases hkl : (k : Int) < ar
   ·obtain ⟨b1, b2⟩ := a3 k hkl
    have b3 := qn.1 b1
    have ht0 : 0 ≤ q08 s ((qp s c).n + 1 + k) := by
     have := (q3u hv).tag_in ((qp s c).n + 1 + k)
     rw [b1] at this
     exact of_decide_eq_true this
    have hle : (qp s c).n + 1 + k ≤ (qp s c).n + ar := by omega
    by_cases hx0 : 0 ≤ x
    ·have hq : qq2 f [eC (cellAt s ((qp s c).n + 1 + k)), .i x, eS s] = some [eT (q1l s f (cellAt s ((qp s c).n + 1 + k)) x).1, .i (q1l s f (cellAt s ((qp s c).n + 1 + k)) x).2] := by
      have h1 : x < f := by omega
      simp only [qq2, z8v, z3, ym, z5, hv, b2, hx0, h1, decide_true, Bool.and_true, if_true]
     have hnx := qv5 s f (cellAt s ((qp s c).n + 1 + k)) x hx0
     simp only [q9, qd, qa, qb, qc, X.says, X.ev, X.evs, evl, qe, gnA, gnT, hder, j9 hin, j9 b1, hsy, hsr, q8m, hle, ht0, hq, hx0, zd5, b3.1, b3.2]
     refine ⟨⟨by omega, by omega⟩, fun _ => ⟨by omega, ⟨by omega, by omega⟩, ?_⟩, fun h => by simp at h⟩
     rw [jm, if_pos rfl]
     refine ⟨⟨k + 1, (q1l s f (cellAt s ((qp s c).n + 1 + k)) x).2, ts ++ [(q1l s f (cellAt s ((qp s c).n + 1 + k)) x).1], by omega, by omega, by omega, by simp [hts], ?_, ?_⟩, ?_⟩
     ·rw [qnl]
      simp
      omega
     ·rw [hFk, z6i (by omega), q8d, if_neg (by omega)]
      simp
     ·simp [D.int]
      omega
    ·simp only [q9, qd, qa, qb, qc, X.says, X.ev, X.evs, evl, qe, gnA, gnT, hder, j9 hin, j9 b1, hsy, hsr, q8m, hle, ht0, hx0]
     rw [zal (by omega)] at hFk
     refine ⟨⟨by omega, by omega⟩, fun h => by simp at h, fun _ => ?_⟩
     simp [hFk]
   ·have hle : ¬ (qp s c).n + 1 + k ≤ (qp s c).n + ar := by omega
    have : (q2g s (qp s c).n ar.toNat).drop k = [] := List.drop_eq_nil_of_le (by simp [q2g]; omega)
    rw [this] at hFk
    simp only [q9, qd, qa, qb, qc, X.says, X.ev, X.evs, evl, qe, gnA, gnT, hder, j9 hin, hsy, hsr, q8m, hle]
    refine ⟨⟨by omega, by omega⟩, fun h => by simp at h, fun _ => ?_⟩
    simp [hFk, q8d]
  ·simp only [h3, q9, qd, qa, qb, qc, X.says, X.ev, X.evs, evl, qe, gnA, gnT]
   refine ⟨fun h => by simp at h, fun _ => ⟨by simp, fun h => by simp at h, fun _ => ?_⟩⟩
   simp only [ziq, if_false]
def qfn (s : So) (c : Ce) : Te × Int := if vcR s c then (if (q1l s 2001 c 2000).2 < 0 then (zT, 2) else ((q1l s 2001 c 2000).1, 0)) else (zT, 1)
def z7e : List D → Option (List D)
 | [s, c] => if qs (dS s) then some [eT (qfn (dS s) (dC c)).1, .i (qfn (dS s) (dC c)).2] else none
 | _ => none
theorem qv9 : FOk q1d z7e := qt5 (qbt 2001) yk fun ds outs hw hg => by
 obtain ⟨d, r, rfl, hd, e, r', rfl, he, rfl⟩ := hw
 obtain ⟨s, rfl, hs⟩ := wfS hd
 obtain ⟨c, rfl, hc⟩ := wfC he
 simp only [z7e, z3, ym, Option.ite_none_right_eq_some, Option.some.injEq] at hg
 obtain ⟨hv, rfl⟩ := hg
 have hvc : ∀ c, vcP s c = vcR s c := (q3u hv).vc
 simp only [q73, q9, qd, qa, qb, qc, X.says, X.ev, X.evs, evl, qe, gnA, gnT, qg8, hvc, qfn]
 cases h : vcR s c with
 | false => simp
 | true =>
  have hq : qq2 2001 [eC c, .i 2000, eS s] = some [eT (q1l s 2001 c 2000).1, .i (q1l s 2001 c 2000).2] := by
   simp only [qq2, z8v, z3, ym, z5, hv, h]
   rfl
  simp only [hq]
  by_cases hn : (q1l s 2001 c 2000).2 < 0
  ·simp [hn, z5]
  ·simp [hn, z5]
theorem z1l {t : Te} (h : qi t = true) : z5k t t = true := by
 simp only [z5k, h, (q98 t t).2 rfl, Bool.and_self]
theorem qbd : FOk yu (qih inS) := qxe fun ds outs hw hg => by
 obtain ⟨d, r, rfl, hd, e, r', rfl, he, rfl⟩ := hw
 obtain ⟨s, rfl, hs⟩ := wfS hd
 obtain ⟨i, rfl, hi⟩ := wfI he
 simp only [qih, z3, z5, Option.some.injEq] at hg
 subst hg
 simp only [q8g, q9, qd, qa, qb, qc, X.says, X.ev, X.evs, evl, qe, gnA, inS]
def yr (c : Ce) : Ce := if c.t = 5 then ⟨0, c.n⟩ else c
def qfi : List D → Option (List D)
 | [c] => some [eC (yr (dC c))]
 | _ => none
theorem qsf : FOk q0m qfi := qqx fun ds outs hw hg => by
 obtain ⟨d, r, rfl, hd, rfl⟩ := hw
 obtain ⟨c, rfl, hc⟩ := wfC hd
 simp only [qfi, ym, Option.some.injEq] at hg
 subst hg
 simp only [q5s, q9, qd, qa, qb, qc, X.says, X.ev, X.evs, evl, qe, gnA, yr, zjo]
 exact ⟨fun h => by rw [if_pos h], fun h => by rw [if_neg h]⟩
theorem qsw : FOk q0g qfi := qoo fun ds outs hw hg => by
 obtain ⟨d, r, rfl, hd, rfl⟩ := hw
 obtain ⟨c, rfl, hc⟩ := wfC hd
 simp only [qfi, ym, Option.some.injEq] at hg
 subst hg
 simp only [q65, q9, qd, qa, qb, qc, X.says, X.ev, X.evs, evl, qe, gnA, yr, qgr]
 exact ⟨fun h => by rw [if_pos h], fun h => by rw [if_neg h]⟩
def behind (s : So) (a : Int) : Bool := decide (2 ≤ a) && decide ((cellAt s (a - 2)).t = 5)
def q1h (s : So) (a : Int) : Bool := if (cellAt s a).t = 0 then decide ((cellAt s a).n = a) else if (cellAt s a).t = 5 then true else if (cellAt s a).t = 1 ∨ (cellAt s a).t = 2 ∨ (cellAt s a).t = 3 then behind s a else false
theorem qgn : FOk yv (zb9 inS q1h) := qei fun ds outs hw hg => by
 obtain ⟨d, r, rfl, hd, e, r', rfl, he, rfl⟩ := hw
 obtain ⟨s, rfl, hs⟩ := wfS hd
 obtain ⟨i, rfl, hi⟩ := wfI he
 simp only [zb9, z3, z5, Option.ite_none_right_eq_some, Option.some.injEq] at hg
 obtain ⟨hin, rfl⟩ := hg
 have h1 := qn.1 hin
 have hl := hs.cs.1
 have hr : i64 (i - 2) := ⟨by omega, by omega⟩
 have hr' := q5g.2 hr
 simp only [q32, q9, qd, qa, qb, qc, X.says, X.ev, X.evs, evl, qe, gnA, j9 hin, h1, hr, q1h, behind, qgr]
 have e0 : (D.a [.i 0, .i i]) = eC ⟨0, i⟩ := rfl
 by_cases h2 : 2 ≤ i
 ·have hin2 : inS s (i - 2) = true := qn.2 ⟨by omega, by omega⟩
  have q1 : 0 ≤ i - 2 := by omega
  have q2 : i - 2 < s.cs.length := by omega
  simp only [j9 hin2, h2, q1, q2, z72, qq6, hr']
  by_cases c0 : (cellAt s i).t = 0
  ·have : (cellAt s i = ⟨0, i⟩) = ((cellAt s i).n = i) := propext ⟨fun e => by rw [e], fun e => Ce.ext' c0 e⟩
   simp [c0, this]
  ·by_cases c5 : (cellAt s i).t = 5
   ·simp [c5]
   ·by_cases c1 : (cellAt s i).t = 1
    ·simp [c1]
    ·by_cases c2 : (cellAt s i).t = 2
     ·simp [c2]
     ·by_cases c3 : (cellAt s i).t = 3
      ·simp [c3]
      ·simp [c0, c1, c2, c3, c5]
 ·simp only [h2]
  by_cases c0 : (cellAt s i).t = 0
  ·have : (cellAt s i = ⟨0, i⟩) = ((cellAt s i).n = i) := propext ⟨fun e => by rw [e], fun e => Ce.ext' c0 e⟩
   simp [c0, this]
  ·by_cases c5 : (cellAt s i).t = 5
   ·simp [c5]
   ·by_cases c1 : (cellAt s i).t = 1
    ·simp [c1]
    ·by_cases c2 : (cellAt s i).t = 2
     ·simp [c2]
     ·by_cases c3 : (cellAt s i).t = 3
      ·simp [c3]
      ·simp [c0, c1, c2, c3, c5]
def q62 (s : So) (a : Int) : Nat → Ce → Bool
 | 0, _ => false
 | k + 1, c => if c.t = 0 ∧ inS s c.n = true then (if c.n = a then true else q62 s a k (cellAt s c.n)) else false
def q9i (s : So) (c : Ce) (a : Int) : Bool := q62 s a (s.cs.length + 1) c
theorem qbp {s : So} {a : Int} {c : Ce} (h : cellAt s c.n = c) (ha : ¬ c.n = a) : ∀ k, q62 s a k c = false
 | 0 => rfl
 | k + 1 => by
  unfold q62
  by_cases hc : c.t = 0 ∧ inS s c.n = true
  ·rw [if_pos hc, if_neg ha, h]
   exact qbp h ha k
  ·rw [if_neg hc]
def zc1 (f : So → Ce → Int → Bool) : List D → Option (List D)
 | [s, c, i] => some [.b (f (dS s) (dC c) i.int)]
 | _ => none
theorem qpk : FOk ju (zc1 q9i) := qlp qbd fun ds outs hw hg => by
 obtain ⟨d, r, rfl, hd, e, r', rfl, he, f, r2, rfl, hf, rfl⟩ := hw
 obtain ⟨s, rfl, hs⟩ := wfS hd
 obtain ⟨c0, rfl, hc⟩ := wfC he
 obtain ⟨a, rfl, ha⟩ := wfI hf
 simp only [zc1, z3, ym, z5, Option.some.injEq] at hg
 subst hg
 have hl := hs.cs.1
 rw [q4n, q9]
 refine ⟨by simp only [q9, qd, qa, qb, qc, X.says, X.ev, X.evs, evl, qe, gnA]; omega, ?_⟩
 rw [zi]
 refine ⟨fun st => ∃ (k : Nat) (c : Ce), k ≤ s.cs.length + 1 ∧ st = [.b false, .i k, eC c] ∧ q62 s a (s.cs.length + 1 - k) c = q9i s c0 a, fun st => s.cs.length + 1 - (st.getD 1 .u).int.toNat, ⟨0, c0, Nat.zero_le _, rfl, rfl⟩, ?_⟩
 rintro st - ⟨k, c, hk, rfl, hP⟩
 simp only [q9, qd, qa, qb, qc, X.says, X.ev, X.evs, evl, qe, gnA, qih]
 refine ⟨fun hlt => ?_, fun hlt => ?_⟩
 ·have hkl : k ≤ s.cs.length := by omega
  have hr : i64 ((k : Int) + 1) := ⟨by omega, by omega⟩
  obtain ⟨n, hn⟩ : ∃ n, s.cs.length + 1 - k = n + 1 := ⟨s.cs.length - k, by omega⟩
  rw [hn] at hP
  unfold q62 at hP
  refine ⟨fun hx => ?_, fun hx => ?_⟩
  ·rw [if_neg] at hP
   ·rw [← hP]
   ·intro h
    simp [h.1, h.2] at hx
  ·have hx' : c.t = 0 ∧ inS s c.n = true := by simpa using hx
   have h1 := qn.1 hx'.2
   rw [if_pos hx'] at hP
   simp only [j9 hx'.2, qzm]
   refine ⟨fun hy => ?_, fun hy => ⟨h1, fun hz => ?_, fun hz => ⟨hr, ?_⟩⟩⟩
   ·rw [if_pos hy] at hP
    rw [hP]
   ·rw [if_neg hy, hz, qbp hz hy] at hP
    rw [← hP]
   ·rw [if_neg hy] at hP
    rw [jm, if_pos rfl]
    refine ⟨⟨k + 1, cellAt s c.n, by omega, by simp, by rw [show s.cs.length + 1 - (k + 1) = n by omega]; exact hP⟩, ?_⟩
    simp [D.int]
    omega
 ·rw [← hP, show s.cs.length + 1 - k = 0 by omega]
  rfl
def q0x (vc : So → Ce → Bool) (st : So → Int → Bool) (s : So) (a : Int) (c : Ce) : Bool := inS s a && (vc s c && (st s a && !q9i s (yr c) a))
def q0a (s : So) (a : Int) (c : Ce) : So := { s with cs := s.cs.set a.toNat (yr c), tr := s.tr ++ [⟨a, cellAt s a⟩] }
def z79 (vc : So → Ce → Bool) (st : So → Int → Bool) : List D → Option (List D)
 | [s, a, c] => if q0x vc st (dS s) a.int (dC c) then (if decide ((dS s).tr.length < 5864062014634) then some [.i 0, eS (q0a (dS s) a.int (dC c))] else none) else some [.i 1, eS (dS s)]
 | _ => none
theorem zec {s : So} {a : Int} {c : Ce} : D.a ((D.a ((eS s).fs.set 2 (.r (s.tr.map eU ++ [.a [.i a, eC (cellAt s a)]])))).fs.set 0 (.r ((s.cs.map eC).set a.toNat (eC (yr c))))) = eS (q0a s a c) := by
 simp [q0a, eS, D.fs, eU, List.map_set]
theorem z9e {s : So} {x : D} : (D.a ((eS s).fs.set 2 x)).fld 0 = .r (s.cs.map eC) := rfl
theorem q9p : FOk y9 (z79 vcP q1h) := qt3 qbd yk qgn qsf qpk fun ds outs hw hg => by
 obtain ⟨d, r, rfl, hd, e, r', rfl, he, f, r2, rfl, hf, rfl⟩ := hw
 obtain ⟨s, rfl, hs⟩ := wfS hd
 obtain ⟨a, rfl, ha⟩ := wfI he
 obtain ⟨c, rfl, hc⟩ := wfC hf
 simp only [z79, z3, ym, z5] at hg
 simp only [q72, q9, qd, qa, qb, qc, X.says, X.ev, X.evs, evl, qe, gnA, qih, qg8, zb9, qfi, zc1, Option.isSome_some, Option.getD_some]
 cases hin : inS s a with
 | false =>
  have : q0x vcP q1h s a c = false := by simp [q0x, hin]
  simp only [this, Bool.false_eq_true, if_false, Option.some.injEq] at hg
  subst hg
  simp
 | true =>
  have h1 := qn.1 hin
  cases hv : vcP s c with
  | false =>
   have : q0x vcP q1h s a c = false := by simp [q0x, hv]
   simp only [this, Bool.false_eq_true, if_false, Option.some.injEq] at hg
   subst hg
   simp
  | true =>
   cases ht : q1h s a with
   | false =>
    have : q0x vcP q1h s a c = false := by simp [q0x, ht]
    simp only [this, Bool.false_eq_true, if_false, Option.some.injEq] at hg
    subst hg
    simp [z0q, ht]
   | true =>
    cases hco : q9i s (yr c) a with
    | true =>
     have : q0x vcP q1h s a c = false := by simp [q0x, hco]
     simp only [this, Bool.false_eq_true, if_false, Option.some.injEq] at hg
     subst hg
     simp [z0q, ht]
    | false =>
     have : q0x vcP q1h s a c = true := by simp [q0x, hin, hv, ht, hco]
     simp only [this, if_true, Option.ite_none_right_eq_some, Option.some.injEq, decide_eq_true_eq] at hg
     obtain ⟨hlt, rfl⟩ := hg
     simp only [j9 hin, z9e, qw9, List.length_map, zec]
     simp [z0q, ht, h1]
     omega
def q8a (s : So) (m t : Int) : Bool := decide (0 ≤ m) && (decide (m ≤ s.tr.length) && (decide (0 ≤ t) && decide (t ≤ s.cs.length)))
def qtt (f : So → Int → Int → Bool) : List D → Option (List D)
 | [s, m, t] => some [.b (f (dS s) m.int t.int)]
 | _ => none
theorem ql1 : FOk jl (qtt q8a) := qi8 fun ds outs hw hg => by
 obtain ⟨d, r, rfl, hd, e, r', rfl, he, f, r2, rfl, hf, rfl⟩ := hw
 obtain ⟨s, rfl, hs⟩ := wfS hd
 obtain ⟨m, rfl, hm⟩ := wfI he
 obtain ⟨t, rfl, ht⟩ := wfI hf
 simp only [qtt, z3, z5, Option.some.injEq] at hg
 subst hg
 simp only [q49, q9, qd, qa, qb, qc, X.says, X.ev, X.evs, evl, qe, gnA, q8a, Bool.and_assoc]
def qwq (u : Un) (cs : List Ce) : List Ce := if 0 ≤ u.at' ∧ u.at' < cs.length then cs.set u.at'.toNat u.old else cs
def qa1 (cs : List Ce) (l : List Un) : List Ce := l.foldr qwq cs
theorem z8m (u : Un) (cs : List Ce) : (qwq u cs).length = cs.length := by
 unfold qwq
 split <;> simp
theorem qu4 (cs : List Ce) : ∀ l, (qa1 cs l).length = cs.length
 | [] => rfl
 | u :: l => (z8m _ _).trans (qu4 cs l)
theorem z9m {α : Type} [Inhabited α] {l : List α} {k : Nat} (h : k < l.length) : l.drop k = l.getD k default :: l.drop (k + 1) := by
 rw [List.drop_eq_getElem_cons h]
 simp [List.getD_eq_getElem?_getD, h]
def qr8 (s : So) (m t : Int) : So := { s with cs := (qa1 s.cs (s.tr.drop m.toNat)).take t.toNat, tr := s.tr.take m.toNat }
def qow : List D → Option (List D)
 | [s, m, t] => if q8a (dS s) m.int t.int then some [.i 0, eS (qr8 (dS s) m.int t.int)] else some [.i 1, eS (dS s)]
 | _ => none
theorem put_eq {s : So} {cs : List Ce} {u : Un} (h : 0 ≤ u.at' ∧ u.at' < cs.length) : D.a ((eS { s with cs := cs }).fs.set 0 (.r ((cs.map eC).set u.at'.toNat (eC u.old)))) = eS { s with cs := qwq u cs } := by
 simp [qwq, h, eS, D.fs, List.map_set]
theorem qyo {s : So} {m t : Int} : q8a s m t = true ↔ 0 ≤ m ∧ m ≤ s.tr.length ∧ 0 ≤ t ∧ t ≤ s.cs.length := by simp [q8a]
theorem qdo : FOk jc qow := qoj ql1 qbd fun ds outs hw hg => by
 obtain ⟨d, r, rfl, hd, e, r', rfl, he, f, r2, rfl, hf, rfl⟩ := hw
 obtain ⟨s, rfl, hs⟩ := wfS hd
 obtain ⟨m, rfl, hm⟩ := wfI he
 obtain ⟨t, rfl, ht⟩ := wfI hf
 simp only [qow, z3, z5] at hg
 rw [q60, q9]
 refine ⟨by simp only [q9, qd, qa, qb, qc, X.says, X.ev, X.evs, evl, qe, gnA, qtt], ?_⟩
 rw [qd]
 cases hk : q8a s m t with
 | false =>
  simp only [hk, Bool.false_eq_true, if_false, Option.some.injEq] at hg
  subst hg
  refine ⟨fun _ => by simp only [q9, qd, qa, qb, qc, X.says, X.ev, X.evs, evl, qe, gnA, qtt], fun h => ?_⟩
  simp [X.ev, X.evs, evl, qe, qtt, z3, z5, hk, D.tt] at h
 | true =>
  simp only [hk, if_true, Option.some.injEq] at hg
  subst hg
  refine ⟨fun h => ?_, fun _ => ?_⟩
  ·simp [X.ev, X.evs, evl, qe, qtt, z3, z5, hk, D.tt] at h
  obtain ⟨q1, q2, q3, q4⟩ := qyo.1 hk
  rw [q9]
  refine ⟨by simp only [q9, qd, qa, qb, qc, X.says, X.ev, X.evs, evl, qe, gnA]; exact ⟨q1, q2⟩, ?_⟩
  have ecut : ((s.tr.map eU).take ((s.tr.length : Nat) : Int).toNat).drop m.toNat = (s.tr.drop m.toNat).map eU := by
   rw [List.take_of_length_le (by simp), List.map_drop]
  have hll : (s.tr.drop m.toNat).length ≤ s.tr.length := by simp
  have hl := hs.tr.1
  rw [zi]
  generalize hL : s.tr.drop m.toNat = L at ecut hll
  refine ⟨fun st => ∃ k : Nat, k ≤ L.length ∧ st = [eS { s with cs := qa1 s.cs (L.drop k) }, .i ((k : Int) - 1)], fun st => ((st.getD 1 .u).int + 1).toNat, ⟨L.length, Nat.le_refl _, ?_⟩, ?_⟩
  ·simp only [q9, qd, qa, qb, qc, X.says, X.ev, X.evs, evl, qe, gnA, ecut]
   simp [qa1]
  rintro st - ⟨k, hkl, rfl⟩
  simp only [q9, qd, qa, qb, qc, X.says, X.ev, X.evs, evl, qe, gnA, qih, ecut]
  refine ⟨fun hlt => ?_, fun hlt => ?_⟩
  ·have hk1 : ((k : Int) - 1).toNat = k - 1 := by omega
   have hkn : k - 1 < L.length := by omega
   have hget : (D.r (L.map eU)).get ((k : Int) - 1) = eU (L.getD (k - 1) default) := by
    rw [z0d eU (by omega) (by omega), hk1]
   have hdr : qa1 s.cs (L.drop (k - 1)) = qwq (L.getD (k - 1) default) (qa1 s.cs (L.drop k)) := by
    rw [z9m hkn, show k - 1 + 1 = k by omega]
    rfl
   simp only [hget, zgw, zgp, z5]
   generalize L.getD (k - 1) default = u at hdr
   refine ⟨fun hin => ?_, fun hin => ?_⟩
   ·have h1 := qn.1 hin
    rw [jm, if_pos rfl, put_eq h1, ← hdr]
    refine ⟨⟨h1.1, h1.2⟩, ⟨k - 1, by omega, by simp; omega⟩, ?_⟩
    simp [D.int]
    omega
   ·have h1 : ¬ (0 ≤ u.at' ∧ u.at' < (qa1 s.cs (L.drop k)).length) := fun q => by
     have : inS { s with cs := qa1 s.cs (L.drop k) } u.at' = true := qn.2 q
     rw [this] at hin
     cases hin
    have : qwq u (qa1 s.cs (L.drop k)) = qa1 s.cs (L.drop k) := if_neg h1
    rw [jm, if_pos rfl]
    refine ⟨⟨k - 1, by omega, ?_⟩, ?_⟩
    ·rw [hdr, this]
     simp
     omega
    ·simp [D.int]
     omega
  ·have hk0 : k = 0 := by omega
   subst hk0
   simp only [z9e, qw9, List.length_map, qu4, List.drop_zero]
   refine ⟨⟨q1, q2⟩, ⟨q3, q4⟩, ?_⟩
   simp [qr8, eS, D.fs, D.fld, D.rs, hL, List.map_take]
def z33 (s : So) : Nat → Ce → Ce
 | 0, c => c
 | k + 1, c => if c.t = 0 ∧ 0 ≤ q08 s c.n ∧ cellAt s c.n ≠ c then z33 s k (cellAt s c.n) else c
def q0o (s : So) (c : Ce) : Ce := if vcP s c then z33 s s.cs.length c else ⟨0, 0⟩
def qa4 : List D → Option (List D)
 | [s, c] => some [eC (q0o (dS s) (dC c))]
 | _ => none
theorem q3h : FOk qq qa4 := q9w yk q6h fun ds outs hw hg => by
 obtain ⟨d, r, rfl, hd, e, r', rfl, he, rfl⟩ := hw
 obtain ⟨s, rfl, hs⟩ := wfS hd
 obtain ⟨c, rfl, hc⟩ := wfC he
 simp only [qa4, z3, ym, Option.some.injEq] at hg
 subst hg
 have hl := hs.cs.1
 simp only [q2v, q9, qd, qa, qb, qc, X.says, X.ev, X.evs, evl, qe, gnA, qg8, z3r]
 refine ⟨fun h => ?_, fun h => ?_⟩
 ·simp only [q0o, show vcP s c = false by simpa using h]
  rfl
 have hvc' : vcP s c = true := by simpa using h
 rw [zi]
 refine ⟨fun st => ∃ (k : Nat) (x : Ce), k ≤ s.cs.length ∧ st = [.i k, eC x] ∧ z33 s (s.cs.length - k) x = q0o s c, fun st => s.cs.length - (st.getD 0 .u).int.toNat, ⟨0, c, Nat.zero_le _, rfl, by rw [Nat.sub_zero, q0o, if_pos hvc']⟩, ?_⟩
 rintro st - ⟨k, x, hk, rfl, hP⟩
 rw [qd]
 refine ⟨fun hlt => ?_, fun hlt => ?_⟩
 ·simp only [q9, qd, qa, qb, qc, X.says, X.ev, X.evs, evl, qe, gnA] at hlt
  have hkl : k < s.cs.length := by omega
  obtain ⟨n, hn⟩ : ∃ n, s.cs.length - k = n + 1 := ⟨s.cs.length - k - 1, by omega⟩
  rw [hn] at hP
  unfold z33 at hP
  have hn2 : s.cs.length - (k + 1) = n := by omega
  by_cases h0 : x.t = 0
  ·by_cases ht : 0 ≤ q08 s x.n
   ·have hin := qbe ht
    have h3 := qn.1 hin
    have ht' : ¬ q08 s x.n < 0 := by omega
    simp only [q9, qd, qa, qb, qc, X.says, X.ev, X.evs, evl, qe, gnA, q8m, j9 hin, h0, ht', h3.1, h3.2]
    refine ⟨fun hx => ?_, fun hx => ?_⟩
    ·have hx' : cellAt s x.n = x := by simpa using hx
     rw [if_neg (fun q => q.2.2 hx')] at hP
     rw [hP]
    ·have hx' : cellAt s x.n ≠ x := by simpa using hx
     rw [if_pos ⟨h0, ht, hx'⟩] at hP
     refine ⟨⟨by omega, by omega⟩, ?_⟩
     rw [jm, if_pos rfl]
     refine ⟨⟨k + 1, cellAt s x.n, by omega, by simp, by rw [hn2]; exact hP⟩, ?_⟩
     simp [D.int]
     omega
   ·have ht' : q08 s x.n < 0 := by omega
    rw [if_neg (fun q => ht q.2.1)] at hP
    simp only [q9, qd, qa, qb, qc, X.says, X.ev, X.evs, evl, qe, gnA, q8m, h0, ht', ← hP]
    simp
  ·rw [if_neg (fun q => h0 q.1)] at hP
   simp only [q9, qd, qa, qb, qc, X.says, X.ev, X.evs, evl, qe, gnA, q8m, h0, ← hP]
   simp
 ·simp only [q9, qd, qa, qb, qc, X.says, X.ev, X.evs, evl, qe, gnA] at hlt ⊢
  have : k = s.cs.length := by omega
  subst this
  rw [Nat.sub_self] at hP
  rw [← hP, z33]
def jb (s : So) (c : Ce) : Int := if c.t = 3 ∧ inS s c.n = true ∧ (cellAt s c.n).t = 4 then (cellAt s c.n).n else -1
def qyy : List D → Option (List D)
 | [s, c] => some [.i (jb (dS s) (dC c))]
 | _ => none
theorem q5q : FOk z7 qyy := qka fun ds outs hw hg => by
 obtain ⟨d, r, rfl, hd, e, r', rfl, he, rfl⟩ := hw
 obtain ⟨s, rfl, hs⟩ := wfS hd
 obtain ⟨c, rfl, hc⟩ := wfC he
 simp only [qyy, z3, ym, Option.some.injEq] at hg
 subst hg
 simp only [q46, q9, qd, qa, qb, qc, X.says, X.ev, X.evs, evl, qe, gnA]
 by_cases h3 : c.t = 3
 ·cases hi : inS s c.n with
  | true =>
   have h := qn.1 hi
   simp [h3, h, j9 hi, z72, zi3, jb, hi]
   omega
  | false =>
   have h : ¬ (0 ≤ c.n ∧ c.n < s.cs.length) := fun q => by rw [qn.2 q] at hi; cases hi
   have h4 : c.n < 0 ∨ (s.cs.length : Int) ≤ c.n := by omega
   simp [h3, jb, hi]
   omega
 ·simp [h3, jb]
theorem z40 {s : So} {c : Ce} (h : ¬ jb s c < 0) : c.t = 3 ∧ inS s c.n = true ∧ (cellAt s c.n).t = 4 ∧ jb s c = (cellAt s c.n).n := by
 unfold jb at h ⊢
 split at h
 ·rename_i q
  rw [if_pos q]
  exact ⟨q.1, q.2.1, q.2.2, rfl⟩
 ·omega
def toP (s : So) (c : Ce) : Int := IntKind.wrap .i64 (c.n + 1 + (s.ys.getD (jb s c).toNat default).ar)
def qx2 (s : So) (c : Ce) : Int := if (s.cs.length : Int) < toP s c then (s.cs.length : Int) else toP s c
def q1e (s : So) (c : Ce) : List Ce := if jb s c < 0 ∨ (s.ys.length : Int) ≤ jb s c then [] else if qx2 s c < c.n + 1 then [] else (s.cs.take (qx2 s c).toNat).drop (c.n + 1).toNat
theorem qhi (s : So) (c : Ce) : (q1e s c).length ≤ s.cs.length := by
 unfold q1e
 split
 ·simp
 ·split
  ·simp
  ·simp
   omega
def qdr : List D → Option (List D)
 | [s, c] => some [.r ((q1e (dS s) (dC c)).map eC)]
 | _ => none
theorem q7a : FOk z8 qdr := qd0 q5q fun ds outs hw hg => by
 obtain ⟨d, r, rfl, hd, e, r', rfl, he, rfl⟩ := hw
 obtain ⟨s, rfl, hs⟩ := wfS hd
 obtain ⟨c, rfl, hc⟩ := wfC he
 simp only [qdr, z3, ym, Option.some.injEq] at hg
 subst hg
 have hl := hs.cs.1
 simp only [q2k, q9, qd, qa, qb, qc, X.says, X.ev, X.evs, evl, qe, gnA, qyy]
 refine ⟨fun h => ?_, fun h => ?_⟩
 ·rw [q1e, if_pos (by simpa using h)]
  rfl
 ·have h' : ¬ (jb s c < 0 ∨ (s.ys.length : Int) ≤ jb s c) := by simpa using h
  obtain ⟨h3, hi, h4, -⟩ := z40 (s := s) (c := c) (by omega)
  have hn := qn.1 hi
  have hgy : (D.r (s.ys.map eY)).get (jb s c) = eY (s.ys.getD (jb s c).toNat default) := z0d eY (by omega) (by omega)
  have hto : (fnD 9 [.i (c.n + 1), .i (s.ys.getD (jb s c).toNat default).ar]) = .i (toP s c) := rfl
  rw [q1e, if_neg h']
  simp only [hgy, z6c, hto, z5]
  have hmin : (if (s.cs.length : Int) < toP s c then (D.i (s.cs.length : Int)) else .i (toP s c)) = .i (qx2 s c) := by
   unfold qx2
   split <;> rfl
  simp only [hmin, z5]
  refine ⟨⟨by omega, by omega⟩, ⟨by omega, by omega⟩, fun h5 => ?_, fun h5 => ?_⟩
  ·rw [if_pos h5]
   rfl
  ·have hm : qx2 s c ≤ s.cs.length := by
    unfold qx2
    split <;> omega
   rw [if_neg h5]
   refine ⟨⟨by omega, by omega, by omega⟩, ?_⟩
   simp [List.map_take, List.map_drop]
def qrf (s : So) : Bool := decide (s.tr.length < 5864062014634) && decide (s.wk.length < 3518437208780)
theorem qql : FOk q0u (qih inS) := qyg fun ds outs hw hg => by
 obtain ⟨d, r, rfl, hd, e, r', rfl, he, rfl⟩ := hw
 obtain ⟨s, rfl, hs⟩ := wfS hd
 obtain ⟨i, rfl, hi⟩ := wfI he
 simp only [qih, z3, z5, Option.some.injEq] at hg
 subst hg
 simp only [q9f, q9, qd, qa, qb, qc, X.says, X.ev, X.evs, evl, qe, gnA, inS]
theorem qwc : FOk q1c qfi := qsk fun ds outs hw hg => by
 obtain ⟨d, r, rfl, hd, rfl⟩ := hw
 obtain ⟨c, rfl, hc⟩ := wfC hd
 simp only [qfi, ym, Option.some.injEq] at hg
 subst hg
 simp only [q7j, q9, qd, qa, qb, qc, X.says, X.ev, X.evs, evl, qe, gnA, yr]
 refine ⟨fun h => ?_, fun h => ?_⟩
 ·rw [if_pos h]
  rfl
 ·rw [if_neg h]
def qa9 (s : So) (v : Ce) : Ce × Bool := if vcP s v = false then (⟨0, 0⟩, false) else if (q0o s v).t = 0 then (q0o s v, inS s (q0o s v).n) else if (q0o s v).t = 5 then (q0o s v, inS s (q0o s v).n && inS s ((q0o s v).n + 2)) else (⟨0, 0⟩, false)
def zh4 (f : So → Ce → Ce × Bool) : List D → Option (List D)
 | [s, c] => some [eC (f (dS s) (dC c)).1, .b (f (dS s) (dC c)).2]
 | _ => none
theorem qho : FOk j7 (zh4 qa9) := qg3 yk q3h qql fun ds outs hw hg => by
 obtain ⟨d, r, rfl, hd, e, r', rfl, he, rfl⟩ := hw
 obtain ⟨s, rfl, hs⟩ := wfS hd
 obtain ⟨c, rfl, hc⟩ := wfC he
 simp only [zh4, z3, ym, Option.some.injEq] at hg
 subst hg
 have hl := hs.cs.1
 simp only [q3r, q9, qd, qa, qb, qc, X.says, X.ev, X.evs, evl, qe, gnA, qg8, qa4, qih, qa9]
 cases hv : vcP s c
 ·simp [z3r]
 by_cases h0 : (q0o s c).t = 0
 ·simp [h0]
 by_cases h5 : (q0o s c).t = 5
 ·cases hi : inS s (q0o s c).n with
  | true =>
   have h := qn.1 hi
   simp [h5, hi]
   simp only [q5g]
   omega
  | false => simp [h5, hi]
 ·simp [h0, h5, z3r]
def wkO (s : So) (x c : Ce) : Wk := ⟨(cellAt s (x.n + 1)).n, cellAt s (x.n + 2), yr c⟩
def qad (s : So) (x c : Ce) : Int × So := if q0x vcP q1h s x.n c then (0, { q0a s x.n c with wk := s.wk ++ [wkO s x c] }) else (1, s)
def zdb (s : So) (x : Ce) : Bool := qrf s && (inS s x.n && inS s (x.n + 2))
def z6q : List D → Option (List D)
 | [s, x, c] => if zdb (dS s) (dC x) then some [.i (qad (dS s) (dC x) (dC c)).1, eS (qad (dS s) (dC x) (dC c)).2] else none
 | _ => none
theorem zgu (s : So) (w : Wk) : D.a ((eS s).fs.set 3 (.r (s.wk.map eW ++ [eW w]))) = eS { s with wk := s.wk ++ [w] } := by
 simp [eS, D.fs]
theorem qw1 : FOk q13 z6q := qss qwc q9p fun ds outs hw hg => by
 obtain ⟨d, r, rfl, hd, e, r', rfl, he, f, r2, rfl, hf, rfl⟩ := hw
 obtain ⟨s, rfl, hs⟩ := wfS hd
 obtain ⟨x, rfl, hx⟩ := wfC he
 obtain ⟨c, rfl, hc⟩ := wfC hf
 simp only [z6q, z3, ym, Option.ite_none_right_eq_some, Option.some.injEq] at hg
 obtain ⟨hq, rfl⟩ := hg
 simp only [zdb, qrf, Bool.and_eq_true, decide_eq_true_eq] at hq
 obtain ⟨⟨hr1, hr2⟩, hi, hi2⟩ := hq
 have hl := hs.cs.1
 have h1 := qn.1 hi
 have h2 := qn.1 hi2
 have hi1 : inS s (x.n + 1) = true := qn.2 ⟨by omega, by omega⟩
 have hset : z79 vcP q1h [eS s, .i x.n, eC c] = some [.i (if q0x vcP q1h s x.n c then 0 else 1), eS (if q0x vcP q1h s x.n c then q0a s x.n c else s)] := by
  simp only [z79, z3, ym, z5]
  cases q0x vcP q1h s x.n c <;> simp [hr1]
 simp only [q6z, q9, qd, qa, qb, qc, X.says, X.ev, X.evs, evl, qe, gnA, qfi, hset, j9 hi1, j9 hi2]
 refine ⟨⟨by omega, by omega, by omega, by omega, by omega, by omega⟩, ?_⟩
 cases hk : q0x vcP q1h s x.n c with
 | false => simp [qad, hk]
 | true =>
  simp [qad, hk]
  refine ⟨?_, ?_⟩
  ·show ((q0a s x.n c).wk.length : Int) < _
   simp only [q0a]
   omega
  ·have := zgu (q0a s x.n c) (wkO s x c)
   exact this
def qqj (a b : Int) : Int := if a < b then -1 else if b < a then 1 else 0
def zbi : List D → Option (List D)
 | [n] => some [.b false]
 | _ => none
theorem zbq : FOk yp zbi := qdj fun ds outs hw hg => by
 obtain ⟨d, r, rfl, hd, rfl⟩ := hw
 obtain ⟨n, rfl, hn⟩ := wfI hd
 simp only [zbi, Option.some.injEq] at hg
 subst hg
 simp [q2a, q9, qd, qa, qb, qc, X.says, X.ev, X.evs, evl, qe, gnA]
def zbj : List D → Option (List D)
 | [a, b] => some [.i (qqj a.int b.int)]
 | _ => none
theorem z8e : FOk zr zbj := qaj zbq fun ds outs hw hg => by
 obtain ⟨d, r, rfl, hd, e, r', rfl, he, rfl⟩ := hw
 obtain ⟨a, rfl, ha⟩ := wfI hd
 obtain ⟨b, rfl, hb⟩ := wfI he
 simp only [zbj, z5, Option.some.injEq] at hg
 subst hg
 simp only [q1u, q9, qd, qa, qb, qc, X.says, X.ev, X.evs, evl, qe, gnA, zbi, qqj]
 by_cases h1 : a < b
 ·simp [h1]
 by_cases h2 : b < a
 ·simp [h1, h2]
 ·simp [h1, h2]
def zh0 : List D → Option (List D)
 | [l] => (match l.rs with
  | [a, b] => some [.i (if a.int = 0 then b.int else a.int)]
  | _ => none)
 | _ => none
theorem ze6 : FOk q0e zh0 := qpz fun ds outs hw hg => by
 obtain ⟨d, r, rfl, hd, rfl⟩ := hw
 obtain ⟨l, te, rfl, hte, hl, hall⟩ := hd.row
 simp only [zh0, qw9] at hg
 split at hg
 case h_2 => cases hg
 rename_i a b
 simp only [Option.some.injEq] at hg
 subst hg
 have hte' : te = .int .i64 := by
  have h : qk _ = some te := hte
  have h2 : qk 3 = some (.int .i64) := by kernel_rfl
  exact Option.some.inj (h.symm.trans h2)
 subst hte'
 obtain ⟨m, rfl, hm⟩ := wfI (hall a (by simp))
 obtain ⟨n, rfl, hn⟩ := wfI (hall b (by simp))
 simp only [q67]
 rw [zi]
 refine ⟨fun st => ∃ k : Nat, k ≤ 2 ∧ st = [.i 0, .i k] ∧ (1 ≤ k → m = 0) ∧ (2 ≤ k → n = 0), fun st => 2 - (st.getD 1 .u).int.toNat, ⟨0, by omega, rfl, by omega, by omega⟩, ?_⟩
 rintro st - ⟨k, hk, rfl, h1, h2⟩
 have hk3 : k = 0 ∨ k = 1 ∨ k = 2 := by omega
 rcases hk3 with rfl | rfl | rfl
 ·by_cases hm0 : m = 0
  ·simp [q9, qd, qa, qb, qc, X.says, X.ev, X.evs, evl, qe, gnA, D.get, D.rs, hm0, jm]
   exact ⟨1, by omega, by simp, by omega⟩
  ·simp [q9, qd, qa, qb, qc, X.says, X.ev, X.evs, evl, qe, gnA, D.get, D.rs, hm0]
 ·have hm0 := h1 (by omega)
  by_cases hn0 : n = 0
  ·simp [q9, qd, qa, qb, qc, X.says, X.ev, X.evs, evl, qe, gnA, D.get, D.rs, hm0, hn0, jm]
   exact ⟨2, by omega, by simp⟩
  ·simp [q9, qd, qa, qb, qc, X.says, X.ev, X.evs, evl, qe, gnA, D.get, D.rs, hm0, hn0]
 ·have hm0 := h1 (by omega)
  have hn0 := h2 (by omega)
  simp [q9, qd, qa, qb, qc, X.says, X.ev, X.evs, evl, qe, gnA, D.get, D.rs, hm0, hn0]
def qm6 (s : So) (a : Int) (c : Ce) : Int × So := if q0x vcP q1h s a c then (0, q0a s a c) else (1, s)
theorem zfx {s : So} (h : s.tr.length < 5864062014634) (a : Int) (c : Ce) : z79 vcP q1h [eS s, .i a, eC c] = some [.i (qm6 s a c).1, eS (qm6 s a c).2] := by
 simp only [z79, z3, ym, z5, qm6]
 cases q0x vcP q1h s a c <;> simp [h]
def zdv (s : So) (x : Ce) : Int := (cellAt s (x.n + 1)).n
def older (s : So) (x y : Ce) : Prop := zdv s y < zdv s x ∨ zdv s x = zdv s y ∧ y.n < x.n
instance (s : So) (x y : Ce) : Decidable (older s x y) := inferInstanceAs (Decidable (_ ∨ _))
def qa3 (s : So) (v to : Ce) : Int × So :=
 if (qa9 s v).2 = false ∨ (qa9 s v).1.t ≠ 5 ∨ vcP s to = false then (1, s)
 else if q0o s to = (qa9 s v).1 then (0, s)
 else if (q0o s to).t = 0 then qm6 s (q0o s to).n (qa9 s v).1
 else if (q0o s to).t ≠ 5 then qad s (qa9 s v).1 (q0o s to)
 else if inS s (q0o s to).n = false ∨ inS s ((q0o s to).n + 2) = false then (1, s)
 else if older s (qa9 s v).1 (q0o s to) then qad s (qa9 s v).1 (q0o s to) else qad s (q0o s to) (qa9 s v).1
def z5d : List D → Option (List D)
 | [s, v, to] => if qrf (dS s) then some [.i (qa3 (dS s) (dC v) (dC to)).1, eS (qa3 (dS s) (dC v) (dC to)).2] else none
 | _ => none
theorem zcu {s : So} {v : Ce} (h : (qa9 s v).2 = true) (h5 : (qa9 s v).1.t = 5) : inS s (qa9 s v).1.n = true ∧ inS s ((qa9 s v).1.n + 2) = true := by
 unfold qa9 at h h5 ⊢
 split at h
 ·cases h
 ·split at h
  ·rename_i q q0
   rw [if_neg q, if_pos q0] at h5
   simp only at h5
   omega
  ·split at h
   ·rename_i q q0 q5
    rw [if_neg q, if_neg q0, if_pos q5]
    simpa using h
   ·cases h
theorem zhv {a b n m : Int} : (0 < (if qqj a b = 0 then qqj n m else qqj a b)) ↔ (b < a ∨ a = b ∧ m < n) := by
 unfold qqj
 by_cases h1 : a < b
 ·rw [if_pos h1, if_neg (by omega)]
  omega
 ·rw [if_neg h1]
  by_cases h2 : b < a
  ·rw [if_pos h2, if_neg (by omega)]
   omega
  ·rw [if_neg h2, if_pos rfl]
   split
   ·omega
   ·split <;> omega
theorem qq3 {s : So} : qrf s = true ↔ s.tr.length < 5864062014634 ∧ s.wk.length < 3518437208780 := by simp [qrf]
theorem qxl : FOk q10 z5d := qs4 qho yk q3h q9p qw1 qql z8e ze6 fun ds outs hw hg => by
 obtain ⟨d, r, rfl, hd, e, r', rfl, he, f, r2, rfl, hf, rfl⟩ := hw
 obtain ⟨s, rfl, hs⟩ := wfS hd
 obtain ⟨v, rfl, hv⟩ := wfC he
 obtain ⟨to, rfl, hto⟩ := wfC hf
 simp only [z5d, z3, ym, Option.ite_none_right_eq_some, Option.some.injEq] at hg
 obtain ⟨hr, rfl⟩ := hg
 obtain ⟨hr1, hr2⟩ := qq3.1 hr
 have hl := hs.cs.1
 have hset := zfx hr1
 simp only [q7b, q9, qd, qa, qb, qc, X.says, X.ev, X.evs, evl, qe, gnA, zh4, qg8, qa4, qih, hset]
 have hvi := @zcu s v
 unfold qa3
 generalize qa9 s v = V at hvi ⊢
 generalize q0o s to = T
 by_cases h1 : V.2 = false ∨ V.1.t ≠ 5 ∨ vcP s to = false
 ·rw [if_pos h1]
  rcases h1 with h1 | h1 | h1
  ·simp [h1]
  ·cases h2 : V.2 <;> simp [h1, h2]
  ·by_cases h5 : V.1.t = 5
   ·cases h2 : V.2 <;> simp [h1, h2, h5]
   ·cases h2 : V.2 <;> simp [h1, h2, h5]
 rw [if_neg h1]
 have hV2 : V.2 = true := by cases h : V.2 with
  | true => rfl
  | false => exact (h1 (.inl h)).elim
 have hV5 : V.1.t = 5 := Classical.byContradiction fun h => h1 (.inr (.inl h))
 have hvt : vcP s to = true := by cases h : vcP s to with
  | true => rfl
  | false => exact (h1 (.inr (.inr h))).elim
 obtain ⟨hi, hi2⟩ := hvi hV2 hV5
 have hn1 := qn.1 hi
 have hn2 := qn.1 hi2
 have hi1 : inS s (V.1.n + 1) = true := qn.2 ⟨by omega, by omega⟩
 have hbV : ∀ c, z6q [eS s, eC V.1, eC c] = some [.i (qad s V.1 c).1, eS (qad s V.1 c).2] := fun c => by
  simp only [z6q, z3, ym, zdb, hr, hi, hi2]
  rfl
 by_cases h2 : T = V.1
 ·simp [h2, hV2, hV5, hvt]
 rw [if_neg h2]
 by_cases h3 : T.t = 0
 ·simp [h2, h3, hV2, hV5, hvt]
 rw [if_neg h3]
 by_cases h4 : T.t = 5
 case neg => simp [h2, h3, h4, hV2, hV5, hvt, hbV]
 rw [if_neg (fun h => h h4)]
 cases hti : inS s T.n with
 | false => simp [h2, h3, h4, hV2, hV5, hvt, hti]
 | true =>
  have ht1 := qn.1 hti
  cases hti2 : inS s (T.n + 2) with
  | false =>
   simp [h2, h3, h4, hV2, hV5, hvt, hti, hti2]
   simp only [q5g]
   omega
  | true =>
   have ht2 := qn.1 hti2
   have hti1 : inS s (T.n + 1) = true := qn.2 ⟨by omega, by omega⟩
   have hbT : ∀ c, z6q [eS s, eC T, eC c] = some [.i (qad s T c).1, eS (qad s T c).2] := fun c => by
    simp only [z6q, z3, ym, zdb, hr, hti, hti2]
    rfl
   have hor : zh0 [.r [.i (qqj (cellAt s (V.1.n + 1)).n (cellAt s (T.n + 1)).n), .i (qqj V.1.n T.n)]] = some [.i (if qqj (cellAt s (V.1.n + 1)).n (cellAt s (T.n + 1)).n = 0 then qqj V.1.n T.n else qqj (cellAt s (V.1.n + 1)).n (cellAt s (T.n + 1)).n)] := rfl
   have hold := @zhv (cellAt s (V.1.n + 1)).n (cellAt s (T.n + 1)).n V.1.n T.n
   have hold' : older s V.1 T ↔ ((cellAt s (T.n + 1)).n < (cellAt s (V.1.n + 1)).n ∨ (cellAt s (V.1.n + 1)).n = (cellAt s (T.n + 1)).n ∧ T.n < V.1.n) := Iff.rfl
   rw [← hold] at hold'
   have h2' : decide (T = V.1) = false := decide_eq_false h2
   simp only [q9, qd, qa, qb, qc, X.says, X.ev, X.evs, evl, qe, gnA, h2', h3, h4, hV2, hV5, hvt, hti, hti2, j9 hi1, j9 hti1, zbj, hor, hbV, hbT, Bool.not_true, Bool.not_false, Bool.or_false, Bool.false_eq_true, false_implies, true_implies, implies_true, true_and, and_true, reduceCtorEq, not_true_eq_false, Int.reduceEq, or_self, if_false]
   have hg1 : j8 IntKind.i64 (T.n + 2) = true := by simp only [q5g]; omega
   refine ⟨fun e => (h2 e).elim, fun _ _ => ⟨by simp [hg1], ⟨by omega, by omega, ⟨by omega, by omega⟩, by omega, by omega, by omega, by omega⟩, fun h => ?_, fun h => ?_⟩⟩
   ·rw [if_pos (hold'.2 h)]
   ·rw [if_neg (fun q => h (hold'.1 q))]
def okI (r : Int × So) : Bool × So := (decide (r.1 = 0), r.2)
def ji (s : So) (x y : Ce) : Bool × So :=
 if y.t = 0 ∧ (x.t ≠ 0 ∨ x.n < y.n) then okI (qm6 s y.n x)
 else if x.t = 0 then okI (qm6 s x.n y)
 else if x.t = 5 then okI (qa3 s x y)
 else if y.t = 5 then okI (qa3 s y x)
 else (false, s)
def qk1 : List D → Option (List D)
 | [s, x, y] => if qrf (dS s) then some [.b (ji (dS s) (dC x) (dC y)).1, eS (ji (dS s) (dC x) (dC y)).2] else none
 | _ => none
theorem qsq : FOk q0n qk1 := qra q9p qxl fun ds outs hw hg => by
 obtain ⟨d, r, rfl, hd, e, r', rfl, he, f, r2, rfl, hf, rfl⟩ := hw
 obtain ⟨s, rfl, hs⟩ := wfS hd
 obtain ⟨x, rfl, hx⟩ := wfC he
 obtain ⟨y, rfl, hy⟩ := wfC hf
 simp only [qk1, z3, ym, Option.ite_none_right_eq_some, Option.some.injEq] at hg
 obtain ⟨hr, rfl⟩ := hg
 obtain ⟨hr1, hr2⟩ := qq3.1 hr
 have hset := zfx hr1
 have hab : ∀ x y, z5d [eS s, eC x, eC y] = some [.i (qa3 s x y).1, eS (qa3 s x y).2] := fun x y => by
  simp only [z5d, z3, ym, hr]
  rfl
 simp only [q5x, q9, qd, qa, qb, qc, X.says, X.ev, X.evs, evl, qe, gnA, hset, hab, ji, okI]
 by_cases h1 : y.t = 0 ∧ (x.t ≠ 0 ∨ x.n < y.n)
 ·rw [if_pos h1]
  rcases h1.2 with h2 | h2
  ·simp [h1.1, h2]
  ·simp [h1.1, h2]
 rw [if_neg h1]
 have hc : (decide (y.t = 0) && (!decide (x.t = 0) || decide (x.n < y.n))) = false := by
  rw [Bool.eq_false_iff]
  intro q
  simp at q
  exact h1 ⟨q.1, q.2⟩
 simp only [hc]
 by_cases h2 : x.t = 0
 ·simp [h2]
 by_cases h3 : x.t = 5
 ·simp [h2, h3]
 by_cases h4 : y.t = 5
 ·simp [h2, h3, h4]
 ·simp [h2, h3, h4]
def qwm : List D → Option (List D)
 | [x, y, s] => qk1 [s, x, y]
 | _ => none
theorem q8k : FOk z6 qwm := qgk qsq fun ds outs hw hg => by
 obtain ⟨d, r, rfl, hd, e, r', rfl, he, f, r2, rfl, hf, rfl⟩ := hw
 obtain ⟨x, rfl, hx⟩ := wfC hd
 obtain ⟨y, rfl, hy⟩ := wfC he
 obtain ⟨s, rfl, hs⟩ := wfS hf
 simp only [qwm, qk1, z3, ym, Option.ite_none_right_eq_some, Option.some.injEq] at hg
 obtain ⟨hr, rfl⟩ := hg
 simp [q3n, q9, qd, qa, qb, qc, X.says, X.ev, X.evs, evl, qe, gnA, qk1, hr]
def gNo : List D → Option (List D)
 | [x, y] => some [.b false]
 | _ => none
theorem qa0 : FOk zw gNo := qid fun ds outs hw hg => by
 obtain ⟨d, r, rfl, hd, e, r', rfl, he, rfl⟩ := hw
 simp only [gNo, Option.some.injEq] at hg
 subst hg
 simp [q48, q9, qd, qa, qb, qc, X.says, X.ev, X.evs, evl, qe, gnA]
structure Back (k : Nat) (s s' : So) : Prop where
 h : ∃ new wn, s'.tr = s.tr ++ new ∧ s'.wk = s.wk ++ wn ∧ qa1 s'.cs new = s.cs ∧ new.length ≤ k ∧ wn.length ≤ k
 cs : s'.cs.length = s.cs.length
 ys : s'.ys = s.ys
 ser : s'.ser = s.ser
 mx : s'.mx = s.mx
theorem Back.refl (s : So) : Back 0 s s := ⟨⟨[], [], by simp, by simp, rfl, by simp, by simp⟩, rfl, rfl, rfl, rfl⟩
theorem Back.mono {k m : Nat} {s s' : So} (h : Back k s s') (hk : k ≤ m) : Back m s s' := by
 obtain ⟨⟨n, w, h1, h2, h3, h4, h5⟩, h6, h7, h8, h9⟩ := h
 exact ⟨⟨n, w, h1, h2, h3, by omega, by omega⟩, h6, h7, h8, h9⟩
theorem Back.trans {k m : Nat} {s s' s2 : So} (h : Back k s s') (g : Back m s' s2) : Back (k + m) s s2 := by
 obtain ⟨⟨n, w, h1, h2, h3, h4, h5⟩, h6, h7, h8, h9⟩ := h
 obtain ⟨⟨n', w', g1, g2, g3, g4, g5⟩, g6, g7, g8, g9⟩ := g
 refine ⟨⟨n ++ n', w ++ w', by rw [g1, h1, List.append_assoc], by rw [g2, h2, List.append_assoc], ?_, by simp; omega, by simp; omega⟩, g6.trans h6, g7.trans h7, g8.trans h8, g9.trans h9⟩
 unfold qa1 at g3 h3 ⊢
 rw [List.foldr_append, g3, h3]
theorem Back.tr_len {k : Nat} {s s' : So} (h : Back k s s') : s'.tr.length ≤ s.tr.length + k ∧ s'.wk.length ≤ s.wk.length + k ∧ s.tr.length ≤ s'.tr.length ∧ s.wk.length ≤ s'.wk.length := by
 obtain ⟨⟨n, w, h1, h2, h3, h4, h5⟩, -⟩ := h
 rw [h1, h2, List.length_append, List.length_append]
 omega
theorem z0x {s : So} {a : Int} {c : Ce} (hi : inS s a = true) : Back 1 s (q0a s a c) := by
 have h := qn.1 hi
 refine ⟨⟨[⟨a, cellAt s a⟩], [], rfl, by simp [q0a], ?_, by simp, by simp⟩, by simp [q0a], rfl, rfl, rfl⟩
 show qwq ⟨a, cellAt s a⟩ (s.cs.set a.toNat (yr c)) = s.cs
 rw [qwq, if_pos ⟨h.1, by rw [List.length_set]; exact h.2⟩]
 show (s.cs.set a.toNat (yr c)).set a.toNat (cellAt s a) = s.cs
 rw [List.set_set]
 refine List.ext_getElem (by simp) fun i h1 h2 => ?_
 rw [List.getElem_set]
 split
 ·rename_i e
  subst e
  simp [cellAt, List.getD_eq_getElem?_getD, List.getElem?_eq_getElem h2]
 ·rfl
theorem z0g {vc : So → Ce → Bool} {st : So → Int → Bool} {s : So} {a : Int} {c : Ce} (h : q0x vc st s a c = true) : inS s a = true := by
 simp only [q0x, Bool.and_eq_true] at h
 exact h.1
theorem qic (s : So) (a : Int) (c : Ce) : Back 1 s (qm6 s a c).2 := by
 unfold qm6
 split
 ·rename_i h
  exact z0x (z0g h)
 ·exact (Back.refl s).mono (by omega)
theorem qjf (s : So) (x c : Ce) : Back 1 s (qad s x c).2 := by
 unfold qad
 split
 ·rename_i h
  obtain ⟨⟨n, w, h1, h2, h3, h4, h5⟩, h6, h7, h8, h9⟩ := z0x (c := c) (z0g h)
  exact ⟨⟨n, [wkO s x c], h1, rfl, h3, h4, by simp⟩, h6, h7, h8, h9⟩
 ·exact (Back.refl s).mono (by omega)
theorem qqd (s : So) (x c : Ce) : Back 1 s (qa3 s x c).2 := by
 have h0 := (Back.refl s).mono (m := 1) (by omega)
 unfold qa3
 split
 ·exact h0
 split
 ·exact h0
 split
 ·exact qic _ _ _
 split
 ·exact qjf _ _ _
 split
 ·exact h0
 split
 ·exact qjf _ _ _
 ·exact qjf _ _ _
theorem qp8 (s : So) (x y : Ce) : Back 1 s (ji s x y).2 := by
 unfold ji okI
 split
 ·exact qic _ _ _
 split
 ·exact qic _ _ _
 split
 ·exact qqd _ _ _
 split
 ·exact qqd _ _ _
 ·exact (Back.refl s).mono (by omega)
structure Uo where
 der : So → Ce → Ce
 meet : So → Ce → Ce → Bool × So
 sym : So → Ce → Int
 args : So → Ce → Ce → List (Ce × Ce)
def q2m (O : Uo) : Nat → So → List (Ce × Ce) → Int × So
 | 0, s, [] => (0, s)
 | 0, s, _ :: _ => (2, s)
 | _ + 1, s, [] => (0, s)
 | k + 1, s, p :: st =>
  if O.der s p.1 = O.der s p.2 then q2m O k s st
  else if (O.meet s (O.der s p.1) (O.der s p.2)).1 then q2m O k (O.meet s (O.der s p.1) (O.der s p.2)).2 st
  else if O.sym (O.meet s (O.der s p.1) (O.der s p.2)).2 (O.der s p.1) < 0 ∨ O.sym (O.meet s (O.der s p.1) (O.der s p.2)).2 (O.der s p.1) ≠ O.sym (O.meet s (O.der s p.1) (O.der s p.2)).2 (O.der s p.2) then (4, (O.meet s (O.der s p.1) (O.der s p.2)).2)
  else q2m O k (O.meet s (O.der s p.1) (O.der s p.2)).2 (O.args (O.meet s (O.der s p.1) (O.der s p.2)).2 (O.der s p.1) (O.der s p.2) ++ st)
theorem z4o {O : Uo} : ∀ {k : Nat} {s : So}, q2m O k s [] = (0, s)
 | 0, s => rfl
 | k + 1, s => rfl
theorem qyn {O : Uo} {s : So} {p : Ce × Ce} {st : List (Ce × Ce)} : q2m O 0 s (p :: st) = (2, s) := rfl
theorem qh5 {O : Uo} (h : ∀ s x y, Back 1 s (O.meet s x y).2) : ∀ (k : Nat) (s : So) (st : List (Ce × Ce)), Back k s (q2m O k s st).2
 | 0, s, [] => Back.refl s
 | 0, s, p :: st => Back.refl s
 | k + 1, s, [] => (Back.refl s).mono (by omega)
 | k + 1, s, p :: st => by
  rw [q2m]
  have hm := h s (O.der s p.1) (O.der s p.2)
  split
  ·exact (qh5 h k s st).mono (by omega)
  split
  ·exact (hm.trans (qh5 h k _ st)).mono (by omega)
  split
  ·exact hm.mono (by omega)
  ·exact (hm.trans (qh5 h k _ _)).mono (by omega)
def q7m (s : So) (_ _ : Ce) : Bool × So := (false, s)
def q0t (m : So → Ce → Ce → Bool × So) : Uo := ⟨q0o, m, jb, fun s x y => (q1e s x).zip (q1e s y)⟩
def qfa (s : So) : Bool := decide (s.cs.length ≤ 1048576) && (decide (s.tr.length ≤ 1048576) && decide (s.wk.length ≤ 1048576))
theorem qjl {s : So} : qfa s = true ↔ s.cs.length ≤ 1048576 ∧ s.tr.length ≤ 1048576 ∧ s.wk.length ≤ 1048576 := by simp [qfa]
def eP (p : Ce × Ce) : D := .a [eC p.1, eC p.2]
theorem zj8 (p : Ce × Ce) : (eP p).fld 0 = eC p.1 := rfl
theorem ziv (p : Ce × Ce) : (eP p).fld 1 = eC p.2 := rfl
theorem qyk (M : List D) (x : D) : (D.r (M ++ [x])).get (((M ++ [x]).length : Nat) - 1 : Int) = x := by
 have e : ((((M ++ [x]).length : Nat) : Int) - 1) = (M.length : Nat) := by simp
 rw [e]
 simp [D.get, D.rs]
theorem qz1 (M : List D) (x : D) : List.take ((((M ++ [x]).length : Nat) : Int) - 1).toNat (M ++ [x]) = M := by
 have e : ((((M ++ [x]).length : Nat) : Int) - 1).toNat = M.length := by simp
 rw [e, List.take_left]
theorem gnU : type_of% (And.intro @List.getD_cons_zero.{0} (And.intro @List.getD_cons_succ.{0} (And.intro @List.getElem?_cons_zero.{0} (And.intro @List.getElem?_cons_succ.{0} (And.intro @z0q (And.intro @z5 (And.intro @qw9 (And.intro @Option.isSome_some.{0} (And.intro @Option.getD_some.{0} (And.intro @List.take_succ_cons.{0} (And.intro @List.take_zero.{0} (And.intro @List.nil_append.{0} (And.intro @List.cons_append.{0} (And.intro @List.drop_zero.{0} (And.intro @qyk (And.intro @qz1 (And.intro @zj8 (And.intro @ziv (And.intro @z3 (And.intro @ym (And.intro @decide_true (And.intro @Int.toNat_zero (And.intro @qzm (And.intro @qq6 (And.intro @decide_false (And.intro @true_and (And.intro @and_true (And.intro @Bool.false_eq_true (And.intro @false_implies (And.intro @true_implies (And.intro @Bool.true_eq_false (And.intro @Bool.not_true (And.intro @Bool.not_false (And.intro @Bool.true_or (And.intro @Bool.or_true (And.intro @Bool.false_or @Bool.or_false)))))))))))))))))))))))))))))))))))) := And.intro @List.getD_cons_zero.{0} (And.intro @List.getD_cons_succ.{0} (And.intro @List.getElem?_cons_zero.{0} (And.intro @List.getElem?_cons_succ.{0} (And.intro @z0q (And.intro @z5 (And.intro @qw9 (And.intro @Option.isSome_some.{0} (And.intro @Option.getD_some.{0} (And.intro @List.take_succ_cons.{0} (And.intro @List.take_zero.{0} (And.intro @List.nil_append.{0} (And.intro @List.cons_append.{0} (And.intro @List.drop_zero.{0} (And.intro @qyk (And.intro @qz1 (And.intro @zj8 (And.intro @ziv (And.intro @z3 (And.intro @ym (And.intro @decide_true (And.intro @Int.toNat_zero (And.intro @qzm (And.intro @qq6 (And.intro @decide_false (And.intro @true_and (And.intro @and_true (And.intro @Bool.false_eq_true (And.intro @false_implies (And.intro @true_implies (And.intro @Bool.true_eq_false (And.intro @Bool.not_true (And.intro @Bool.not_false (And.intro @Bool.true_or (And.intro @Bool.or_true (And.intro @Bool.false_or @Bool.or_false)))))))))))))))))))))))))))))))))))
theorem qyp (p : Ce × Ce) (l : List (Ce × Ce)) : (p :: l).reverse.map eP = l.reverse.map eP ++ [eP p] := by simp
theorem z4i (Z l : List (Ce × Ce)) : (Z ++ l).reverse.map eP = l.reverse.map eP ++ Z.reverse.map eP := by simp
theorem z9b {Z : List (Ce × Ce)} {j : Nat} (h : j < Z.length) : (Z.drop j).reverse.map eP = (Z.drop (j + 1)).reverse.map eP ++ [eP Z[j]] := by
 rw [List.drop_eq_getElem_cons h, List.reverse_cons, List.map_append]
 rfl
theorem zf0 {A B : List Ce} {j : Nat} (h : j < (A.zip B).length) : (A.zip B)[j] = (A.getD j default, B.getD j default) := by
 have h' := h
 rw [List.length_zip] at h'
 rw [List.getElem_zip, List.getD_eq_getElem?_getD, List.getD_eq_getElem?_getD, List.getElem?_eq_getElem (by omega), List.getElem?_eq_getElem (by omega)]
 rfl
theorem zfm (a b : Ce) : D.a [eC a, eC b] = eP (a, b) := rfl
theorem z3x {S : Nat → List D → Option (List D)} {R : List D → Prop} {id n : Nat} {x0 x1 : X} {body : Tree} {l : List D} {B : Nat → List D → Prop} (M : List D) (A C : List Ce) (h0 : x0.ev (evl S l) = .r M) (h1 : x1.ev (evl S l) = .i ((min A.length C.length : Nat) - 1 : Int))
  (hend : ∀ B' : Nat → List D → Prop, (∀ j, j ≠ id → B' j = B j) → body.go S R (l.take n ++ [.r (M ++ (A.zip C).reverse.map eP), .i (-1)]) B')
  (hstep : ∀ (N : List D) (j : Nat) (B' : Nat → List D → Prop), N.length ≤ M.length + (A.zip C).length → j < A.length → j < C.length → (∀ i, i ≠ id → B' i = B i) → B' id [.r (N ++ [eP (A.getD j default, C.getD j default)]), .i ((j : Int) - 1)] → body.go S R (l.take n ++ [.r N, .i j]) B') : (Tree.loop id n [x0, x1] body).go S R l B := by
 rw [zi]
 refine ⟨fun st => ∃ i : Nat, i ≤ (A.zip C).length ∧ st = [.r (M ++ ((A.zip C).drop i).reverse.map eP), .i ((i : Int) - 1)], fun st => ((st.getD 1 .u).int + 1).toNat, ⟨(A.zip C).length, Nat.le_refl _, by simp [X.evs, h0, h1]⟩, ?_⟩
 rintro st - ⟨i, hi, rfl⟩
 cases i with
 | zero =>
  rw [List.drop_zero]
  exact hend _ fun j hj => by rw [jm, if_neg hj]
 | succ j =>
  have e : ((j + 1 : Nat) : Int) - 1 = j := by omega
  rw [e]
  have hz := hi
  rw [List.length_zip] at hz
  refine hstep _ j _ ?_ (by omega) (by omega) (fun i hi => by rw [jm, if_neg hi]) ?_
  ·rw [List.length_append, List.length_map, List.length_reverse, List.length_drop]
   omega
  ·rw [jm, if_pos rfl]
   refine ⟨⟨j, by omega, ?_⟩, ?_⟩
   ·rw [z9b (j := j) (by omega), zf0 (by omega), List.append_assoc]
   ·simp [D.int]
theorem z4g (a c : Nat) : ((if decide ((c : Int) < a) = true then D.i c else D.i a).int) = ((min a c : Nat) : Int) := by
 by_cases h : (c : Int) < a
 ·rw [if_pos (by simpa using h), z5]
  omega
 ·rw [if_neg (by simpa using h), z5]
  omega
def qvb : List D → Option (List D)
 | [s, a, b] => if qfa (dS s) then some [.i (q2m (q0t ji) 1048576 (dS s) [(dC a, dC b)]).1, eS (q2m (q0t ji) 1048576 (dS s) [(dC a, dC b)]).2] else none
 | _ => none
theorem qe3 : FOk zh qvb := qcx q8k q3h q5q q7a fun ds outs hw hg => by
 obtain ⟨d, r, rfl, hd, e, r', rfl, he, f, r2, rfl, hf, rfl⟩ := hw
 obtain ⟨s, rfl, hs⟩ := wfS hd
 obtain ⟨a, rfl, ha⟩ := wfC he
 obtain ⟨b, rfl, hb⟩ := wfC hf
 simp only [qvb, z3, ym, Option.ite_none_right_eq_some, Option.some.injEq] at hg
 obtain ⟨hsm, rfl⟩ := hg
 obtain ⟨hs1, hs2, hs3⟩ := qjl.1 hsm
 simp only [q2d]
 rw [zi]
 refine ⟨fun st => ∃ (k : Nat) (s' : So) (l : List (Ce × Ce)), k ≤ 1048576 ∧ st = [.i 0, .r (l.reverse.map eP), .i k, eS s'] ∧ l.length ≤ 1 + k * 1048576 ∧ Back k s s' ∧ q2m (q0t ji) (1048576 - k) s' l = q2m (q0t ji) 1048576 s [(a, b)], fun st => 1048576 - (st.getD 2 .u).int.toNat, ⟨0, s, [(a, b)], by omega, rfl, by simp, Back.refl s, by simp⟩, ?_⟩
 rintro st - ⟨k, s', l, hk, rfl, hlen, hbk, hrun⟩
 have hcs := hbk.cs
 obtain ⟨hl1, hl2, -, -⟩ := hbk.tr_len
 have hroom : qrf s' = true := qq3.2 ⟨by omega, by omega⟩
 cases l with
 | nil =>
  rw [z4o] at hrun
  simp [q9, qd, qa, qb, qc, X.says, X.ev, X.evs, evl, qe, gnA, ← hrun]
 | cons p l =>
  rw [qyp]
  have hML : (l.reverse.map eP).length = l.length := by simp
  generalize hM : l.reverse.map eP = M at hML ⊢
  by_cases hkm : k = 1048576
  ·subst hkm
   rw [Nat.sub_self, qyn] at hrun
   simp [q9, qd, qa, qb, qc, X.says, X.ev, X.evs, evl, qe, gnA, ← hrun]
  obtain ⟨n, hn⟩ : ∃ n, 1048576 - k = n + 1 := ⟨1048576 - k - 1, by omega⟩
  have hn2 : 1048576 - (k + 1) = n := by omega
  rw [hn, q2m] at hrun
  have hlM : (M ++ [eP p]).length = l.length + 1 := by simp [hML]
  have hlen' : l.length + 1 ≤ 1 + k * 1048576 := by simpa using hlen
  have hpos : (0 : Int) < ((M ++ [eP p]).length : Nat) := by omega
  have hkd : ¬ ((k : Int) = 1048576) := by omega
  have hki : ¬ ((D.i (k : Int)) = D.i 1048576) := fun e => by injection e with e; omega
  have hgb : ∀ x y, qwm [eC x, eC y, eS s'] = some [.b (ji s' x y).1, eS (ji s' x y).2] := fun x y => by
   simp only [qwm, qk1, z3, ym, hroom]
   rfl
  have hrg : j8 .i64 ((((M ++ [eP p]).length : Nat) : Int) - 1) = true := by rw [hlM]; simp only [q5g]; omega
  have hrk : j8 .i64 ((k : Int) + 1) = true := by simp only [q5g]; omega
  have hb1 : (0 : Int) ≤ (((M ++ [eP p]).length : Nat) : Int) - 1 := by omega
  have hb2 : (((M ++ [eP p]).length : Nat) : Int) - 1 < ((M ++ [eP p]).length : Nat) := by omega
  have hb3 : (((M ++ [eP p]).length : Nat) : Int) - 1 ≤ ((M ++ [eP p]).length : Nat) := by omega
  simp only [q9, qd, qa, qb, qc, X.says, X.ev, X.evs, evl, qe, gnU, implies_true, reduceCtorEq, if_true, if_false, qa4, qyy, qdr, hgb, hpos, hrg, hrk, hb1, hb2, hb3, hkd]
  have hO1 : (q0t ji).der = q0o := rfl
  have hO2 : (q0t ji).meet = ji := rfl
  have hO3 : (q0t ji).sym = jb := rfl
  have hO4 : (q0t ji).args = fun s x y => (q1e s x).zip (q1e s y) := rfl
  rw [hO1, hO2, hO3, hO4] at hrun
  have hmb := qp8 s' (q0o s' p.1) (q0o s' p.2)
  generalize hx : q0o s' p.1 = x at hrun hmb ⊢
  generalize hy : q0o s' p.2 = y at hrun hmb ⊢
  by_cases hxy : x = y
  ·rw [if_pos hxy] at hrun
   subst hxy
   simp only [q9, qd, qa, qb, qc, X.says, X.ev, X.evs, evl, qe, gnU, implies_true, reduceCtorEq, if_true, if_false]
   rw [jm, if_pos rfl]
   refine ⟨⟨k + 1, s', l, by omega, by simp [hM], by omega, hbk.mono (by omega), by rw [hn2]; exact hrun⟩, ?_⟩
   simp [D.int]
   omega
  rw [if_neg hxy] at hrun
  have hxd : decide (x = y) = false := decide_eq_false hxy
  generalize hm' : ji s' x y = m at hrun hmb ⊢
  have hbm := hbk.trans hmb
  simp only [q9, qd, qa, qb, qc, X.says, X.ev, X.evs, evl, qe, gnU, implies_true, reduceCtorEq, if_true, if_false, hxd]
  cases hm : m.1 with
  | true =>
   rw [hm, if_pos rfl] at hrun
   simp only [q9, qd, qa, qb, qc, X.says, X.ev, X.evs, evl, qe, gnU, implies_true, reduceCtorEq, if_true, if_false]
   rw [jm, if_pos rfl]
   refine ⟨⟨k + 1, m.2, l, by omega, by simp [hM], by omega, hbm, by rw [hn2]; exact hrun⟩, ?_⟩
   simp [D.int]
   omega
  | false =>
   rw [hm, if_neg (by decide)] at hrun
   simp only [q9, qd, qa, qb, qc, X.says, X.ev, X.evs, evl, qe, gnU, implies_true, reduceCtorEq, if_true, if_false]
   by_cases hsy : jb m.2 x < 0 ∨ jb m.2 x ≠ jb m.2 y
   ·rw [if_pos hsy] at hrun
    have hsd : (decide (jb m.2 x < 0) || !decide (jb m.2 x = jb m.2 y)) = true := by
     rcases hsy with h | h <;> simp [h]
    simp only [q9, qd, qa, qb, qc, X.says, X.ev, X.evs, evl, qe, gnU, implies_true, reduceCtorEq, if_true, if_false, hsd]
    simp [← hrun]
   ·rw [if_neg hsy] at hrun
    have hsd : (decide (jb m.2 x < 0) || !decide (jb m.2 x = jb m.2 y)) = false := by
     have h1 : ¬ jb m.2 x < 0 := fun h => hsy (.inl h)
     have h2 : jb m.2 x = jb m.2 y := Classical.byContradiction fun h => hsy (.inr h)
     simp [h2]
     rw [← h2]
     omega
    have hA := qhi m.2 x
    have hC := qhi m.2 y
    have hmc := hmb.cs
    simp only [q9, qd, qa, qb, qc, X.says, X.ev, X.evs, evl, qe, gnU, implies_true, reduceCtorEq, if_true, if_false, hsd]
    refine ⟨?_, z3x M (q1e m.2 x) (q1e m.2 y) ?_ ?_ (fun B' hB' => ?_) fun N j B' hN hjA hjC hB' hback => ?_⟩
    ·rw [z4g]
     simp only [q5g, List.length_map]
     omega
    ·simp only [q9, qd, qa, qb, qc, X.says, X.ev, X.evs, evl, qe, gnU, implies_true, reduceCtorEq, if_true, if_false]
    ·simp only [q9, qd, qa, qb, qc, X.says, X.ev, X.evs, evl, qe, gnU, implies_true, reduceCtorEq, if_true, if_false, qa4, qdr, hgb, hx, hy, hm', hxd, z4g, List.length_map]
    ·simp only [q9, qd, qa, qb, qc, X.says, X.ev, X.evs, evl, qe, gnU, implies_true, reduceCtorEq, if_true, if_false, qa4, qdr, hgb, hx, hy, hm', hxd]
     refine ⟨fun h => absurd h (by decide), fun _ => ⟨hrk, ?_⟩⟩
     rw [hB' 3 (by decide), jm, if_pos rfl]
     refine ⟨⟨k + 1, m.2, (q1e m.2 x).zip (q1e m.2 y) ++ l, by omega, by rw [z4i, hM]; simp, ?_, hbm, by rw [hn2]; exact hrun⟩, ?_⟩
     ·rw [List.length_append, List.length_zip]
      omega
     ·simp [D.int]
      omega
    ·simp only [q9, qd, qa, qb, qc, X.says, X.ev, X.evs, evl, qe, gnU, implies_true, reduceCtorEq, if_true, if_false, qa4, qdr, hgb, hx, hy, hm', hxd, q27 eC hjA, q27 eC hjC, zfm, List.length_map]
     rw [List.length_zip] at hN
     refine ⟨fun _ => ⟨⟨?_, ?_, ?_, ?_, ?_⟩, ?_, hback⟩, fun h => absurd h (by simp)⟩
     ·simp only [decide_eq_true_eq]
      omega
     ·simp
     ·simpa using hjC
     ·simp
     ·simpa using hjA
     ·simp only [q5g]
      omega
theorem zi7 {k : Nat} {s : So} {p : Ce × Ce} {st : List (Ce × Ce)} : q2m (q0t q7m) (k + 1) s (p :: st) = if q0o s p.1 = q0o s p.2 then q2m (q0t q7m) k s st else if jb s (q0o s p.1) < 0 ∨ jb s (q0o s p.1) ≠ jb s (q0o s p.2) then (4, s) else q2m (q0t q7m) k s ((q1e s (q0o s p.1)).zip (q1e s (q0o s p.2)) ++ st) := by
 rw [q2m]
 by_cases h : q0o s p.1 = q0o s p.2
 ·rw [if_pos h]
  exact if_pos h
 ·rw [if_neg h]
  refine (if_neg h).trans (if_neg (show ¬ (q7m s (q0o s p.1) (q0o s p.2)).1 = true from Bool.false_ne_true))
def qxx : List D → Option (List D)
 | [s, a, b] => if qfa (dS s) then some [.i (q2m (q0t q7m) 1048576 (dS s) [(dC a, dC b)]).1] else none
 | _ => none
theorem qf4 : FOk yg qxx := qcy qa0 q3h q5q q7a fun ds outs hw hg => by
 obtain ⟨d, r, rfl, hd, e, r', rfl, he, f, r2, rfl, hf, rfl⟩ := hw
 obtain ⟨s, rfl, hs⟩ := wfS hd
 obtain ⟨a, rfl, ha⟩ := wfC he
 obtain ⟨b, rfl, hb⟩ := wfC hf
 simp only [qxx, z3, ym, Option.ite_none_right_eq_some, Option.some.injEq] at hg
 obtain ⟨hsm, rfl⟩ := hg
 obtain ⟨hs1, hs2, hs3⟩ := qjl.1 hsm
 simp only [q2o]
 rw [zi]
 refine ⟨fun st => ∃ (k : Nat) (l : List (Ce × Ce)), k ≤ 1048576 ∧ st = [.i 0, .r (l.reverse.map eP), .i k] ∧ l.length ≤ 1 + k * 1048576 ∧ q2m (q0t q7m) (1048576 - k) s l = q2m (q0t q7m) 1048576 s [(a, b)], fun st => 1048576 - (st.getD 2 .u).int.toNat, ⟨0, [(a, b)], by omega, rfl, by simp, by simp⟩, ?_⟩
 rintro st - ⟨k, l, hk, rfl, hlen, hrun⟩
 cases l with
 | nil =>
  rw [z4o] at hrun
  simp [q9, qd, qa, qb, qc, X.says, X.ev, X.evs, evl, qe, gnA, ← hrun]
 | cons p l =>
  rw [qyp]
  have hML : (l.reverse.map eP).length = l.length := by simp
  generalize hM : l.reverse.map eP = M at hML ⊢
  by_cases hkm : k = 1048576
  ·subst hkm
   rw [Nat.sub_self, qyn] at hrun
   simp [q9, qd, qa, qb, qc, X.says, X.ev, X.evs, evl, qe, gnA, ← hrun]
  obtain ⟨n, hn⟩ : ∃ n, 1048576 - k = n + 1 := ⟨1048576 - k - 1, by omega⟩
  have hn2 : 1048576 - (k + 1) = n := by omega
  rw [hn, zi7] at hrun
  have hlM : (M ++ [eP p]).length = l.length + 1 := by simp [hML]
  have hlen' : l.length + 1 ≤ 1 + k * 1048576 := by simpa using hlen
  have hpos : (0 : Int) < ((M ++ [eP p]).length : Nat) := by omega
  have hkd : ¬ ((k : Int) = 1048576) := by omega
  have hrg : j8 .i64 ((((M ++ [eP p]).length : Nat) : Int) - 1) = true := by rw [hlM]; simp only [q5g]; omega
  have hrk : j8 .i64 ((k : Int) + 1) = true := by simp only [q5g]; omega
  have hb1 : (0 : Int) ≤ (((M ++ [eP p]).length : Nat) : Int) - 1 := by omega
  have hb2 : (((M ++ [eP p]).length : Nat) : Int) - 1 < ((M ++ [eP p]).length : Nat) := by omega
  have hb3 : (((M ++ [eP p]).length : Nat) : Int) - 1 ≤ ((M ++ [eP p]).length : Nat) := by omega
  simp only [q9, qd, qa, qb, qc, X.says, X.ev, X.evs, evl, qe, gnU, implies_true, reduceCtorEq, if_true, if_false, qa4, qyy, qdr, gNo, hpos, hrg, hrk, hb1, hb2, hb3, hkd]
  generalize hx : q0o s p.1 = x at hrun ⊢
  generalize hy : q0o s p.2 = y at hrun ⊢
  by_cases hxy : x = y
  ·rw [if_pos hxy] at hrun
   subst hxy
   simp only [q9, qd, qa, qb, qc, X.says, X.ev, X.evs, evl, qe, gnU, implies_true, reduceCtorEq, if_true, if_false]
   rw [jm, if_pos rfl]
   refine ⟨⟨k + 1, l, by omega, by simp [hM], by omega, by rw [hn2]; exact hrun⟩, ?_⟩
   simp [D.int]
   omega
  rw [if_neg hxy] at hrun
  have hxd : decide (x = y) = false := decide_eq_false hxy
  simp only [q9, qd, qa, qb, qc, X.says, X.ev, X.evs, evl, qe, gnU, implies_true, reduceCtorEq, if_true, if_false, hxd]
  by_cases hsy : jb s x < 0 ∨ jb s x ≠ jb s y
  ·rw [if_pos hsy] at hrun
   have hsd : (decide (jb s x < 0) || !decide (jb s x = jb s y)) = true := by
    rcases hsy with h | h <;> simp [h]
   simp only [q9, qd, qa, qb, qc, X.says, X.ev, X.evs, evl, qe, gnU, implies_true, reduceCtorEq, if_true, if_false, hsd]
   simp [← hrun]
  ·rw [if_neg hsy] at hrun
   have hsd : (decide (jb s x < 0) || !decide (jb s x = jb s y)) = false := by
    have h1 : ¬ jb s x < 0 := fun h => hsy (.inl h)
    have h2 : jb s x = jb s y := Classical.byContradiction fun h => hsy (.inr h)
    simp [h2]
    rw [← h2]
    omega
   have hA := qhi s x
   have hC := qhi s y
   simp only [q9, qd, qa, qb, qc, X.says, X.ev, X.evs, evl, qe, gnU, implies_true, reduceCtorEq, if_true, if_false, hsd]
   refine ⟨?_, z3x M (q1e s x) (q1e s y) ?_ ?_ (fun B' hB' => ?_) fun N j B' hN hjA hjC hB' hback => ?_⟩
   ·rw [z4g]
    simp only [q5g, List.length_map]
    omega
   ·simp only [q9, qd, qa, qb, qc, X.says, X.ev, X.evs, evl, qe, gnU, implies_true, reduceCtorEq, if_true, if_false]
   ·simp only [q9, qd, qa, qb, qc, X.says, X.ev, X.evs, evl, qe, gnU, implies_true, reduceCtorEq, if_true, if_false, qa4, qdr, hx, hy, hxd, z4g, List.length_map]
   ·simp only [q9, qd, qa, qb, qc, X.says, X.ev, X.evs, evl, qe, gnU, implies_true, reduceCtorEq, if_true, if_false, qa4, qdr, hx, hy, hxd]
    refine ⟨fun h => absurd h (by decide), fun _ => ⟨hrk, ?_⟩⟩
    rw [hB' 3 (by decide), jm, if_pos rfl]
    refine ⟨⟨k + 1, (q1e s x).zip (q1e s y) ++ l, by omega, by rw [z4i, hM]; simp, ?_, by rw [hn2]; exact hrun⟩, ?_⟩
    ·rw [List.length_append, List.length_zip]
     omega
    ·simp [D.int]
     omega
   ·simp only [q9, qd, qa, qb, qc, X.says, X.ev, X.evs, evl, qe, gnU, implies_true, reduceCtorEq, if_true, if_false, qa4, qdr, hx, hy, hxd, q27 eC hjA, q27 eC hjC, zfm, List.length_map]
    rw [List.length_zip] at hN
    refine ⟨fun _ => ⟨⟨?_, ?_, ?_, ?_, ?_⟩, ?_, hback⟩, fun h => absurd h (by simp)⟩
    ·simp only [decide_eq_true_eq]
     omega
    ·simp
    ·simpa using hjC
    ·simp
    ·simpa using hjA
    ·simp only [q5g]
     omega
theorem z62 {k : Nat} {s s' : So} (h : Back k s s') : { (qr8 s' s.tr.length s.cs.length) with wk := s'.wk.take s.wk.length } = s := by
 obtain ⟨⟨n, w, h1, h2, h3, h4, h5⟩, h6, h7, h8, h9⟩ := h
 obtain ⟨cs, ys, tr, wk, ser, mx⟩ := s
 obtain ⟨cs', ys', tr', wk', ser', mx'⟩ := s'
 simp only at h1 h2 h3 h6 h7 h8 h9
 subst h1 h2 h7 h8 h9
 simp only [qr8, Int.toNat_natCast, List.take_left, List.drop_left, h3, List.take_length]
def z23 (s : So) (a b : Ce) : Int × So :=
 if vcP s a = false ∨ vcP s b = false then (1, s)
 else if (q2m (q0t ji) 1048576 s [(a, b)]).1 = 0 then q2m (q0t ji) 1048576 s [(a, b)]
 else ((q2m (q0t ji) 1048576 s [(a, b)]).1, s)
def qxc : List D → Option (List D)
 | [s, a, b] => if qfa (dS s) then some [.i (z23 (dS s) (dC a) (dC b)).1, eS (z23 (dS s) (dC a) (dC b)).2] else none
 | _ => none
def qnq : List D → Option (List D)
 | [e, m, t, w, s] => if e.int = 0 then some [s] else if q8a (dS s) m.int t.int && (decide (0 ≤ w.int) && decide (w.int ≤ (dS s).wk.length)) then some [eS { (qr8 (dS s) m.int t.int) with wk := (dS s).wk.take w.int.toNat }] else none
 | _ => none
theorem q92 : ∀ ds outs, WfA zz.ars ds → qnq ds = some outs → q0v.go (qe [(jc, qow)]) (fun o => o = outs) ds fun _ _ => False := fun ds outs hw hg => by
 obtain ⟨d, r, rfl, hd, e, r', rfl, he, f, r2, rfl, hf, q, r3, rfl, hq, x, r4, rfl, hx, rfl⟩ := hw
 obtain ⟨e, rfl, -⟩ := wfI hd
 obtain ⟨m, rfl, hm⟩ := wfI he
 obtain ⟨t, rfl, ht⟩ := wfI hf
 obtain ⟨w, rfl, hw⟩ := wfI hq
 obtain ⟨s, rfl, hs⟩ := wfS hx
 simp only [qnq, z5, z3] at hg
 by_cases h0 : e = 0
 ·rw [if_pos h0] at hg
  injection hg with hg
  subst hg h0
  simp [q0v, q9, qd, qa, qb, qc, X.says, X.ev, X.evs, evl, qe, gnA]
 ·rw [if_neg h0] at hg
  split at hg
  ·rename_i hc
   injection hg with hg
   subst hg
   simp only [Bool.and_eq_true, decide_eq_true_eq] at hc
   obtain ⟨hmk, hw0, hw1⟩ := hc
   have hU : qow [eS s, .i m, .i t] = some [.i 0, eS (qr8 s m t)] := by
    simp only [qow, z3, z5]
    rw [if_pos hmk]
   simp only [q0v, q9, qd, qa, qb, qc, X.says, X.ev, X.evs, evl, qe, gnA, hU, h0]
   refine ⟨fun h => ?_, fun h => by cases h⟩
   refine ⟨⟨of_decide_eq_true hw0, hw1⟩, ?_⟩
   simp [eS, D.fs, qr8, List.map_take]
  ·cases hg
theorem qao : FOk yh qxc := qmd (g0 := qnq) (qfd qdo q92) q8k yk qe3
  (zfd (tbl := [(jc, qow)]) q85 Try.f24 _ (.cons qdo .nil) rfl rfl (by decide) fun ds outs hw hg => by rw [q7f qow _ rfl]; exact q92 ds outs hw hg)
  rfl fun ds outs hw hg => by
 obtain ⟨d, r, rfl, hd, e, r', rfl, he, f, r2, rfl, hf, rfl⟩ := hw
 obtain ⟨s, rfl, hs⟩ := wfS hd
 obtain ⟨a, rfl, ha⟩ := wfC he
 obtain ⟨b, rfl, hb⟩ := wfC hf
 simp only [qxc, z3, ym, Option.ite_none_right_eq_some, Option.some.injEq] at hg
 obtain ⟨hsm, rfl⟩ := hg
 have hbk := qh5 (O := q0t ji) qp8 1048576 s [(a, b)]
 have hP : qvb [eS s, eC a, eC b] = some [.i (q2m (q0t ji) 1048576 s [(a, b)]).1, eS (q2m (q0t ji) 1048576 s [(a, b)]).2] := by
  simp only [qvb, z3, ym]
  rw [if_pos hsm]
 simp only [q4w, q9, qd, qa, qb, qc, X.says, X.ev, X.evs, evl, qe, gnA, qg8, hP, z23]
 cases hva : vcP s a with
 | false => simp
 | true =>
  cases hvb : vcP s b with
  | false => simp
  | true =>
   have hu := z62 hbk
   obtain ⟨hl1, hl2, hl3, hl4⟩ := hbk.tr_len
   have hcs := hbk.cs
   generalize q2m (q0t ji) 1048576 s [(a, b)] = R at hu hl1 hl2 hl3 hl4 hcs ⊢
   have hD : qnq [.i R.1, .i s.tr.length, .i s.cs.length, .i s.wk.length, eS R.2] = some [eS (if R.1 = 0 then R.2 else s)] := by
    simp only [qnq, z5, z3]
    by_cases h0 : R.1 = 0
    ·rw [if_pos h0, if_pos h0]
    ·rw [if_neg h0, if_neg h0, if_pos]
     ·rw [Int.toNat_natCast, hu]
     ·simp [q8a]
      omega
   simp only [hD]
   by_cases h0 : R.1 = 0
   ·simp [h0]
   ·simp [h0]
def zir (s : So) (a b : Ce) : Bool × Int :=
 if vcP s a = false ∨ vcP s b = false then (false, 1)
 else if (q2m (q0t q7m) 1048576 s [(a, b)]).1 = 0 then (true, 0)
 else if (q2m (q0t q7m) 1048576 s [(a, b)]).1 = 2 then (false, 2) else (false, 0)
def z7s (f : So → Ce → Ce → Bool × Int) : List D → Option (List D)
 | [s, a, b] => if qfa (dS s) then some [.b (f (dS s) (dC a) (dC b)).1, .i (f (dS s) (dC a) (dC b)).2] else none
 | _ => none
theorem qso : FOk q0j (z7s zir) := qpj qa0 yk qf4 fun ds outs hw hg => by
 obtain ⟨d, r, rfl, hd, e, r', rfl, he, f, r2, rfl, hf, rfl⟩ := hw
 obtain ⟨s, rfl, hs⟩ := wfS hd
 obtain ⟨a, rfl, ha⟩ := wfC he
 obtain ⟨b, rfl, hb⟩ := wfC hf
 simp only [z7s, z3, ym, Option.ite_none_right_eq_some, Option.some.injEq] at hg
 obtain ⟨hsm, rfl⟩ := hg
 have hP : qxx [eS s, eC a, eC b] = some [.i (q2m (q0t q7m) 1048576 s [(a, b)]).1] := by
  simp only [qxx, z3, ym]
  rw [if_pos hsm]
 simp only [q5t, q9, qd, qa, qb, qc, X.says, X.ev, X.evs, evl, qe, gnA, qg8, hP, zir]
 cases hva : vcP s a with
 | false => simp
 | true =>
  cases hvb : vcP s b with
  | false => simp
  | true =>
   generalize (q2m (q0t q7m) 1048576 s [(a, b)]).1 = R
   by_cases h0 : R = 0
   ·simp [h0]
   ·by_cases h2 : R = 2
    ·simp [h2]
    ·simp [h0, h2]
section
section
variable {s : So} {a : Int} {c : Ce}
theorem q4c (i : Int) : inS (q0a s a c) i = inS s i := by simp [inS, q0a]
theorem qeg (h : inS s a = true) {i : Int} (hi : inS s i = true) : cellAt (q0a s a c) i = if i = a then yr c else cellAt s i := by
 have h1 := qn.1 h
 have h2 := qn.1 hi
 unfold cellAt q0a
 by_cases e : i = a
 ·subst e
  rw [if_pos rfl, List.getD_eq_getElem?_getD, List.getElem?_set_self (by omega)]
  rfl
 ·rw [if_neg e, List.getD_eq_getElem?_getD, List.getElem?_set_ne (by omega), ← List.getD_eq_getElem?_getD]
theorem q82 (h : inS s a = true) (i : Int) : q08 (q0a s a c) i = if i = a then (yr c).t else q08 s i := by
 cases hi : inS s i with
 | false =>
  rw [q35 (by rw [q4c]; exact hi), q35 hi, if_neg]
  intro e
  subst e
  rw [h] at hi
  cases hi
 | true =>
  rw [z9 (by rw [q4c]; exact hi), qeg h hi]
  split
  ·rfl
  ·rw [z9 hi]
theorem zhx (n : Int) : arS (q0a s a c) n = arS s n := rfl
structure Sets (s : So) (a : Int) (c : Ce) : Prop where
 v : qs s = true
 i : inS s a = true
 old : (cellAt s a).t = 0 ∧ (cellAt s a).n = a ∨ (cellAt s a).t = 5
 vc : vcR s c = true
 no : q9i s (yr c) a = false
theorem z1d {x : Ce} (h : vcR s x = true) : x.t = 0 ∨ x.t = 1 ∨ x.t = 2 ∨ x.t = 3 ∨ x.t = 5 := by
 unfold vcR at h
 by_cases h0 : x.t = 0
 ·exact .inl h0
 by_cases h1 : x.t = 1
 ·exact .inr (.inl h1)
 by_cases h2 : x.t = 2
 ·exact .inr (.inr (.inl h2))
 by_cases h3 : x.t = 3
 ·exact .inr (.inr (.inr (.inl h3)))
 by_cases h5 : x.t = 5
 ·exact .inr (.inr (.inr (.inr h5)))
 ·rw [if_neg h0, if_neg h1, if_neg h2, if_neg h3, if_neg h5] at h
  cases h
theorem q8z {x : Ce} (h : vcR s x = true) : (yr x).t = 0 ∨ (yr x).t = 1 ∨ (yr x).t = 2 ∨ (yr x).t = 3 := by
 unfold yr
 split
 ·exact .inl rfl
 ·rename_i h5
  rcases z1d h with h | h | h | h | h
  ·exact .inl h
  ·exact .inr (.inl h)
  ·exact .inr (.inr (.inl h))
  ·exact .inr (.inr (.inr h))
  ·exact (h5 h).elim
theorem qwx {x : Ce} (h : vcR s x = true) : vcR s (yr x) = true := by
 unfold yr
 split
 ·rename_i h5
  unfold vcR at h
  rw [if_neg (by omega), if_neg (by omega), if_neg (by omega), if_neg (by omega), if_pos h5] at h
  have ht : q08 s x.n = 5 := of_decide_eq_true h
  have hi := q2s (by decide) ht
  unfold vcR
  rw [if_pos rfl]
  simp [hi, ht]
 ·exact h
theorem Sets.ne4 (h : Sets s a c) : (cellAt s a).t ≠ 4 ∧ (cellAt s a).t ≠ 1 := by
 rcases h.old with ⟨h0, -⟩ | h0 <;> omega
theorem zdx (h : Sets s a c) (i : Int) : q08 (q0a s a c) i = 4 ↔ q08 s i = 4 := by
 rw [q82 h.i]
 split
 ·rename_i e
  subst e
  have := q8z h.vc
  have := h.ne4
  rw [z9 h.i]
  omega
 ·exact Iff.rfl
theorem qhl (h : Sets s a c) {x : Ce} (h5 : x.t ≠ 5) : vcR (q0a s a c) x = vcR s x := by
 have e4 : ∀ i, decide (q08 (q0a s a c) i = 4) = decide (q08 s i = 4) := fun i => decide_eq_decide.2 (zdx h i)
 unfold vcR
 by_cases h0 : x.t = 0
 ·rw [if_pos h0, if_pos h0, q4c, e4]
 rw [if_neg h0, if_neg h0]
 by_cases h1 : x.t = 1
 ·rw [if_pos h1, if_pos h1]
 rw [if_neg h1, if_neg h1]
 by_cases h2 : x.t = 2
 ·rw [if_pos h2, if_pos h2]
  rfl
 rw [if_neg h2, if_neg h2]
 by_cases h3 : x.t = 3
 ·rw [if_pos h3, if_pos h3, e4]
 rw [if_neg h3, if_neg h3, if_neg h5, if_neg h5]
theorem zbb (h : Sets s a c) {n : Int} (hn : inS s n = true) (hne : n ≠ a) : (Ns (q0a s a c) n ↔ Ns s n) ∧ nx (q0a s a c) n = nx s n := by
 unfold Ns nx
 rw [q82 h.i, qeg h.i hn, if_neg hne, if_neg hne]
 exact ⟨Iff.rfl, rfl⟩
theorem zfv (h : Sets s a c) : ∀ (m : Nat) (n : Int), inS s n = true → q1g s m n = true → q62 s a m ⟨0, n⟩ = false → En (q0a s a c) n
 | 0, n, _, he, _ => by cases he
 | m + 1, n, hi, he, hc => by
  unfold q62 at hc
  rw [if_pos ⟨rfl, hi⟩] at hc
  by_cases hna : n = a
  ·rw [if_pos hna] at hc
   cases hc
  rw [if_neg hna] at hc
  obtain ⟨h1, h2⟩ := zbb h hi hna
  by_cases hn : Ns s n
  ·have ht : (cellAt s n).t = 0 := by have := hn.1; rwa [z9 hi] at this
   have e : cellAt s n = ⟨0, nx s n⟩ := Ce.ext' ht rfl
   rw [q07 hn] at he
   rw [e] at hc
   refine En.ns (h1.2 hn) ?_
   rw [h2]
   exact zfv h m _ (z39 h.v hn) he hc
  ·exact En.st fun q => hn (h1.1 q)
theorem zjy (h : Sets s a c) : En (q0a s a c) a := by
 have hk := qwx h.vc
 by_cases hn : Ns (q0a s a c) a
 ·refine En.ns hn ?_
  have e : nx (q0a s a c) a = (yr c).n := by
   unfold nx
   rw [qeg h.i h.i, if_pos rfl]
  have h0 : (yr c).t = 0 := by
   have := hn.1
   rwa [q82 h.i, if_pos rfl] at this
  rw [e]
  have hi := (q4h hk h0).1
  have e2 : yr c = ⟨0, (yr c).n⟩ := Ce.ext' h0 rfl
  have hno := h.no
  unfold q9i at hno
  rw [e2] at hno
  exact zfv h _ _ hi (qy2 h.v hi) hno
 ·exact En.st hn
theorem z8a (h : Sets s a c) : ∀ (m : Nat) (n : Int), inS s n = true → q1g s m n = true → En (q0a s a c) n
 | 0, n, _, he => by cases he
 | m + 1, n, hi, he => by
  by_cases hna : n = a
  ·subst hna
   exact zjy h
  obtain ⟨h1, h2⟩ := zbb h hi hna
  by_cases hn : Ns s n
  ·rw [q07 hn] at he
   refine En.ns (h1.2 hn) ?_
   rw [h2]
   exact z8a h m _ (z39 h.v hn) he
  ·exact En.st fun q => hn (h1.1 q)
theorem qi1 (h : Sets s a c) {i : Int} (hg : q43 s i = true) : q43 (q0a s a c) i = true := by
 simp only [q43, Bool.and_eq_true, decide_eq_true_eq, Bool.not_eq_true', decide_eq_false_iff_not] at hg ⊢
 obtain ⟨g1, g2, g3, g4, g5, g6⟩ := hg
 have hi1 := q2s (by decide) g1
 have hne : i + 1 ≠ a := fun e => by
  rw [e, z9 h.i] at g1
  exact h.ne4.2 g1
 rw [q82 h.i, if_neg hne, qeg h.i hi1, if_neg hne, q82 h.i]
 have hk := q8z h.vc
 refine ⟨g1, g2, g3, ?_, ?_, ?_⟩ <;> split <;> omega
theorem zbf (h : Sets s a c) {i : Int} (hi : inS s i = true) : q3b (q0a s a c) i = true := by
 have hk := q8z h.vc
 unfold q3b
 rw [qeg h.i hi]
 by_cases hia : i = a
 ·rw [if_pos hia, if_neg (by omega)]
  simp only [Bool.and_eq_true, Bool.or_eq_true, Bool.not_eq_true', decide_eq_false_iff_not, decide_eq_true_eq]
  refine ⟨?_, ?_, .inl (by omega)⟩
  ·rw [qhl h (by omega)]
   exact qwx h.vc
  ·rw [hia]
   exact (zjy h).ends
 ·rw [if_neg hia]
  have hc := q6i h.v hi
  unfold q3b at hc
  by_cases h4 : (cellAt s i).t = 4
  ·rw [if_pos h4] at hc ⊢
   simp only [Bool.and_eq_true, decide_eq_true_eq, List.all_eq_true, List.mem_range, Bool.not_eq_true', decide_eq_false_iff_not] at hc ⊢
   refine ⟨hc.1, by rw [q4c]; exact hc.2.1, fun j hj => ?_⟩
   rw [zdx h]
   exact hc.2.2 j hj
  ·rw [if_neg h4] at hc ⊢
   simp only [Bool.and_eq_true, Bool.or_eq_true, Bool.not_eq_true', decide_eq_false_iff_not, decide_eq_true_eq] at hc ⊢
   refine ⟨?_, (z8a h _ _ hi (qy2 h.v hi)).ends, ?_⟩
   ·by_cases h5 : (cellAt s i).t = 5
    ·have hn : (cellAt s i).n = i := by
      rcases hc.2.2 with q | q
      ·exact (q h5).elim
      ·exact q.1
     unfold vcR
     rw [if_neg (by omega), if_neg (by omega), if_neg (by omega), if_neg (by omega), if_pos h5, hn, q82 h.i, if_neg hia, z9 hi]
     exact decide_eq_true h5
    ·rw [qhl h h5]
     exact hc.1
   ·rcases hc.2.2 with q | q
    ·exact .inl q
    ·exact .inr ⟨q.1, qi1 h q.2⟩
theorem ze9 (h : Sets s a c) {u : Un} (hu : qsu s u = true) : qsu (q0a s a c) u = true := by
 unfold qsu zf4 at hu ⊢
 simp only [Bool.and_eq_true] at hu ⊢
 refine ⟨by rw [q4c]; exact hu.1, ?_⟩
 have h2 := hu.2
 by_cases h0 : u.old.t = 0
 ·rw [if_pos h0] at h2 ⊢
  exact h2
 rw [if_neg h0] at h2 ⊢
 by_cases h5 : u.old.t = 5
 ·rw [if_pos h5] at h2 ⊢
  simp only [Bool.and_eq_true, decide_eq_true_eq, Bool.not_eq_true', decide_eq_false_iff_not] at h2 ⊢
  refine ⟨h2.1, qi1 h h2.2.1, ?_⟩
  rw [q82 h.i]
  have := q8z h.vc
  split
  ·omega
  ·exact h2.2.2
 rw [if_neg h5] at h2 ⊢
 by_cases h1 : u.old.t = 1 ∨ u.old.t = 2 ∨ u.old.t = 3
 ·rw [if_pos h1] at h2 ⊢
  rw [qhl h h5]
  exact h2
 ·rw [if_neg h1] at h2
  cases h2
theorem zf3 (h : Sets s a c) : qsu (q0a s a c) ⟨a, cellAt s a⟩ = true := by
 unfold qsu zf4
 simp only [q4c, h.i, Bool.true_and]
 rcases h.old with ⟨h0, hn⟩ | h5
 ·rw [if_pos h0, hn]
  simp
 ·rw [if_neg (by omega), if_pos h5]
  have hc := q6i h.v h.i
  unfold q3b at hc
  rw [if_neg (by omega)] at hc
  simp only [Bool.and_eq_true, Bool.or_eq_true, Bool.not_eq_true', decide_eq_false_iff_not, decide_eq_true_eq] at hc
  obtain ⟨hn, hg⟩ : (cellAt s a).n = a ∧ q43 s a = true := by
   rcases hc.2.2 with q | q
   ·exact (q h5).elim
   ·exact q
  simp only [Bool.and_eq_true, decide_eq_true_eq, Bool.not_eq_true', decide_eq_false_iff_not]
  refine ⟨hn, qi1 h hg, ?_⟩
  rw [q82 h.i]
  have hk := q8z h.vc
  split
  ·omega
  ·intro h1
   have hi1 := q2s (by decide) h1
   rw [z9 hi1] at h1
   have hc1 := q6i h.v hi1
   unfold q3b at hc1
   rw [if_neg (by omega)] at hc1
   simp only [Bool.and_eq_true, Bool.or_eq_true, Bool.not_eq_true', decide_eq_false_iff_not, decide_eq_true_eq] at hc1
   rcases hc1.2.2 with q | q
   ·exact q h1
   ·have := q.2
    simp only [q43, Bool.and_eq_true, decide_eq_true_eq] at this
    have h2 := this.1
    rw [show a - 1 + 1 = a by omega, z9 h.i] at h2
    omega
def qkr (s : So) : Bool := (List.range s.wk.length).all fun i => !decide ((s.wk.getD i default).att.t = 5) && !decide ((s.wk.getD i default).val.t = 5)
def q1n (s : So) : Bool := qkr s && qs s
theorem qch {s : So} : qs s = true ↔ qgx s = true ∧ (∀ i, inS s i = true → q3b s i = true) ∧ (∀ u ∈ s.tr, qsu s u = true) ∧ ∀ w ∈ s.wk, wkB vcR s w = true := by
 constructor
 ·intro h
  refine ⟨qfk h, fun i hi => q6i h hi, fun u hu => ?_, fun w hw => ?_⟩
  ·simp only [qs, Bool.and_eq_true] at h
   obtain ⟨k, hk, rfl⟩ := List.getElem_of_mem hu
   have := q9b h.2.2.1 (k := k) hk
   rwa [List.getD_eq_getElem?_getD, List.getElem?_eq_getElem hk] at this
  ·simp only [qs, Bool.and_eq_true] at h
   obtain ⟨k, hk, rfl⟩ := List.getElem_of_mem hw
   have := q9b h.2.2.2 (k := k) hk
   rwa [List.getD_eq_getElem?_getD, List.getElem?_eq_getElem hk] at this
 ·rintro ⟨h1, h2, h3, h4⟩
  simp only [qs, Bool.and_eq_true]
  refine ⟨h1, q8b fun k hk => h2 _ (qn.2 ⟨by omega, by omega⟩), q8b fun k hk => h3 _ (q19 hk), q8b fun k hk => h4 _ (q19 hk)⟩
theorem qph {s : So} : qkr s = true ↔ ∀ w ∈ s.wk, w.att.t ≠ 5 ∧ w.val.t ≠ 5 := by
 constructor
 ·intro h w hw
  obtain ⟨k, hk, rfl⟩ := List.getElem_of_mem hw
  have := q9b h (k := k) hk
  rw [List.getD_eq_getElem?_getD, List.getElem?_eq_getElem hk] at this
  simpa using this
 ·intro h
  refine q8b fun k hk => ?_
  have := h _ (q19 hk)
  rw [decide_eq_false this.1, decide_eq_false this.2]
  rfl
theorem zc7 (h : Sets s a c) {w : Wk} (hk : w.att.t ≠ 5 ∧ w.val.t ≠ 5) (hw : wkB vcR s w = true) : wkB vcR (q0a s a c) w = true := by
 unfold wkB at hw ⊢
 rw [qhl h hk.1, qhl h hk.2]
 exact hw
theorem z12 (h : Sets s a c) (hk : qkr s = true) : q1n (q0a s a c) = true := by
 obtain ⟨h1, h2, h3, h4⟩ := qch.1 h.v
 have hk' := qph.1 hk
 unfold q1n
 rw [Bool.and_eq_true]
 refine ⟨hk, qch.2 ⟨?_, fun i hi => zbf h (by rw [q4c] at hi; exact hi), fun u hu => ?_, fun w hw => zc7 h (hk' w hw) (h4 w hw)⟩⟩
 ·have e : (q0a s a c).cs.length = s.cs.length := by simp [q0a]
  unfold qgx at h1 ⊢
  rw [e]
  exact h1
 ·have hu : u ∈ s.tr ++ [⟨a, cellAt s a⟩] := hu
  rcases List.mem_append.1 hu with hu | hu
  ·exact ze9 h (h3 u hu)
  ·rw [List.mem_singleton.1 hu]
   exact zf3 h
theorem z4m (s : So) (l : List Wk) : ∀ (k : Nat) (n : Int), q1g { s with wk := l } k n = q1g s k n
 | 0, n => rfl
 | k + 1, n => by
  by_cases hn : Ns s n
  ·rw [q07 hn, q07 (s := { s with wk := l }) hn]
   exact z4m s l k _
  ·rw [q37 hn, q37 (s := { s with wk := l }) hn]
theorem zdw (s : So) (l : List Wk) (i : Int) : q3b { s with wk := l } i = q3b s i := by
 have e : qub { s with wk := l } i = qub s i := z4m s l _ i
 unfold q3b
 rw [e]
 rfl
theorem zey {s : So} (h : q1n s = true) {w : Wk} (hk : w.att.t ≠ 5 ∧ w.val.t ≠ 5) (hw : wkB vcR s w = true) : q1n { s with wk := s.wk ++ [w] } = true := by
 unfold q1n at h
 rw [Bool.and_eq_true] at h
 obtain ⟨h1, h2, h3, h4⟩ := qch.1 h.2
 have hk' := qph.1 h.1
 unfold q1n
 rw [Bool.and_eq_true]
 refine ⟨qph.2 fun x hx => ?_, qch.2 ⟨h1, fun i hi => (zdw s _ i).trans (h2 i hi), h3, fun x hx => ?_⟩⟩
 ·rcases List.mem_append.1 hx with hx | hx
  ·exact hk' x hx
  ·rw [List.mem_singleton.1 hx]
   exact hk
 ·rcases List.mem_append.1 hx with hx | hx
  ·exact h4 x hx
  ·rw [List.mem_singleton.1 hx]
   exact hw
end
end
section
section
variable {s : So} (hv : qs s = true)
include hv
theorem qkk (c : Ce) : vcP s c = vcR s c := (q3u hv).vc c
theorem z5v (n : Int) : 0 ≤ q08 s n ↔ inS s n = true := by
 have := (q3u hv).tag_in n
 rw [← this]
 simp
theorem z90 : ∀ (k : Nat) (c : Ce), z33 s k c = derN s k c
 | 0, c => rfl
 | k + 1, c => by
  unfold z33 derN
  by_cases h : c.t = 0 ∧ inS s c.n = true ∧ cellAt s c.n ≠ c
  ·rw [if_pos h, if_pos ⟨h.1, (z5v hv _).2 h.2.1, h.2.2⟩, z90 k]
  ·rw [if_neg h, if_neg (fun q => h ⟨q.1, (z5v hv _).1 q.2.1, q.2.2⟩)]
theorem z30 (c : Ce) : q0o s c = qp s c := by
 unfold q0o qp
 rw [qkk hv]
 cases h : vcR s c with
 | false => rfl
 | true => rw [if_pos rfl, if_pos rfl, z90 hv, qn3 hv h]
theorem z49 : ∀ (k : Nat) (c : Ce), vcR s c = true → (c.t = 0 → q1g s k c.n = true) → (derN s k c).t = 0 → cellAt s (derN s k c).n = derN s k c
 | 0, c, hc, he, h0 => by cases he h0
 | k + 1, c, hc, he, h0 => by
  unfold derN at h0 ⊢
  by_cases h : c.t = 0 ∧ inS s c.n = true ∧ cellAt s c.n ≠ c
  ·rw [if_pos h] at h0 ⊢
   refine z49 k _ (qkt hv h.2.1 (q4h hc h.1).2) (fun ht => ?_) h0
   have hn : Ns s c.n := ⟨(z9 h.2.1).trans ht, fun q => h.2.2 (Ce.ext' (ht.trans h.1.symm) q)⟩
   have := he h.1
   rwa [q07 hn] at this
  ·rw [if_neg h] at h0 ⊢
   exact Classical.byContradiction fun q => h ⟨h0, (q4h hc h0).1, q⟩
end
def rdB (s : So) (x : Ce) : Bool := vcR s x && (!decide (x.t = 0) || decide (cellAt s x.n = x))
def rd0 (s : So) (x : Ce) : Bool := rdB s x || decide (x = ⟨0, 0⟩)
theorem q28 {s : So} {x : Ce} : rdB s x = true ↔ vcR s x = true ∧ (x.t = 0 → cellAt s x.n = x) := by
 simp only [rdB, Bool.and_eq_true, Bool.or_eq_true, Bool.not_eq_true', decide_eq_false_iff_not, decide_eq_true_eq]
 constructor
 ·rintro ⟨h1, h2⟩
  exact ⟨h1, fun h => h2.resolve_left (fun q => q h)⟩
 ·rintro ⟨h1, h2⟩
  refine ⟨h1, ?_⟩
  by_cases h : x.t = 0
  ·exact .inr (h2 h)
  ·exact .inl h
theorem qn5 {s : So} {x : Ce} : rd0 s x = true ↔ rdB s x = true ∨ x = ⟨0, 0⟩ := by
 simp only [rd0, Bool.or_eq_true, decide_eq_true_eq]
theorem z3b {s : So} {x : Ce} (h : rd0 s x = true) (ht : x.t ≠ 0) : rdB s x = true := by
 rcases qn5.1 h with h | h
 ·exact h
 ·subst h
  exact (ht rfl).elim
section
variable {s : So} (hv : qs s = true)
include hv
theorem zbg {x : Ce} (h : rdB s x = true) : qp s x = x := by
 obtain ⟨h1, h2⟩ := q28.1 h
 unfold qp
 rw [if_pos h1]
 unfold derN
 rw [if_neg (fun q => q.2.2 (h2 q.1))]
theorem qbw {x : Ce} (h : vcR s x = true) (h5 : x.t = 5) : inS s x.n = true ∧ cellAt s x.n = x ∧ q43 s x.n = true ∧ inS s (x.n + 2) = true := by
 unfold vcR at h
 rw [if_neg (by omega), if_neg (by omega), if_neg (by omega), if_neg (by omega), if_pos h5] at h
 have ht : q08 s x.n = 5 := of_decide_eq_true h
 have hi := q2s (by decide) ht
 rw [z9 hi] at ht
 have hc := q6i hv hi
 unfold q3b at hc
 rw [if_neg (by omega)] at hc
 simp only [Bool.and_eq_true, Bool.or_eq_true, Bool.not_eq_true', decide_eq_false_iff_not, decide_eq_true_eq] at hc
 obtain ⟨hn, hg⟩ : (cellAt s x.n).n = x.n ∧ q43 s x.n = true := by
  rcases hc.2.2 with q | q
  ·exact (q ht).elim
  ·exact q
 refine ⟨hi, Ce.ext' (ht.trans h5.symm) hn, hg, ?_⟩
 simp only [q43, Bool.and_eq_true, decide_eq_true_eq] at hg
 exact qbe hg.2.2.2.1
theorem qxm {a : Int} {c : Ce} (h : q0x vcP q1h s a c = true) (ht : (cellAt s a).t = 0 ∨ (cellAt s a).t = 5) : Sets s a c := by
 simp only [q0x, Bool.and_eq_true, Bool.not_eq_true'] at h
 obtain ⟨h1, h2, h3, h4⟩ := h
 rw [qkk hv] at h2
 refine ⟨hv, h1, ?_, h2, h4⟩
 rcases ht with ht | ht
 ·unfold q1h at h3
  rw [if_pos ht] at h3
  exact .inl ⟨ht, of_decide_eq_true h3⟩
 ·exact .inr ht
theorem zd7 {x c : Ce} (hx : rd0 s x = true) (h0 : x.t = 0) (h : q0x vcP q1h s x.n c = true) : Sets s x.n c := by
 refine qxm hv h ?_
 rcases qn5.1 hx with hx | hx
 ·have := (q28.1 hx).2 h0
  rw [this]
  exact .inl h0
 ·subst hx
  simp only [q0x, Bool.and_eq_true] at h
  have h3 := h.2.2.1
  unfold q1h behind at h3
  by_cases h0 : (cellAt s 0).t = 0
  ·exact .inl h0
  by_cases h5 : (cellAt s 0).t = 5
  ·exact .inr h5
  ·simp [h0, h5] at h3
theorem z3l {x c : Ce} (hx : vcR s x = true) (h5 : x.t = 5) (hc : vcR s c = true) (hc0 : c.t ≠ 0) (hne : c ≠ x) : q0x vcP q1h s x.n c = true := by
 obtain ⟨hi, hce, hg, h2⟩ := qbw hv hx h5
 simp only [q0x, Bool.and_eq_true, Bool.not_eq_true', qkk hv]
 refine ⟨hi, hc, ?_, ?_⟩
 ·unfold q1h
  rw [hce, if_neg (by omega), if_pos h5]
 ·unfold q9i q62 yr
  by_cases hc5 : c.t = 5
  ·obtain ⟨hi', hce', -, -⟩ := qbw hv hc hc5
   have hn : ¬ c.n = x.n := fun e => hne (by rw [← hce', e, hce])
   rw [if_pos hc5, if_pos ⟨rfl, hi'⟩]
   show (if c.n = x.n then true else q62 s x.n s.cs.length (cellAt s c.n)) = false
   rw [if_neg hn, hce']
   cases s.cs.length with
   | zero => rfl
   | succ k =>
    unfold q62
    rw [if_neg (fun q => by omega)]
  ·rw [if_neg hc5, if_neg (fun q => hc0 q.1)]
theorem zeg {x : Ce} (hx : vcR s x = true) (h5 : x.t = 5) : qa9 s x = (x, true) := by
 obtain ⟨hi, hce, hg, h2⟩ := qbw hv hx h5
 have hd : q0o s x = x := by
  rw [z30 hv]
  exact zbg hv (q28.2 ⟨hx, fun q => by omega⟩)
 unfold qa9
 rw [qkk hv, hx, if_neg (by decide), hd, if_neg (by omega), if_pos h5, hi, h2]
 rfl
theorem zd1 {x y : Ce} (hx : vcR s x = true) (h5 : x.t = 5) (hy : rdB s y = true) (hy0 : y.t ≠ 0) (hne : y ≠ x) : qa3 s x y = if y.t ≠ 5 ∨ older s x y then qad s x y else qad s y x := by
 have hyv := (q28.1 hy).1
 have hd : q0o s y = y := by
  rw [z30 hv]
  exact zbg hv hy
 unfold qa3
 rw [zeg hv hx h5, hd, qkk hv, hyv, if_neg (by simp [h5]), if_neg hne, if_neg hy0]
 by_cases hy5 : y.t = 5
 ·obtain ⟨hi, hce, hg, h2⟩ := qbw hv hyv hy5
  rw [if_neg (fun q => q hy5), hi, h2, if_neg (by simp)]
  by_cases ho : older s x y
  ·rw [if_pos ho, if_pos (.inr ho)]
  ·rw [if_neg ho, if_neg (fun q => q.elim (fun q => q hy5) ho)]
 ·rw [if_pos hy5, if_pos (.inl hy5)]
theorem zgx {x c : Ce} (hx : vcR s x = true) (h5 : x.t = 5) (hc : vcR s c = true) (hc0 : c.t ≠ 0) (hne : c ≠ x) : qad s x c = (0, { q0a s x.n c with wk := s.wk ++ [wkO s x c] }) := by
 unfold qad
 rw [if_pos (z3l hv hx h5 hc hc0 hne)]
theorem qzg (hk : qkr s = true) {x c : Ce} (hx : vcR s x = true) (h5 : x.t = 5) (hc : vcR s c = true) (hc0 : c.t ≠ 0) (hne : c ≠ x) : q1n (qad s x c).2 = true := by
 obtain ⟨hi, hce, hg, h2⟩ := qbw hv hx h5
 have hS := qxm hv (z3l hv hx h5 hc hc0 hne) (.inr (by rw [hce]; exact h5))
 rw [zgx hv hx h5 hc hc0 hne]
 simp only [q43, Bool.and_eq_true, decide_eq_true_eq, Bool.not_eq_true', decide_eq_false_iff_not] at hg
 obtain ⟨g1, g2, g3, g4, g5, g6⟩ := hg
 rw [z9 h2] at g5 g6
 have hkc := q8z hc
 refine zey (s := q0a s x.n c) (z12 hS hk) (w := wkO s x c) ⟨g6, by simp only [wkO]; omega⟩ (zc7 hS ⟨g6, by simp only [wkO]; omega⟩ ?_)
 simp only [wkB, wkO, Bool.and_eq_true, decide_eq_true_eq]
 exact ⟨decide_eq_true g2, decide_eq_true g3, qkt hv h2 g5, qwx hc⟩
theorem qu8 (hk : qkr s = true) {x c : Ce} (hx : rd0 s x = true) (h0 : x.t = 0) : q1n (qm6 s x.n c).2 = true := by
 unfold qm6
 cases h : q0x vcP q1h s x.n c with
 | false =>
  rw [if_neg (by decide)]
  simp [q1n, hk, hv]
 | true =>
  rw [if_pos rfl]
  exact z12 (zd7 hv hx h0 h) hk
theorem qu9 (hk : qkr s = true) {x y : Ce} (hx : rdB s x = true) (h5 : x.t = 5) (hy : rdB s y = true) (hy0 : y.t ≠ 0) (hne : y ≠ x) : q1n (qa3 s x y).2 = true := by
 have hxv := (q28.1 hx).1
 have hyv := (q28.1 hy).1
 rw [zd1 hv hxv h5 hy hy0 hne]
 split
 ·exact qzg hv hk hxv h5 hyv hy0 hne
 ·rename_i q
  have hy5 : y.t = 5 := Classical.byContradiction fun e => q (.inl e)
  exact qzg hv hk hyv hy5 hxv (by omega) (Ne.symm hne)
theorem z6m (hk : qkr s = true) {x y : Ce} (hx : rd0 s x = true) (hy : rd0 s y = true) (hne : x ≠ y) : q1n (ji s x y).2 = true := by
 unfold ji okI
 by_cases h1 : y.t = 0 ∧ (x.t ≠ 0 ∨ x.n < y.n)
 ·rw [if_pos h1]
  exact qu8 hv hk hy h1.1
 rw [if_neg h1]
 by_cases hx0 : x.t = 0
 ·rw [if_pos hx0]
  exact qu8 hv hk hx hx0
 have hy0 : y.t ≠ 0 := fun e => h1 ⟨e, .inl hx0⟩
 rw [if_neg hx0]
 by_cases hx5 : x.t = 5
 ·rw [if_pos hx5]
  exact qu9 hv hk (z3b hx hx0) hx5 (z3b hy hy0) hy0 (Ne.symm hne)
 rw [if_neg hx5]
 by_cases hy5 : y.t = 5
 ·rw [if_pos hy5]
  exact qu9 hv hk (z3b hy hy0) hy5 (z3b hx hx0) hx0 hne
 ·rw [if_neg hy5]
  simp [q1n, hk, hv]
end
end
section
inductive Lab where
 | i (n : Int)
 | at (nm : ByteArray)
 | fn (nm : ByteArray) (k : Nat)
 | v (n : Int)
abbrev Tr := List Nat → Option Lab
def jj (x : Lab) : Tr := fun p => match p with
 | [] => some x
 | _ :: _ => none
def q09 (nm : ByteArray) (k : Nat) (f : Nat → Tr) : Tr := fun p => match p with
 | [] => some (.fn nm k)
 | j :: p => if j < k then f j p else none
theorem qbc {x y : Lab} (h : jj x = jj y) : x = y := by
 have := congrFun h []
 exact Option.some.inj this
theorem qgq {nm nm' : ByteArray} {k k' : Nat} {f f' : Nat → Tr} (h : q09 nm k f = q09 nm' k' f') : nm = nm' ∧ k = k' ∧ ∀ j, j < k → f j = f' j := by
 have h0 : Lab.fn nm k = .fn nm' k' := Option.some.inj (congrFun h [])
 injection h0 with h1 h2
 subst h1 h2
 refine ⟨rfl, rfl, fun j hj => funext fun p => ?_⟩
 have := congrFun h (j :: p)
 simpa [q09, hj] using this
theorem qnj {nm : ByteArray} {k : Nat} {f f' : Nat → Tr} (h : ∀ j, j < k → f j = f' j) : q09 nm k f = q09 nm k f' := by
 funext p
 match p with
 | [] => rfl
 | j :: p =>
  show (if j < k then f j p else none) = (if j < k then f' j p else none)
  split
  ·rename_i hj
   rw [h j hj]
  ·rfl
theorem q1w {nm : ByteArray} {k : Nat} {f : Nat → Tr} {x : Lab} (hx : ∀ nm k, x ≠ .fn nm k) : q09 nm k f ≠ jj x := fun h => by
 have := Option.some.inj (congrFun h [])
 exact hx _ _ this.symm
def q1q (τ : Int → Tr) : Tr → Tr
 | T, [] => (match T [] with
  | some (.v w) => τ w []
  | x => x)
 | T, j :: p => (match T [] with
  | some (.v w) => τ w (j :: p)
  | _ => q1q τ (fun q => T (j :: q)) p)
theorem qj6 (τ : Int → Tr) : ∀ p, q1q τ (fun _ => none) p = none
 | [] => rfl
 | j :: p => qj6 τ p
theorem qnw (τ : Int → Tr) (w : Int) : q1q τ (jj (.v w)) = τ w := by
 funext p
 match p with
 | [] => rfl
 | j :: p => rfl
theorem q6q (τ : Int → Tr) {x : Lab} (h : ∀ w, x ≠ .v w) : q1q τ (jj x) = jj x := by
 funext p
 match p with
 | [] =>
  show (match some x with | some (.v w) => τ w [] | x => x) = some x
  cases x with
  | v w => exact absurd rfl (h w)
  | _ => rfl
 | j :: p =>
  show (match some x with | some (.v w) => τ w (j :: p) | _ => q1q τ (fun q => none) p) = none
  cases x with
  | v w => exact absurd rfl (h w)
  | _ => exact qj6 τ p
theorem qjh (τ : Int → Tr) (nm : ByteArray) (k : Nat) (f : Nat → Tr) : q1q τ (q09 nm k f) = q09 nm k fun j => q1q τ (f j) := by
 funext p
 match p with
 | [] => rfl
 | j :: p =>
  show q1q τ (fun q => if j < k then f j q else none) p = if j < k then q1q τ (f j) p else none
  split
  ·rename_i hj
   rfl
  ·rename_i hj
   exact qj6 τ p
structure Mod (s : So) (θ : Ce → Tr) : Prop where
 int : ∀ n, θ ⟨1, n⟩ = jj (.i n)
 atm : ∀ n, arS s n = 0 → θ ⟨2, n⟩ = jj (.at (q3q s n).name)
 str : ∀ p, q08 s p = 4 → θ ⟨3, p⟩ = q09 (q3q s (cellAt s p).n).name (arS s (cellAt s p).n).toNat fun j => θ (cellAt s (p + 1 + (j : Nat)))
 ref : ∀ p, inS s p = true → (cellAt s p).t ≠ 4 → cellAt s p ≠ ⟨0, p⟩ → θ ⟨0, p⟩ = θ (cellAt s p)
def qdu (s : So) : Prop := ∀ i, inS s i = true → (cellAt s i).t ≠ 5
section
variable {s : So} {θ : Ce → Tr}
theorem Mod.derN (h : Mod s θ) (hv : qs s = true) : ∀ (k : Nat) {c : Ce}, vcR s c = true → θ (derN s k c) = θ c
 | 0, c, _ => rfl
 | k + 1, c, hc => by
  unfold Go.Proofs.Ytaoamndcdjelnaa.derN
  split
  ·rename_i hx
   obtain ⟨h0, hi, hne⟩ := hx
   obtain ⟨t, n⟩ := c
   have h0 : t = 0 := h0
   subst h0
   have h4 := (q4h hc rfl).2
   rw [h.derN hv k (qkt hv hi h4)]
   exact (h.ref n hi h4 hne).symm
  ·rfl
theorem Mod.der (h : Mod s θ) (hv : qs s = true) {c : Ce} (hc : vcR s c = true) : θ (qp s c) = θ c := by
 unfold qp
 rw [if_pos hc]
 exact h.derN hv _ hc
def qsm (s : So) : List Nat → Ce → Option Lab
 | [], c => if (qp s c).t = 1 then some (.i (qp s c).n) else if (qp s c).t = 2 then some (.at (q3q s (qp s c).n).name)
  else if (qp s c).t = 3 then some (.fn (q3q s (cellAt s (qp s c).n).n).name (arS s (cellAt s (qp s c).n).n).toNat) else some (.v (qp s c).n)
 | j :: p, c => if (qp s c).t = 3 ∧ j < (arS s (cellAt s (qp s c).n).n).toNat then qsm s p (cellAt s ((qp s c).n + 1 + (j : Nat))) else none
def q1s (s : So) (c : Ce) : Tr := fun p => qsm s p c
theorem q5j (s : So) (c : Ce) : q1s s c = if (qp s c).t = 1 then jj (.i (qp s c).n) else if (qp s c).t = 2 then jj (.at (q3q s (qp s c).n).name)
  else if (qp s c).t = 3 then q09 (q3q s (cellAt s (qp s c).n).n).name (arS s (cellAt s (qp s c).n).n).toNat (fun j => q1s s (cellAt s ((qp s c).n + 1 + (j : Nat)))) else jj (.v (qp s c).n) := by
 funext p
 match p with
 | [] =>
  show qsm s [] c = _
  unfold qsm
  split
  ·rfl
  ·split
   ·rfl
   ·split <;> rfl
 | j :: p =>
  show qsm s (j :: p) c = _
  unfold qsm
  by_cases h1 : (qp s c).t = 1
  ·rw [if_pos h1, if_neg (fun h => by omega)]
   rfl
  ·rw [if_neg h1]
   by_cases h2 : (qp s c).t = 2
   ·rw [if_pos h2, if_neg (fun h => by omega)]
    rfl
   ·rw [if_neg h2]
    by_cases h3 : (qp s c).t = 3
    ·rw [if_pos h3]
     show _ = if j < _ then _ else none
     by_cases hj : j < (arS s (cellAt s (qp s c).n).n).toNat
     ·rw [if_pos ⟨h3, hj⟩, if_pos hj]
      rfl
     ·rw [if_neg (fun h => hj h.2), if_neg hj]
    ·rw [if_neg h3, if_neg (fun h => h3 h.1)]
     rfl
theorem qp4 (hv : qs s = true) (τ : Int → Tr) : Mod s fun c => q1q τ (q1s s c) := by
 have dn : ∀ {c : Ce}, vcR s c = true → c.t ≠ 0 → qp s c = c := fun {c} hc h0 => by
  unfold qp
  rw [if_pos hc, qr4 h0]
 refine ⟨fun n => ?_, fun n hn => ?_, fun p hp => ?_, fun p hi h4 hne => ?_⟩
 ·have hd : qp s ⟨1, n⟩ = ⟨1, n⟩ := dn (by simp [vcR]) (fun e => by cases e)
  rw [q5j, hd]
  exact q6q τ fun w => by simp
 ·have hd : qp s ⟨2, n⟩ = ⟨2, n⟩ := dn (by simp [vcR, hn]) (fun e => by cases e)
  rw [q5j, hd]
  exact q6q τ fun w => by simp
 ·have hd : qp s ⟨3, p⟩ = ⟨3, p⟩ := dn (by simp [vcR, hp]) (fun e => by cases e)
  rw [q5j, hd]
  exact qjh τ _ _ _
 ·have hc0 : vcR s ⟨0, p⟩ = true := by simp [vcR, hi, z9 hi, h4]
  have hc1 := qkt hv hi h4
  have hd : qp s ⟨0, p⟩ = qp s (cellAt s p) := by
   unfold qp
   rw [if_pos hc0, if_pos hc1]
   have h1 : derN s (s.cs.length + 1) ⟨0, p⟩ = derN s s.cs.length (cellAt s p) := by
    show (if _ then _ else _) = _
    rw [if_pos ⟨rfl, hi, hne⟩]
   rw [h1, qn3 hv hc1]
  show q1q τ (q1s s ⟨0, p⟩) = q1q τ (q1s s (cellAt s p))
  rw [q5j, q5j s (cellAt s p), hd]
theorem qo4 (hv : qs s = true) (hn : qdu s) {c : Ce} (hc : vcR s c = true) (h5 : c.t ≠ 5) : (qp s c).t = 0 ∨ (qp s c).t = 1 ∨ (qp s c).t = 2 ∨ (qp s c).t = 3 := by
 have hk := z1d (qgl hv hc)
 have key : ∀ (k : Nat) {c : Ce}, vcR s c = true → c.t ≠ 5 → (derN s k c).t ≠ 5 := by
  intro k
  induction k with
  | zero => intro c _ h; exact h
  | succ k ih =>
   intro c hc h
   unfold Go.Proofs.Ytaoamndcdjelnaa.derN
   split
   ·rename_i hx
    have h4 := (q4h hc hx.1).2
    exact ih (qkt hv hx.2.1 h4) (hn _ hx.2.1)
   ·exact h
 have : (qp s c).t ≠ 5 := by
  unfold qp
  rw [if_pos hc]
  exact key _ hc h5
 rcases hk with h | h | h | h | h
 ·exact .inl h
 ·exact .inr (.inl h)
 ·exact .inr (.inr (.inl h))
 ·exact .inr (.inr (.inr h))
 ·exact absurd h this
theorem z14 (hv : qs s = true) (hn : qdu s) (h : Mod s θ) : ∀ (p : List Nat) {c : Ce}, vcR s c = true → c.t ≠ 5 → q1q (fun w => θ ⟨0, w⟩) (q1s s c) p = θ c p
 | p, c, hc, h5 => by
  have hd := h.der hv hc
  have hdv := qgl hv hc
  rw [q5j, ← hd]
  have hk := qo4 hv hn hc h5
  generalize qp s c = d at hdv hk
  obtain ⟨t, n⟩ := d
  rcases hk with h0 | h0 | h0 | h0
  ·have h0 : t = 0 := h0
   subst h0
   rw [if_neg (fun e => by cases e), if_neg (fun e => by cases e), if_neg (fun e => by cases e), qnw]
  ·have h0 : t = 1 := h0
   subst h0
   rw [if_pos rfl, q6q _ (fun w => by simp), h.int]
  ·have h0 : t = 2 := h0
   subst h0
   rw [if_neg (fun e => by cases e), if_pos rfl, q6q _ (fun w => by simp), h.atm n (by simpa [vcR] using hdv)]
  ·have h0 : t = 3 := h0
   subst h0
   have h4 : q08 s n = 4 := by simpa [vcR] using hdv
   have hin : inS s n = true := qbe (by omega)
   rw [if_neg (fun e => by cases e), if_neg (fun e => by cases e), if_pos rfl, qjh, h.str n h4]
   match p with
   | [] => rfl
   | j :: p =>
    show (if j < _ then _ else _) = (if j < _ then _ else _)
    split
    ·rename_i hj
     obtain ⟨-, -, ha⟩ := qf1 hv hin (by rw [z9 hin] at h4; exact h4)
     have hj : j < (arS s (cellAt s n).n).toNat := hj
     obtain ⟨q1, q2⟩ := ha j (by omega)
     exact z14 hv hn h p q2 (hn _ q1)
    ·rfl
end
end
theorem qtr {s : So} (hv : qs s = true) {x : Ce} (h : ¬ jb s x < 0) : (q1e s x).length = (arS s (jb s x)).toNat ∧ 1 ≤ arS s (jb s x) ∧ arS s (jb s x) ≤ 8 ∧ 0 ≤ x.n ∧ x.n + arS s (jb s x) < s.cs.length ∧ ∀ j : Nat, j < (q1e s x).length → (q1e s x).getD j default = cellAt s (x.n + 1 + j) := by
 obtain ⟨h3, hi, h4, he⟩ := z40 h
 obtain ⟨g1, g2, g3⟩ := qf1 hv hi h4
 rw [← he] at g1 g2 g3
 obtain ⟨r1, r2, r3⟩ := q6w (s := s) (n := jb s x) (by omega)
 have hn := qn.1 hi
 have hl := qxy hv
 have hlast := qn.1 (g3 ((arS s (jb s x)).toNat - 1) (by omega)).1
 have hto : toP s x = x.n + 1 + arS s (jb s x) := by
  unfold toP
  rw [← r3]
  exact q9h (by simp only [q5g]; omega)
 have hmin : qx2 s x = x.n + 1 + arS s (jb s x) := by
  unfold qx2
  rw [hto, if_neg (by omega)]
 have hA : q1e s x = (s.cs.take (qx2 s x).toNat).drop (x.n + 1).toNat := by
  unfold q1e
  rw [if_neg (by omega), if_neg (by rw [hmin]; omega)]
 have hlen : (q1e s x).length = (arS s (jb s x)).toNat := by
  rw [hA, hmin, List.length_drop, List.length_take]
  omega
 refine ⟨hlen, g1, g2, by omega, by omega, fun j hj => ?_⟩
 rw [hlen] at hj
 rw [hA, hmin, List.getD_eq_getElem?_getD, List.getElem?_drop, List.getElem?_take, if_pos (by omega), ← List.getD_eq_getElem?_getD]
 unfold cellAt
 congr 1
 omega
section
mutual
/-- Variables renumbered. -/
def q34 (f : Int → Int) : Te → Te
 | .mk k n s l => .mk k (if k = 0 then f n else n) s (q3a f l)
def q3a (f : Int → Int) : List Te → List Te
 | [] => []
 | t :: l => q34 f t :: q3a f l
end
mutual
/-- The variables in the order of their first occurrence, behind those given. -/
def zm (vs : List Int) : Te → List Int
 | .mk k n s l => zo (if k = 0 ∧ n ∉ vs then vs ++ [n] else vs) l
def zo (vs : List Int) : List Te → List Int
 | [] => vs
 | t :: l => zo (zm vs t) l
end
mutual
def inV (V : List Int) : Te → Prop
 | .mk k n s l => (k = 0 → n ∈ V) ∧ qfu V l
def qfu (V : List Int) : List Te → Prop
 | [] => True
 | t :: l => inV V t ∧ qfu V l
end
def qak : List Int → Int → Int
 | [], _ => -1
 | a :: l, x => if a = x then 0 else if qak l x < 0 then -1 else qak l x + 1
abbrev zb4 (V : List Int) : Te → Te := q34 (qak V)
section
variable {f g : Int → Int}
theorem qcg : ∀ l, q3a f l = l.map (q34 f)
 | [] => rfl
 | t :: l => by rw [q3a, qcg l]; rfl
theorem qxw (k n : Int) (s : ByteArray) (l : List Te) : q34 f (.mk k n s l) = .mk k (if k = 0 then f n else n) s (l.map (q34 f)) := by rw [q34, qcg]
theorem z17 : ∀ (l : List Te) (vs : List Int), zo vs l = l.foldl zm vs
 | [], _ => rfl
 | t :: l, vs => by rw [zo, z17 l]; rfl
theorem qre : ∀ (l m : List Te) (vs : List Int), zo vs (l ++ m) = zo (zo vs l) m
 | [], _, _ => rfl
 | t :: l, m, vs => by rw [List.cons_append, zo, zo, qre l]
theorem z13 {V : List Int} : ∀ {l : List Te}, qfu V l ↔ ∀ t ∈ l, inV V t
 | [] => by simp [qfu]
 | t :: l => by rw [qfu, z13]; simp
mutual
theorem qzf : ∀ t, szT (q34 f t) = szT t
 | .mk k n s l => by rw [q34, szT, szT, qtg l]
theorem qtg : ∀ l, q02 (q3a f l) = q02 l
 | [] => rfl
 | t :: l => by rw [q3a, q02, q02, qzf t, qtg l]
end
mutual
theorem qr1 {V : List Int} (h : ∀ x ∈ V, f x = g x) : ∀ t, inV V t → q34 f t = q34 g t
 | .mk k n s l, hi => by
  rw [q34, q34, qkj h l hi.2]
  by_cases hk : k = 0
  ·rw [if_pos hk, if_pos hk, h n (hi.1 hk)]
  ·rw [if_neg hk, if_neg hk]
theorem qkj {V : List Int} (h : ∀ x ∈ V, f x = g x) : ∀ l, qfu V l → q3a f l = q3a g l
 | [], _ => rfl
 | t :: l, hi => by rw [q3a, q3a, qr1 h t hi.1, qkj h l hi.2]
end
mutual
theorem qtm : ∀ t, q34 f (q34 g t) = q34 (fun x => f (g x)) t
 | .mk k n s l => by
  rw [q34, q34, q34, qqc l]
  by_cases hk : k = 0
  ·simp [hk]
  ·simp [hk]
theorem qqc : ∀ l, q3a f (q3a g l) = q3a (fun x => f (g x)) l
 | [] => rfl
 | t :: l => by rw [q3a, q3a, q3a, qtm t, qqc l]
end
mutual
theorem qo1 {V W : List Int} (h : ∀ x ∈ V, x ∈ W) : ∀ t, inV V t → inV W t
 | .mk k n s l, hi => ⟨fun hk => h n (hi.1 hk), qu3 h l hi.2⟩
theorem qu3 {V W : List Int} (h : ∀ x ∈ V, x ∈ W) : ∀ l, qfu V l → qfu W l
 | [], _ => trivial
 | t :: l, hi => ⟨qo1 h t hi.1, qu3 h l hi.2⟩
end
mutual
theorem qte : ∀ (t : Te) (vs : List Int), ∃ m, zm vs t = vs ++ m
 | .mk k n s l, vs => by
  rw [zm]
  obtain ⟨m, hm⟩ := qec l (if k = 0 ∧ n ∉ vs then vs ++ [n] else vs)
  rw [hm]
  split
  ·exact ⟨[n] ++ m, by simp⟩
  ·exact ⟨m, rfl⟩
theorem qec : ∀ (l : List Te) (vs : List Int), ∃ m, zo vs l = vs ++ m
 | [], vs => ⟨[], by simp [zo]⟩
 | t :: l, vs => by
  rw [zo]
  obtain ⟨m, hm⟩ := qte t vs
  obtain ⟨m', hm'⟩ := qec l (zm vs t)
  exact ⟨m ++ m', by rw [hm', hm]; simp⟩
end
theorem z6n {t : Te} {vs : List Int} {x : Int} (h : x ∈ vs) : x ∈ zm vs t := by
 obtain ⟨m, hm⟩ := qte t vs
 rw [hm]
 exact List.mem_append_left _ h
theorem q52 {t : List Te} {vs : List Int} {x : Int} (h : x ∈ vs) : x ∈ zo vs t := by
 obtain ⟨m, hm⟩ := qec t vs
 rw [hm]
 exact List.mem_append_left _ h
mutual
theorem q5m : ∀ (t : Te) (vs : List Int), inV (zm vs t) t
 | .mk k n s l, vs => by
  rw [zm]
  refine ⟨fun hk => q52 ?_, qtx l _⟩
  split
  ·simp
  ·rename_i h
   exact Classical.byContradiction fun hn => h ⟨hk, hn⟩
theorem qtx : ∀ (l : List Te) (vs : List Int), qfu (zo vs l) l
 | [], vs => trivial
 | t :: l, vs => by
  rw [zo]
  exact ⟨qo1 (fun x hx => q52 hx) t (q5m t vs), qtx l _⟩
end
mutual
theorem z78 : ∀ (t : Te) (vs : List Int), (zm vs t).length ≤ vs.length + szT t
 | .mk k n s l, vs => by
  rw [zm, szT]
  refine Nat.le_trans (qeq l _) ?_
  split
  ·simp; omega
  ·omega
theorem qeq : ∀ (l : List Te) (vs : List Int), (zo vs l).length ≤ vs.length + q02 l
 | [], vs => by simp [zo, q02]
 | t :: l, vs => by
  rw [zo, q02]
  have h1 := qeq l (zm vs t)
  have h2 := z78 t vs
  omega
end
theorem qzk {vs : List Int} {n : Int} (h : ∀ x ∈ vs, f x = f n → x = n) : f n ∈ vs.map f ↔ n ∈ vs := by
 rw [List.mem_map]
 exact ⟨fun ⟨x, hx, e⟩ => h x hx e ▸ hx, fun hn => ⟨n, hn, rfl⟩⟩
mutual
theorem qux : ∀ (t : Te) (vs : List Int), (∀ x ∈ zm vs t, ∀ y ∈ zm vs t, f x = f y → x = y) → zm (vs.map f) (q34 f t) = (zm vs t).map f
 | .mk k n s l, vs, h => by
  rw [q34, zm, zm]
  rw [zm] at h
  rw [← qrl l _ h]
  congr 1
  by_cases hk : k = 0
  ·simp only [if_pos hk]
   by_cases hn : n ∈ vs
   ·rw [if_neg (fun q => q.2 (List.mem_map.2 ⟨n, hn, rfl⟩)), if_neg (fun q => q.2 hn)]
   ·rw [if_pos ⟨hk, hn⟩] at h
    have hm : f n ∉ vs.map f := fun q => hn ((qzk (fun x hx e => h x (q52 (List.mem_append_left _ hx)) n (q52 (by simp)) e)).1 q)
    rw [if_pos ⟨hk, hm⟩, if_pos ⟨hk, hn⟩]
    simp
  ·rw [if_neg (fun q => hk q.1), if_neg (fun q => hk q.1)]
theorem qrl : ∀ (l : List Te) (vs : List Int), (∀ x ∈ zo vs l, ∀ y ∈ zo vs l, f x = f y → x = y) → zo (vs.map f) (q3a f l) = (zo vs l).map f
 | [], vs, _ => rfl
 | t :: l, vs, h => by
  rw [q3a, zo, zo]
  rw [zo] at h
  rw [qux t vs (fun x hx y hy => h x (q52 hx) y (q52 hy)), qrl l _ h]
end
theorem zbv (k n : Int) (s : ByteArray) (l : List Te) : q2y (.mk k n s l) = if k = 0 then decide (0 ≤ n) && (decide (n ≤ 1099511627776) && (decide (s = ⟨#[]⟩) && decide ((l.length : Int) = 0)))
 else if k = 1 then decide (s = ⟨#[]⟩) && decide ((l.length : Int) = 0)
 else if k = 2 then decide (n = 0) && (decide ((s.size : Int) ≤ 100) && decide ((l.length : Int) = 0))
 else if k = 3 then decide (n = 0) && (decide ((s.size : Int) ≤ 100) && (decide (1 ≤ (l.length : Int)) && decide ((l.length : Int) ≤ 8)))
 else false := rfl
theorem z6l {V : List Int} (h : ∀ x ∈ V, 0 ≤ f x ∧ f x ≤ 1099511627776) {k n : Int} {s : ByteArray} {l m : List Te} (hm : m.length = l.length) (hi : k = 0 → n ∈ V) (hn : q2y (.mk k n s l) = true) : q2y (.mk k (if k = 0 then f n else n) s m) = true := by
 rw [zbv] at hn ⊢
 rw [hm]
 by_cases hk : k = 0
 ·have := h n (hi hk)
  rw [if_pos hk] at hn
  rw [if_pos hk, if_pos hk]
  simp only [Bool.and_eq_true, decide_eq_true_eq] at hn ⊢
  exact ⟨this.1, this.2, hn.2.2⟩
 ·rw [if_neg hk] at hn
  rw [if_neg hk, if_neg hk]
  exact hn
mutual
theorem qp1 {V : List Int} (h : ∀ x ∈ V, 0 ≤ f x ∧ f x ≤ 1099511627776) : ∀ t, inV V t → qu t = true → qu (q34 f t) = true
 | .mk k n s l, hi, hn => by
  rw [qu, Bool.and_eq_true] at hn
  rw [q34, qu, Bool.and_eq_true]
  exact ⟨z6l h (by rw [qcg, List.length_map]) hi.1 hn.1, qkp h l hi.2 hn.2⟩
theorem qkp {V : List Int} (h : ∀ x ∈ V, 0 ≤ f x ∧ f x ≤ 1099511627776) : ∀ l, qfu V l → zj l = true → zj (q3a f l) = true
 | [], _, _ => rfl
 | t :: l, hi, hn => by
  rw [zj, Bool.and_eq_true] at hn
  rw [q3a, zj, Bool.and_eq_true]
  exact ⟨qp1 h t hi.1 hn.1, qkp h l hi.2 hn.2⟩
end
theorem z2k {V : List Int} (h : ∀ x ∈ V, 0 ≤ f x ∧ f x ≤ 1099511627776) {t : Te} (hi : inV V t) (hv : qi t = true) : qi (q34 f t) = true := by
 simp only [qi, Bool.and_eq_true, decide_eq_true_eq, qzf] at hv ⊢
 exact ⟨hv.1, qp1 h t hi hv.2⟩
end
theorem qz2 : ∀ {l : List Int} {x : Int}, x ∈ l → 0 ≤ qak l x ∧ qak l x < l.length
 | a :: l, x, h => by
  unfold qak
  split
  ·simp only [List.length_cons]; omega
  ·rename_i hne
   have := qz2 (l := l) (x := x) (by
    rcases List.mem_cons.1 h with rfl | h
    ·exact absurd rfl hne
    ·exact h)
   rw [if_neg (by omega)]
   simp only [List.length_cons]
   omega
theorem qh0 : ∀ {l : List Int} {x : Int}, x ∉ l → qak l x = -1
 | [], _, _ => rfl
 | a :: l, x, h => by
  unfold qak
  rw [if_neg (fun e : a = x => h (by rw [e]; exact List.mem_cons_self)), if_pos (by rw [qh0 fun q => h (List.mem_cons_of_mem _ q)]; omega)]
theorem z8f {l : List Int} {x : Int} : qak l x < 0 ↔ x ∉ l := ⟨fun h hm => by have := (qz2 hm).1; omega, fun h => by rw [qh0 h]; omega⟩
theorem qz9 : ∀ {l : List Int} {x : Int} {k : Nat}, k < l.length → l.getD k 0 = x → (∀ j, j < k → l.getD j 0 ≠ x) → qak l x = k
 | a :: l, x, 0, _, h, _ => by
  unfold qak
  rw [if_pos (by simpa using h)]
  rfl
 | a :: l, x, k + 1, hk, h, hn => by
  unfold qak
  have := qz9 (l := l) (x := x) (k := k) (by simpa using hk) (by simpa using h) (fun j hj => by simpa using hn (j + 1) (by omega))
  rw [if_neg (by simpa using hn 0 (by omega)), this, if_neg (by omega)]
  simp
theorem z03 {f : Int → Int} : ∀ {V : List Int} {x : Int}, x ∈ V → (∀ y ∈ V, f y = f x → y = x) → qak (V.map f) (f x) = qak V x
 | a :: l, x, h, hi => by
  rw [List.map_cons]
  unfold qak
  by_cases e : a = x
  ·rw [if_pos e, if_pos (by rw [e])]
  ·have hx : x ∈ l := by
    rcases List.mem_cons.1 h with rfl | h
    ·exact absurd rfl e
    ·exact h
   rw [if_neg e, if_neg (fun q => e (hi a List.mem_cons_self q)), z03 hx fun y hy => hi y (List.mem_cons_of_mem _ hy)]
end
structure Vc where
 v : Int
 c : Ce
instance : Inhabited Vc := ⟨⟨0, default⟩⟩
def eV (x : Vc) : D := .a [.i x.v, eC x.c]
def dV (d : D) : Vc := ⟨(d.fld 0).int, dC (d.fld 1)⟩
theorem zfr (x : Vc) : dV (eV x) = x := rfl
theorem zgl {a b : Vc} (h : eV a = eV b) : a = b := by rw [← zfr a, h, zfr b]
instance : DecidableEq Vc := fun a b => if h : eV a = eV b then .isTrue (zgl h) else .isFalse fun e => h (e ▸ rfl)
theorem z91 (x : Vc) : (eV x).fld 0 = .i x.v := rfl
theorem zhj (x : Vc) : (eV x).fld 1 = eC x.c := rfl
def dVs (d : D) : List Vc := d.rs.map dV
theorem q2q (l : List Vc) : dVs (.r (l.map eV)) = l := by
 show (l.map eV).map dV = l
 rw [List.map_map]
 exact List.map_id'' (fun x => rfl) l
theorem wfV {d : D} (h : Wf d qip) : ∃ c, d = eV c ∧ i64 c.v ∧ c.c.ok := by
 obtain ⟨ds, rfl, hl⟩ := h.st_of (fs := [.int .i64, qbn]) rfl
 obtain ⟨a, b, rfl, ha, hb⟩ := qvi hl
 obtain ⟨x, rfl, hx⟩ := wfI ha
 obtain ⟨y, rfl, hy⟩ := wfC hb
 exact ⟨⟨x, y⟩, rfl, hx, hy⟩
theorem zai {d : D} (h : Wf d z25) : ∃ l : List Vc, d = .r (l.map eV) ∧ l.length ≤ 5864062014634 ∧ ∀ x ∈ l, i64 x.v ∧ x.c.ok := by
 obtain ⟨l, e, h1, h2⟩ := h.row_of (te := qip) rfl
 subst e
 obtain ⟨m, rfl, h3⟩ := q95 (e := eV) (P := fun x => i64 x.v ∧ x.c.ok) fun x hx => wfV (h2 x hx)
 have e : LM qip = 5864062014634 := by kernel_rfl
 rw [e, List.length_map] at h1
 exact ⟨m, rfl, h1, h3⟩
def ofV : List Vc → Int → Option Ce
 | [], _ => none
 | x :: l, v => if x.v = v then some x.c else ofV l v
def q6s : List Vc → Int → Ce → List Vc
 | [], v, c => [⟨v, c⟩]
 | x :: l, v, c => if x.v < v then x :: q6s l v c else ⟨v, c⟩ :: x :: l
def loV : List Vc → Int → Nat
 | [], _ => 0
 | x :: l, v => if x.v < v then loV l v + 1 else 0
def SV (l : List Vc) : Prop := l.Pairwise (fun a b => a.v < b.v) ∧ ∀ x ∈ l, 0 ≤ x.v ∧ x.v ≤ 1099511627776
instance (l : List Vc) : Decidable (SV l) := inferInstanceAs (Decidable (_ ∧ _))
theorem z8r (v : Int) : ∀ l, loV l v ≤ l.length
 | [] => Nat.le_refl _
 | x :: l => by
  unfold loV
  have := z8r v l
  split <;> simp <;> omega
theorem z9k {v : Int} : ∀ {l : List Vc} {j : Nat}, j < loV l v → (l.getD j default).v < v
 | [], j, h => by simp [loV] at h
 | x :: l, j, h => by
  unfold loV at h
  split at h
  ·rename_i hx
   cases j with
   | zero => exact hx
   | succ j =>
    rw [List.getD_cons_succ]
    exact z9k (by omega)
  ·omega
theorem qyw {v : Int} : ∀ {l : List Vc}, loV l v < l.length → v ≤ (l.getD (loV l v) default).v
 | [], h => by simp [loV] at h
 | x :: l, h => by
  unfold loV at h ⊢
  split at h
  ·rename_i hx
   rw [if_pos hx, List.getD_cons_succ]
   exact qyw (by simpa using h)
  ·rename_i hx
   rw [if_neg hx, List.getD_cons_zero]
   omega
theorem qn8 (v : Int) (c : Ce) : ∀ l, q6s l v c = l.take (loV l v) ++ ⟨v, c⟩ :: l.drop (loV l v)
 | [] => rfl
 | x :: l => by
  unfold q6s loV
  split
  ·rw [qn8 v c l]
   rfl
  ·rfl
theorem qve {v : Int} {c : Ce} : ∀ {l : List Vc}, ofV l v = some c → ⟨v, c⟩ ∈ l
 | [], h => by cases h
 | x :: l, h => by
  unfold ofV at h
  split at h
  ·rename_i hx
   injection h with h
   subst hx h
   exact List.mem_cons_self
  ·exact List.mem_cons_of_mem _ (qve h)
theorem zay {v : Int} : ∀ {l : List Vc}, ofV l v = none → ∀ y ∈ l, y.v ≠ v
 | [], _, y, hy => by cases hy
 | x :: l, h, y, hy => by
  unfold ofV at h
  split at h
  ·cases h
  ·rename_i hx
   rcases List.mem_cons.1 hy with rfl | hy
   ·exact hx
   ·exact zay h y hy
theorem z0u {v : Int} {c : Ce} {l : List Vc} {y : Vc} : y ∈ q6s l v c ↔ y = ⟨v, c⟩ ∨ y ∈ l := by
 rw [qn8, List.mem_append, List.mem_cons]
 conv => rhs; rw [← List.take_append_drop (loV l v) l, List.mem_append]
 constructor
 ·rintro (h | h | h)
  ·exact .inr (.inl h)
  ·exact .inl h
  ·exact .inr (.inr h)
 ·rintro (h | h | h)
  ·exact .inr (.inl h)
  ·exact .inl h
  ·exact .inr (.inr h)
theorem qva {v : Int} {c : Ce} (h0 : 0 ≤ v) (h1 : v ≤ 1099511627776) : ∀ {l : List Vc}, SV l → ofV l v = none → SV (q6s l v c) := fun {l} h hn => by
 refine ⟨?_, fun y hy => ?_⟩
 ·have hne := zay hn
  have key : ∀ l : List Vc, l.Pairwise (fun a b => a.v < b.v) → (∀ y ∈ l, y.v ≠ v) → (q6s l v c).Pairwise fun a b => a.v < b.v := by
   intro l
   induction l with
   | nil => intro _ _; exact List.pairwise_singleton _ _
   | cons x l ih =>
    intro hp hn
    have hp' := List.pairwise_cons.1 hp
    unfold q6s
    split
    ·rename_i hx
     refine List.pairwise_cons.2 ⟨fun y hy => ?_, ih hp'.2 fun y hy => hn y (by simp [hy])⟩
     rcases z0u.1 hy with rfl | hy
     ·exact hx
     ·exact hp'.1 y hy
    ·rename_i hx
     have := hn x (by simp)
     refine List.pairwise_cons.2 ⟨fun y hy => ?_, hp⟩
     rcases List.mem_cons.1 hy with rfl | hy
     ·show v < y.v; omega
     ·have := hp'.1 y hy
      show v < y.v
      omega
  exact key l h.1 hne
 ·rcases z0u.1 hy with rfl | hy
  ·exact ⟨h0, h1⟩
  ·exact h.2 y hy
theorem zah {b : Int} : ∀ (l : List Vc) (a : Int), a ≤ b + 1 → l.Pairwise (fun x y => x.v < y.v) → (∀ x ∈ l, a ≤ x.v ∧ x.v ≤ b) → (l.length : Int) ≤ b - a + 1
 | [], a, h, _, _ => by simp; omega
 | x :: l, a, h, hp, hr => by
  have hp' := List.pairwise_cons.1 hp
  have hx := hr x (by simp)
  have := zah l (x.v + 1) (by omega) hp'.2 fun y hy => ⟨by have := hp'.1 y hy; omega, (hr y (by simp [hy])).2⟩
  rw [List.length_cons]
  omega
theorem SV.len {l : List Vc} (h : SV l) : (l.length : Int) ≤ 1099511627777 := by
 have := zah (b := 1099511627776) l 0 (by omega) h.1 h.2
 omega
theorem SV.nil : SV [] := ⟨.nil, fun x hx => by cases hx⟩
theorem z5n {nm : ByteArray} {ar : Int} : ∀ (k : Nat) (l : List Sy), 0 ≤ fnd nm ar k l ↔ (⟨nm, ar⟩ : Sy) ∈ l
 | k, [] => by simp [fnd]
 | k, y :: l => by
  unfold fnd
  split
  ·rename_i h
   obtain ⟨rfl, rfl⟩ := h
   exact ⟨fun _ => by simp, fun _ => Int.natCast_nonneg _⟩
  ·rename_i h
   rw [z5n (k + 1) l, List.mem_cons]
   exact ⟨.inr, fun h' => h'.elim (fun e => by subst e; exact (h ⟨rfl, rfl⟩).elim) id⟩
theorem qtq {s : So} {nm : ByteArray} {ar : Int} : 0 ≤ q77 s nm ar ↔ (⟨nm, ar⟩ : Sy) ∈ s.ys := z5n 0 s.ys
def yy (s : So) (nm : ByteArray) (ar : Int) : Int × So := if 0 ≤ q77 s nm ar then (q77 s nm ar, s) else ((s.ys.length : Nat), { s with ys := s.ys ++ [⟨nm, ar⟩] })
def qax (ys : List Sy) (y : Sy) : List Sy := if y ∈ ys then ys else ys ++ [y]
mutual
def q2x (ys : List Sy) : Te → List Sy
 | .mk k _ nm l => q0c (if k = 2 ∨ k = 3 then qax ys ⟨nm, (l.length : Nat)⟩ else ys) l
def q0c (ys : List Sy) : List Te → List Sy
 | [] => ys
 | t :: l => q0c (q2x ys t) l
end
theorem qnv (ys : List Sy) (y : Sy) : ys.length ≤ (qax ys y).length := by
 unfold qax
 split
 ·exact Nat.le_refl _
 ·simp
mutual
theorem z69 : ∀ (t : Te) (ys : List Sy), ys.length ≤ (q2x ys t).length
 | .mk k n nm l, ys => by
  rw [q2x]
  refine Nat.le_trans ?_ (q9l l _)
  split
  ·exact qnv _ _
  ·exact Nat.le_refl _
theorem q9l : ∀ (l : List Te) (ys : List Sy), ys.length ≤ (q0c ys l).length
 | [], ys => Nat.le_refl _
 | t :: l, ys => by
  rw [q0c]
  exact Nat.le_trans (z69 t ys) (q9l l _)
end
theorem qc6 (s : So) (nm : ByteArray) (ar : Int) : (yy s nm ar).2.cs = s.cs ∧ (yy s nm ar).2.mx = s.mx ∧ (yy s nm ar).2.ys = qax s.ys ⟨nm, ar⟩ ∧ (yy s nm ar).2.tr = s.tr ∧ (yy s nm ar).2.wk = s.wk ∧ (yy s nm ar).2.ser = s.ser := by
 unfold yy qax
 by_cases h : 0 ≤ q77 s nm ar
 ·rw [if_pos h, if_pos (qtq.1 h)]
  exact ⟨rfl, rfl, rfl, rfl, rfl, rfl⟩
 ·rw [if_neg h, if_neg (fun q => h (qtq.2 q))]
  exact ⟨rfl, rfl, rfl, rfl, rfl, rfl⟩
def zbo (ys ms : List Sy) (y : Sy) : List Sy := if y ∈ ms ∨ y ∈ ys then ms else ms ++ [y]
mutual
def qyj (ys ms : List Sy) : Te → List Sy
 | .mk k _ nm l => qo0 ys (if k = 2 ∨ k = 3 then zbo ys ms ⟨nm, (l.length : Nat)⟩ else ms) l
def qo0 (ys ms : List Sy) : List Te → List Sy
 | [] => ms
 | t :: l => qo0 ys (qyj ys ms t) l
end
theorem zha (ys ms : List Sy) (y : Sy) : ys ++ zbo ys ms y = qax (ys ++ ms) y := by
 unfold zbo qax
 by_cases h : y ∈ ms ∨ y ∈ ys
 ·rw [if_pos h, if_pos (List.mem_append.2 h.symm)]
 ·rw [if_neg h, if_neg (fun q => h (List.mem_append.1 q).symm), List.append_assoc]
mutual
theorem qoe : ∀ (t : Te) (ys ms : List Sy), ys ++ qyj ys ms t = q2x (ys ++ ms) t
 | .mk k n nm l, ys, ms => by
  rw [qyj, q2x, z41]
  split
  ·rw [zha]
  ·rfl
theorem z41 : ∀ (l : List Te) (ys ms : List Sy), ys ++ qo0 ys ms l = q0c (ys ++ ms) l
 | [], ys, ms => rfl
 | t :: l, ys, ms => by rw [qo0, q0c, z41, qoe]
end
theorem zb3 (ys ms : List Sy) (y : Sy) : (zbo ys ms y).length ≤ ms.length + 1 := by
 unfold zbo
 split
 ·omega
 ·simp
mutual
theorem qgg : ∀ (t : Te) (ys ms : List Sy), (qyj ys ms t).length ≤ ms.length + szT t
 | .mk k n nm l, ys, ms => by
  rw [qyj, szT]
  refine Nat.le_trans (qtw l _ _) ?_
  split
  ·have := zb3 ys ms ⟨nm, (l.length : Nat)⟩
   omega
  ·omega
theorem qtw : ∀ (l : List Te) (ys ms : List Sy), (qo0 ys ms l).length ≤ ms.length + q02 l
 | [], ys, ms => by simp [qo0, q02]
 | t :: l, ys, ms => by
  rw [qo0, q02]
  have h1 := qgg t ys ms
  have h2 := qtw l ys (qyj ys ms t)
  omega
end
mutual
/-- The cells that a term needs, but for a variable that is no argument. -/
def qio : Te → Nat
 | .mk k _ _ l => if k = 3 then 1 + l.length + qgc l else 0
def qgc : List Te → Nat
 | [] => 0
 | t :: l => qio t + qgc l
end
mutual
theorem qh7 : ∀ t : Te, qio t + 1 ≤ 2 * szT t
 | .mk k n nm l => by
  rw [qio, szT]
  have h1 := qzl l
  have h2 := qft l
  split <;> omega
theorem qzl : ∀ l : List Te, qgc l + l.length ≤ 2 * q02 l
 | [] => Nat.le_refl _
 | t :: l => by
  rw [qgc, q02, List.length_cons]
  have h1 := qh7 t
  have h2 := qzl l
  omega
end
def q7k (t : Te) (all : List Vc) : Nat := qio t + if t.k = 0 ∧ ofV all t.n = none then 1 else 0
abbrev Sv := So × List Vc
def q90 (s : So) (i : Nat) (c : Ce) : So := { s with cs := s.cs.set i c }
mutual
/-- A term added; at: the address of the argument that it becomes. -/
def qr (q : Sv) : Te → Int → Ce × Sv
 | .mk k n nm l, at' =>
  if k = 1 then (⟨1, n⟩, q)
  else if k = 2 then (⟨2, (yy q.1 nm 0).1⟩, (yy q.1 nm 0).2, q.2)
  else if k = 0 then (match ofV q.2 n with
   | some c => (yr c, q)
   | none => if at' < 0 then (⟨0, (q.1.cs.length : Nat)⟩, { q.1 with cs := q.1.cs ++ [⟨0, (q.1.cs.length : Nat)⟩] }, q6s q.2 n ⟨0, (q.1.cs.length : Nat)⟩) else (⟨0, at'⟩, q.1, q6s q.2 n ⟨0, at'⟩))
  else (⟨3, (q.1.cs.length : Nat)⟩, yc ({ (yy q.1 nm (l.length : Nat)).2 with cs := q.1.cs ++ (⟨4, (yy q.1 nm (l.length : Nat)).1⟩ :: List.replicate l.length ⟨0, 0⟩) }, q.2) l (q.1.cs.length + 1))
def yc (q : Sv) : List Te → Nat → Sv
 | [], _ => q
 | a :: l, to => yc (q90 (qr q a (to : Nat)).2.1 to (qr q a (to : Nat)).1, (qr q a (to : Nat)).2.2) l (to + 1)
end
theorem q39 (s : So) (i : Nat) (c : Ce) : (q90 s i c).cs.length = s.cs.length := by simp [q90]
def Rst (s s' : So) : Prop := s'.mx = s.mx ∧ s'.tr = s.tr ∧ s'.wk = s.wk ∧ s'.ser = s.ser
theorem Rst.trans {a b c : So} (h : Rst a b) (k : Rst b c) : Rst a c := ⟨k.1.trans h.1, k.2.1.trans h.2.1, k.2.2.1.trans h.2.2.1, k.2.2.2.trans h.2.2.2⟩
theorem zel (k n : Int) (s : ByteArray) (l : List Te) : q2y (.mk k n s l) = if k = 0 then decide (0 ≤ n) && (decide (n ≤ 1099511627776) && (decide (s = ⟨#[]⟩) && decide ((l.length : Int) = 0)))
 else if k = 1 then decide (s = ⟨#[]⟩) && decide ((l.length : Int) = 0)
 else if k = 2 then decide (n = 0) && (decide ((s.size : Int) ≤ 100) && decide ((l.length : Int) = 0))
 else if k = 3 then decide (n = 0) && (decide ((s.size : Int) ≤ 100) && (decide (1 ≤ (l.length : Int)) && decide ((l.length : Int) ≤ 8)))
 else false := rfl
theorem q05 {k n : Int} {s : ByteArray} {l : List Te} (h : q2y (.mk k n s l) = true) : (k = 0 ∧ l = [] ∧ 0 ≤ n ∧ n ≤ 1099511627776) ∨ (k = 1 ∧ l = []) ∨ (k = 2 ∧ l = [] ∧ s.size ≤ 100) ∨ (k = 3 ∧ s.size ≤ 100 ∧ 1 ≤ l.length ∧ l.length ≤ 8) := by
 rw [zel] at h
 by_cases h0 : k = 0
 ·rw [if_pos h0] at h
  simp only [Bool.and_eq_true, decide_eq_true_eq] at h
  exact .inl ⟨h0, List.length_eq_zero_iff.1 (by omega), h.1, h.2.1⟩
 rw [if_neg h0] at h
 by_cases h1 : k = 1
 ·rw [if_pos h1] at h
  simp only [Bool.and_eq_true, decide_eq_true_eq] at h
  exact .inr (.inl ⟨h1, List.length_eq_zero_iff.1 (by omega)⟩)
 rw [if_neg h1] at h
 by_cases h2 : k = 2
 ·rw [if_pos h2] at h
  simp only [Bool.and_eq_true, decide_eq_true_eq] at h
  exact .inr (.inr (.inl ⟨h2, List.length_eq_zero_iff.1 (by omega), by omega⟩))
 rw [if_neg h2] at h
 split at h
 ·rename_i h3
  simp only [Bool.and_eq_true, decide_eq_true_eq] at h
  exact .inr (.inr (.inr ⟨h3, by omega, by omega, by omega⟩))
 ·cases h
theorem q61 (q : Sv) (n : Int) (nm : ByteArray) (l : List Te) (a : Int) : qr q (.mk 0 n nm l) a = match ofV q.2 n with
   | some c => (yr c, q)
   | none => if a < 0 then (⟨0, (q.1.cs.length : Nat)⟩, { q.1 with cs := q.1.cs ++ [⟨0, (q.1.cs.length : Nat)⟩] }, q6s q.2 n ⟨0, (q.1.cs.length : Nat)⟩) else (⟨0, a⟩, q.1, q6s q.2 n ⟨0, a⟩) := by
 rw [qr, if_neg (by decide), if_neg (by decide), if_pos rfl]
theorem q9j (q : Sv) (n : Int) (nm : ByteArray) (l : List Te) (a : Int) : qr q (.mk 1 n nm l) a = (⟨1, n⟩, q) := by rw [qr, if_pos rfl]
theorem q9g (q : Sv) (n : Int) (nm : ByteArray) (l : List Te) (a : Int) : qr q (.mk 2 n nm l) a = (⟨2, (yy q.1 nm 0).1⟩, (yy q.1 nm 0).2, q.2) := by rw [qr, if_neg (by decide), if_pos rfl]
theorem q9m (q : Sv) (n : Int) (nm : ByteArray) (l : List Te) (a : Int) : qr q (.mk 3 n nm l) a = (⟨3, (q.1.cs.length : Nat)⟩, yc ({ (yy q.1 nm (l.length : Nat)).2 with cs := q.1.cs ++ (⟨4, (yy q.1 nm (l.length : Nat)).1⟩ :: List.replicate l.length ⟨0, 0⟩) }, q.2) l (q.1.cs.length + 1)) := by rw [qr, if_neg (by decide), if_neg (by decide), if_neg (by decide)]
theorem qqt {k n : Int} {nm : ByteArray} {l : List Te} (h : k ≠ 3) : qio (.mk k n nm l) = 0 := by rw [qio, if_neg h]
theorem qwp {k n : Int} {nm : ByteArray} {l : List Te} (h : k ≠ 0) (all : List Vc) : q7k (.mk k n nm l) all = qio (.mk k n nm l) := by
 unfold q7k
 rw [if_neg (fun q => h q.1)]
 rfl
theorem z5i {k n : Int} {nm : ByteArray} {ys : List Sy} (h : ¬ (k = 2 ∨ k = 3)) : q2x ys (.mk k n nm []) = ys := by rw [q2x, if_neg h, q0c]
theorem zby {n : Int} {nm : ByteArray} {ys : List Sy} : q2x ys (.mk 2 n nm []) = qax ys ⟨nm, 0⟩ := by rw [q2x, if_pos (.inl rfl), q0c]; rfl
theorem zag {n : Int} {nm : ByteArray} {ys : List Sy} {l : List Te} : q2x ys (.mk 3 n nm l) = q0c (qax ys ⟨nm, (l.length : Nat)⟩) l := by rw [q2x, if_pos (.inr rfl)]
theorem zg4 {n : Int} {nm : ByteArray} {l : List Te} : qio (.mk 3 n nm l) = 1 + l.length + qgc l := by rw [qio, if_pos rfl]
theorem Rst.refl (s : So) : Rst s s := ⟨rfl, rfl, rfl, rfl⟩
mutual
theorem q1y : ∀ (t : Te) (q : Sv) (a : Int), qu t = true → SV q.2 → (qr q t a).2.1.cs.length = q.1.cs.length + (if a < 0 then q7k t q.2 else qio t) ∧ (qr q t a).2.1.ys = q2x q.1.ys t ∧ Rst q.1 (qr q t a).2.1 ∧ SV (qr q t a).2.2
 | .mk k n nm l, q, a, hn, hs => by
  rw [qu, Bool.and_eq_true] at hn
  rcases q05 hn.1 with ⟨rfl, rfl, h1, h2⟩ | ⟨rfl, rfl⟩ | ⟨rfl, rfl, h1⟩ | ⟨rfl, h1, h2, h3⟩
  ·have e1 : q7k (.mk 0 n nm []) q.2 = if ofV q.2 n = none then 1 else 0 := by
    unfold q7k
    rw [qqt (by decide)]
    simp [Te.k, Te.n]
   rw [q61, z5i (by decide), qqt (by decide), e1]
   cases ho : ofV q.2 n with
   | some c => exact ⟨by simp, rfl, Rst.refl _, hs⟩
   | none =>
    by_cases ha : a < 0
    ·simp only [if_pos ha]
     exact ⟨by simp, by trivial, ⟨rfl, rfl, rfl, rfl⟩, qva h1 h2 hs ho⟩
    ·simp only [if_neg ha]
     exact ⟨by simp, by trivial, ⟨rfl, rfl, rfl, rfl⟩, qva h1 h2 hs ho⟩
  ·rw [q9j, z5i (by decide), qwp (by decide), qqt (by decide)]
   exact ⟨by simp, rfl, Rst.refl _, hs⟩
  ·obtain ⟨e1, e2, e3, e4, e5, e6⟩ := qc6 q.1 nm 0
   rw [q9g, zby, qwp (by decide), qqt (by decide)]
   exact ⟨by rw [e1]; simp, e3, ⟨e2, e4, e5, e6⟩, hs⟩
  ·obtain ⟨e1, e2, e3, e4, e5, e6⟩ := qc6 q.1 nm (l.length : Nat)
   rw [q9m, zag, qwp (by decide), zg4]
   obtain ⟨g1, g2, g3, g4⟩ := q8p l ({ (yy q.1 nm (l.length : Nat)).2 with cs := q.1.cs ++ (⟨4, (yy q.1 nm (l.length : Nat)).1⟩ :: List.replicate l.length ⟨0, 0⟩) }, q.2) (q.1.cs.length + 1) hn.2 hs
   refine ⟨?_, ?_, ?_, g4⟩
   ·rw [g1]
    simp
    omega
   ·rw [g2]
    show q0c (yy q.1 nm (l.length : Nat)).2.ys l = _
    rw [e3]
   ·exact Rst.trans ⟨e2, e4, e5, e6⟩ g3
theorem q8p : ∀ (l : List Te) (q : Sv) (to : Nat), zj l = true → SV q.2 → (yc q l to).1.cs.length = q.1.cs.length + qgc l ∧ (yc q l to).1.ys = q0c q.1.ys l ∧ Rst q.1 (yc q l to).1 ∧ SV (yc q l to).2
 | [], q, to, _, hs => ⟨rfl, rfl, ⟨rfl, rfl, rfl, rfl⟩, hs⟩
 | t :: l, q, to, hn, hs => by
  rw [zj, Bool.and_eq_true] at hn
  rw [yc, qgc, q0c]
  obtain ⟨h1, h2, h3, h4⟩ := q1y t q (to : Nat) hn.1 hs
  obtain ⟨g1, g2, g3, g4⟩ := q8p l (q90 (qr q t (to : Nat)).2.1 to (qr q t (to : Nat)).1, (qr q t (to : Nat)).2.2) (to + 1) hn.2 h4
  refine ⟨?_, ?_, ?_, g4⟩
  ·rw [g1, q39, h1, if_neg (by omega)]
   omega
  ·rw [g2]
   show q0c (qr q t (to : Nat)).2.1.ys l = _
   rw [h2]
  ·exact Rst.trans h3 g3
end
def vAt (s : So) (l : List Vc) (k : Nat) : Bool := decide (0 ≤ (l.getD k default).v) && (decide ((l.getD k default).v ≤ 1099511627776) && (decide (k = 0 ∨ (l.getD (k - 1) default).v < (l.getD k default).v) && vcP s (l.getD k default).c))
def vvP (s : So) (l : List Vc) : Bool := (List.range l.length).all (vAt s l)
theorem qci {l : List Vc} {i : Nat} (h : i < l.length) : l.getD i default = l[i] := by
 rw [List.getD_eq_getElem?_getD, List.getElem?_eq_getElem h]
 rfl
theorem qcd {s : So} {l : List Vc} : vvP s l = true ↔ SV l ∧ ∀ x ∈ l, vcP s x.c = true := by
 unfold vvP
 rw [List.all_eq_true]
 constructor
 ·intro h
  have h' : ∀ k, k < l.length → vAt s l k = true := fun k hk => h k (List.mem_range.2 hk)
  have step : ∀ j i, i < j → j < l.length → (l.getD i default).v < (l.getD j default).v := by
   intro j
   induction j with
   | zero => intro i hi; omega
   | succ j ih =>
    intro i hi hj
    have h1 := h' (j + 1) hj
    simp only [vAt, Bool.and_eq_true, decide_eq_true_eq] at h1
    have h2 : (l.getD j default).v < (l.getD (j + 1) default).v := by
     rcases h1.2.2.1 with h | h
     ·omega
     ·exact h
    rcases Nat.lt_or_eq_of_le (Nat.le_of_lt_succ hi) with h3 | rfl
    ·have := ih i h3 (by omega)
     omega
    ·exact h2
  refine ⟨⟨List.pairwise_iff_getElem.2 fun i j hi hj hij => ?_, fun x hx => ?_⟩, fun x hx => ?_⟩
  ·have := step j i hij hj
   rw [qci hi, qci hj] at this
   exact this
  ·obtain ⟨i, hi, rfl⟩ := List.mem_iff_getElem.1 hx
   have h1 := h' i hi
   simp only [vAt, Bool.and_eq_true, decide_eq_true_eq, qci hi] at h1
   exact ⟨h1.1, h1.2.1⟩
  ·obtain ⟨i, hi, rfl⟩ := List.mem_iff_getElem.1 hx
   have h1 := h' i hi
   simp only [vAt, Bool.and_eq_true, decide_eq_true_eq, qci hi] at h1
   exact h1.2.2.2
 ·rintro ⟨hs, hc⟩ k hk
  have hk := List.mem_range.1 hk
  have hm := q19 hk
  simp only [vAt, Bool.and_eq_true, decide_eq_true_eq]
  refine ⟨(hs.2 _ hm).1, (hs.2 _ hm).2, ?_, hc _ hm⟩
  rcases Nat.eq_zero_or_pos k with h | h
  ·exact .inl h
  ·right
   have h1 : k - 1 < l.length := by omega
   rw [qci h1, qci hk]
   exact List.pairwise_iff_getElem.1 hs.1 (k - 1) k h1 hk (by omega)
def gVV (f : So → List Vc → Bool) : List D → Option (List D)
 | [s, l] => some [.b (f (dS s) (dVs l))]
 | _ => none
def qb2 (s : So) (t : Te) (l : List Vc) : Bool := decide ((q7k t l : Int) ≤ s.mx - s.cs.length) && decide (((qyj s.ys [] t).length : Int) ≤ 1048576 - s.ys.length)
def zgt (s : So) (all : List Vc) (t : Te) (a : Int) : Bool := qu t && (decide (SV all) && (decide ((s.cs.length : Int) + ((if a < 0 then q7k t all else qio t : Nat) : Int) ≤ s.mx) && (decide (s.mx ≤ 1048576) && (decide ((q2x s.ys t).length ≤ 1048576) && decide (a ≤ 1048576)))))
theorem zcp (s : So) (i : Nat) (c : Ce) : D.a ((eS s).fs.set 0 (.r ((s.cs.map eC).set i (eC c)))) = eS (q90 s i c) := by
 rw [← List.map_set]
 rfl
theorem qwv (s : So) (l : List Ce) : D.a ((eS s).fs.set 0 (.r (s.cs.map eC ++ l.map eC))) = eS { s with cs := s.cs ++ l } := by
 rw [← List.map_append]
 rfl
def z36 (s : So) (t : Te) (l : List Vc) : Ce × List Vc × Int × So :=
 if qi t && vvP s l then (if qb2 s t l then ((qr (s, l) t (-1)).1, (qr (s, l) t (-1)).2.2, 0, (qr (s, l) t (-1)).2.1) else (⟨0, 0⟩, [], 13, s)) else (⟨0, 0⟩, [], 1, s)
def z6k : List D → Option (List D)
 | [s, t, l] => if qs (dS s) then some [eC (z36 (dS s) (dT t) (dVs l)).1, .r ((z36 (dS s) (dT t) (dVs l)).2.1.map eV), .i (z36 (dS s) (dT t) (dVs l)).2.2.1, eS (z36 (dS s) (dT t) (dVs l)).2.2.2] else none
 | _ => none
theorem z4q {s : So} (h : qs s = true) : 1 ≤ s.mx ∧ s.mx ≤ 1048576 ∧ (s.cs.length : Int) ≤ s.mx ∧ s.ys.length ≤ 1048576 := by
 have h := qfk h
 simp only [qgx, qbl, Bool.and_eq_true, decide_eq_true_eq] at h
 omega
theorem zca {s : So} {t : Te} {l : List Vc} (hs : qs s = true) (ht : qi t = true) (hl : vvP s l = true) (hr : qb2 s t l = true) : zgt s l t (-1) = true := by
 obtain ⟨h1, h2, h3, h4⟩ := z4q hs
 simp only [qi, Bool.and_eq_true, decide_eq_true_eq] at ht
 simp only [qb2, Bool.and_eq_true, decide_eq_true_eq] at hr
 have hv := qoe t s.ys []
 rw [List.append_nil] at hv
 have hv' := congrArg List.length hv
 rw [List.length_append] at hv'
 simp only [zgt, Bool.and_eq_true, decide_eq_true_eq]
 exact ⟨ht.2, (qcd.1 hl).1, by rw [if_pos (by decide)]; omega, h2, by omega, by decide⟩
end Go.Proofs.Ytaoamndcdjelnaa
