/-
 Lemmas of the walk and plain laws, put together. No condition.
-/
import Derived.Deep.RegionLaw
import Derived.Lib.AppendZerosOnto
import Derived.RangeFuncSeq
import Derived.Shelf.Spec.SlicesInsert
import Derived.StillTailTactics
import Derived.TacticsInMore
import Derived.Test.YtdaadonfbnedaaaGreatKe
namespace Go.Proofs.YtdaadonfbnedaaaGreat
open Go.RowKit
set_option linter.unusedVariables false
set_option linter.unusedSimpArgs false
set_option maxRecDepth 100000
inductive Te where
 | mk (k n : Int) (s : ByteArray) (l : List Te)
instance : Inhabited Te := ⟨.mk 0 0 ⟨#[]⟩ []⟩
def Te.k : Te → Int | .mk k _ _ _ => k
def Te.n : Te → Int | .mk _ n _ _ => n
def Te.s : Te → ByteArray | .mk _ _ s _ => s
def Te.l : Te → List Te | .mk _ _ _ l => l
mutual
theorem Te.ind0 {P : Te → Prop} (h : ∀ k n s l, (∀ t ∈ l, P t) → P (.mk k n s l)) : ∀ t, P t
 | .mk k n s l => h k n s l (Te.inds h l)
theorem Te.inds {P : Te → Prop} (h : ∀ k n s l, (∀ t ∈ l, P t) → P (.mk k n s l)) : ∀ (l : List Te), ∀ t ∈ l, P t
 | [], _, ht => by cases ht
 | u :: l, t, ht => by
  exact (List.mem_cons.1 ht).elim (fun e => e ▸ Te.ind0 h u) fun h' => Te.inds h l t h'
end
mutual
def eT : Te → D
 | .mk k n s l => .a [.i k, .i n, .s s, .r (eTs l)]
def eTs : List Te → List D
 | [] => []
 | t :: l => eT t :: eTs l
end
theorem z4r : ∀ l, eTs l = l.map eT
 | [] => rfl
 | t :: l => by rw [eTs, z4r l, List.map_cons]
theorem qlk (k n : Int) (s : ByteArray) (l : List Te) : eT (.mk k n s l) = .a [.i k, .i n, .s s, .r (l.map eT)] := by rw [eT, z4r]
mutual
def dT : D → Te
 | .a [.i k, .i n, .s s, .r l] => .mk k n s (dTs l)
 | _ => .mk 0 0 ⟨#[]⟩ []
def dTs : List D → List Te
 | [] => []
 | d :: l => dT d :: dTs l
end
mutual
theorem q1w : ∀ t, dT (eT t) = t
 | .mk k n s l => by simp only [eT, dT, z6j l]
theorem z6j : ∀ l, dTs (eTs l) = l
 | [] => rfl
 | t :: l => by simp only [eTs, dTs, q1w t, z6j l]
end
variable {t : Te}
theorem zi7 {u : Te} (h : eT t = eT u) : t = u := by rw [← q1w t, h, q1w u]
theorem zhd (t u : Te) : (eT t = eT u) = (t = u) := propext ⟨zi7, fun h => h ▸ rfl⟩
theorem zjh (t : Te) : (eT t).fld 0 = .i t.k := by cases t; rfl
theorem zj1 (t : Te) : (eT t).fld 1 = .i t.n := by cases t; rfl
theorem zkl (t : Te) : (eT t).fld 2 = .s t.s := by cases t; rfl
theorem zl1 (t : Te) : (eT t).fld 3 = .r (t.l.map eT) := by cases t; rw [qlk]; rfl
theorem zdn (k n : Int) (s : ByteArray) (l : List Te) (x : Te) : D.a ((eT (.mk k n s l)).fs.set 3 (.r (l.map eT ++ [eT x]))) = eT (.mk k n s (l ++ [x])) := by
 rw [qlk, qlk]
 simp [D.fs]
def zT : Te := .mk 0 0 ⟨#[]⟩ []
theorem zlr : D.a [.i 0, .i 0, .s ⟨#[]⟩, .r []] = eT zT := rfl
theorem gnT : type_of% (And.intro @q1w (And.intro @zjh (And.intro @zj1 (And.intro @zkl (And.intro @zl1 (And.intro @zhd @zlr)))))) := And.intro @q1w (And.intro @zjh (And.intro @zj1 (And.intro @zkl (And.intro @zl1 (And.intro @zhd @zlr)))))
mutual
def szT : Te → Nat
 | .mk _ _ _ l => q4g l + 1
def q4g : List Te → Nat
 | [] => 0
 | t :: l => szT t + q4g l
end
theorem zg7 (t : Te) : 1 ≤ szT t := by cases t; rw [szT]; omega
theorem z1o : ∀ {l : List Te}, t ∈ l → szT t ≤ q4g l
 | u :: l, h => by
  rcases List.mem_cons.1 h with rfl | h
  ·rw [q4g]; omega
  ·have := z1o h; rw [q4g]; omega
theorem zgf {u : Te} (h : u ∈ t.l) : szT u < szT t := by
 cases t
 have := z1o h
 rw [szT]
 exact Nat.lt_succ_of_le this
theorem qhe : ∀ (l m : List Te), q4g (l ++ m) = q4g l + q4g m
 | [], m => by simp [q4g]
 | t :: l, m => by rw [List.cons_append, q4g, q4g, qhe l m]; omega
theorem qvb {l : List Te} {k : Nat} (h : k < l.length) : q4g (l.take (k + 1)) = q4g (l.take k) + szT (l.getD k default) := by
 rw [qae h, qhe]
 simp [q4g]
theorem z1t : ∀ (l : List Te), l.length ≤ q4g l
 | [] => Nat.le_refl _
 | t :: l => by have := z1t l; have := zg7 t; rw [q4g, List.length_cons]; omega
theorem zh4 (t : Te) : szT t = q4g t.l + 1 := by cases t; rw [szT]; rfl
mutual
def okT : Te → Prop
 | .mk k n s l => i64 k ∧ i64 n ∧ s.size ≤ LIM ∧ l.length ≤ 2513169434843 ∧ ze5 l
def ze5 : List Te → Prop
 | [] => True
 | t :: l => okT t ∧ ze5 l
end
theorem z0x : ∀ {l : List Te}, ze5 l ↔ ∀ t ∈ l, okT t
 | [] => ⟨fun _ t h => (by cases h), fun _ => trivial⟩
 | t :: l => by rw [ze5, z0x]; simp
theorem z87 {k n : Int} {s : ByteArray} {l : List Te} : okT (.mk k n s l) ↔ i64 k ∧ i64 n ∧ s.size ≤ LIM ∧ l.length ≤ 2513169434843 ∧ ∀ t ∈ l, okT t := by rw [okT, z0x]
theorem okT.l (h : okT t) : t.l.length ≤ 2513169434843 := by cases t; exact (z87.1 h).2.2.2.1
theorem z4d (d : D) : (Wf d qki → ∃ t, d = eT t ∧ okT t) ∧ (Wf d qin → ∃ l : List Te, d = .r (l.map eT) ∧ l.length ≤ 2513169434843 ∧ ∀ t ∈ l, okT t) := by
 have noS : ∀ {d : D}, Wf d qki → ∃ l, d = .a l := fun h => let ⟨l, e, _⟩ := h.st_of (fs := [.int .i64, .int .i64, .str, qin]) rfl; ⟨l, e⟩
 have noR : ∀ {d : D}, Wf d qin → ∃ l, d = .r l := fun h => let ⟨l, e, _⟩ := h.row_of (te := qki) rfl; ⟨l, e⟩
 induction d using D.ind with
 | hu => exact ⟨fun h => (by obtain ⟨_, e⟩ := noS h; cases e), fun h => (by obtain ⟨_, e⟩ := noR h; cases e)⟩
 | hi n => exact ⟨fun h => (by obtain ⟨_, e⟩ := noS h; cases e), fun h => (by obtain ⟨_, e⟩ := noR h; cases e)⟩
 | hb n => exact ⟨fun h => (by obtain ⟨_, e⟩ := noS h; cases e), fun h => (by obtain ⟨_, e⟩ := noR h; cases e)⟩
 | hs n => exact ⟨fun h => (by obtain ⟨_, e⟩ := noS h; cases e), fun h => (by obtain ⟨_, e⟩ := noR h; cases e)⟩
 | hm n => exact ⟨fun h => (by obtain ⟨_, e⟩ := noS h; cases e), fun h => (by obtain ⟨_, e⟩ := noR h; cases e)⟩
 | ha l ih =>
  refine ⟨fun h => ?_, fun h => (by obtain ⟨_, e⟩ := noR h; cases e)⟩
  obtain ⟨ds, e, hl⟩ := h.st_of (fs := [.int .i64, .int .i64, .str, qin]) rfl
  injection e with e
  subst e
  obtain ⟨d0, r, rfl, h0, hl⟩ := q96 hl
  obtain ⟨d1, r, rfl, h1, hl⟩ := q96 hl
  obtain ⟨d2, d3, rfl, h2, h3⟩ := qzw hl
  obtain ⟨k, rfl, hk⟩ := wfI h0
  obtain ⟨n, rfl, hn⟩ := wfI h1
  obtain ⟨s, rfl, hs⟩ := h2.str
  obtain ⟨ts, rfl, h4, h5⟩ := (ih d3 (by simp)).2 h3
  exact ⟨.mk k n s ts, (qlk _ _ _ _).symm, z87.2 ⟨hk, hn, hs, h4, h5⟩⟩
 | hr l ih =>
  refine ⟨fun h => (by obtain ⟨_, e⟩ := noS h; cases e), fun h => ?_⟩
  obtain ⟨l', e, h1, h2⟩ := h.row_of (te := qki) rfl
  injection e with e
  subst e
  obtain ⟨m, rfl, h3⟩ := qb7 (e := eT) (P := okT) fun x hx => (ih x hx).1 (h2 x hx)
  have e : LM qki = 2513169434843 := by kernel_rfl
  rw [e, List.length_map] at h1
  exact ⟨m, rfl, h1, h3⟩
variable {d : D}
theorem wfT (h : Wf d qki) : ∃ t, d = eT t ∧ okT t := (z4d d).1 h
theorem zo5 (h : Wf d qin) : ∃ l : List Te, d = .r (l.map eT) ∧ l.length ≤ 2513169434843 ∧ ∀ t ∈ l, okT t := (z4d d).2 h
def q8v (t : Te) : Bool :=
 if t.k = 0 then decide (0 ≤ t.n) && (decide (t.n ≤ 1099511627776) && (decide (t.s = ⟨#[]⟩) && decide ((t.l.length : Int) = 0)))
 else if t.k = 1 then decide (t.s = ⟨#[]⟩) && decide ((t.l.length : Int) = 0)
 else if t.k = 2 then decide (t.n = 0) && (decide ((t.s.size : Int) ≤ 100) && decide ((t.l.length : Int) = 0))
 else if t.k = 3 then decide (t.n = 0) && (decide ((t.s.size : Int) ≤ 100) && (decide (1 ≤ (t.l.length : Int)) && decide ((t.l.length : Int) ≤ 8)))
 else false
mutual
def jv : Te → Bool
 | .mk k n s l => q8v (.mk k n s l) && qb6 l
def qb6 : List Te → Bool
 | [] => true
 | t :: l => jv t && qb6 l
end
theorem ql5 : ∀ {l : List Te}, qb6 l = true ↔ ∀ t ∈ l, jv t = true
 | [] => ⟨fun _ t h => (by cases h), fun _ => rfl⟩
 | t :: l => by rw [qb6, Bool.and_eq_true, ql5]; simp
theorem qri (t : Te) : jv t = (q8v t && (List.range t.l.length).all fun i => jv (t.l.getD i default)) := by
 cases t with
 | mk k n s l =>
  rw [jv]
  congr 1
  rw [Bool.eq_iff_iff, ql5, List.all_eq_true]
  refine ⟨fun h i hi => h _ (qik (List.mem_range.1 hi)), fun h t ht => ?_⟩
  obtain ⟨i, hi, rfl⟩ := List.getElem_of_mem ht
  have := h i (List.mem_range.2 hi)
  rwa [show (Te.mk k n s l).l.getD i default = l[i] by simp [Te.l, List.getD_eq_getElem?_getD, List.getElem?_eq_getElem hi]] at this
def q2w (t : Te) : Bool := decide (szT t ≤ 2000) && jv t
mutual
def idT : Te → Te → Bool
 | .mk k n s l, .mk k' n' s' l' => decide (k = k') && (decide (n = n') && (decide (s = s') && z2m l l'))
def z2m : List Te → List Te → Bool
 | [], [] => true
 | t :: l, u :: m => idT t u && z2m l m
 | _, _ => false
end
mutual
theorem qxq : ∀ (t u : Te), idT t u = true ↔ t = u
 | .mk k n s l, .mk k' n' s' l' => by simp [idT, qzp l l']
theorem qzp : ∀ (l m : List Te), z2m l m = true ↔ l = m
 | [], [] => by simp [z2m]
 | t :: l, u :: m => by simp [z2m, qxq t u, qzp l m]
 | [], _ :: _ => by simp [z2m]
 | _ :: _, [] => by simp [z2m]
end
instance : DecidableEq Te := fun t u => if h : idT t u = true then .isTrue ((qxq t u).1 h) else .isFalse fun e => h ((qxq t u).2 e)
def mT (ds : List D) : Nat := szT (dT (ds.getD 0 .u))
def zfm : List D → Option (List D)
 | [t, m] => if 1 ≤ m.int then some [.i (min (szT (dT t) : Int) m.int)] else none
 | _ => none
def gTi (f : Te → Int) : List D → Option (List D)
 | [t] => some [.i (f (dT t))]
 | _ => none
def gTb (f : Te → Bool) : List D → Option (List D)
 | [t] => some [.b (f (dT t))]
 | _ => none
def gTT (f : Te → Te) : List D → Option (List D)
 | [t] => some [eT (f (dT t))]
 | _ => none
theorem zo7 (k n : Int) (s : ByteArray) (l : List Te) : (Te.mk k n s l).l = l := rfl
theorem qr5 {l : List Te} {k : Nat} (h : k < l.length) : (D.r (l.map eT)).get (k : Int) = eT (l.getD k default) := q7o eT h
theorem qgb {k : Nat} (h : k < t.l.length) : szT (t.l.getD k default) < szT t := zgf (qik h)
theorem qq7 : FOk yd zfm := qb3 (m := mT) q58 fun N ih => qbq ih fun ds outs hw hg => by
 obtain ⟨d, r, rfl, hd, e, r', rfl, he, rfl⟩ := hw
 obtain ⟨t, rfl, ht⟩ := wfT hd
 obtain ⟨m, rfl, hm⟩ := wfI he
 simp only [q5l, mT, zfm, List.getD_cons_zero, q1w, yv, Option.ite_none_right_eq_some, Option.some.injEq] at hg
 obtain ⟨hsz, h1, rfl⟩ := hg
 have hl := ht.l
 rw [q3a, jt]
 refine ⟨fun st => ∃ k : Nat, k ≤ t.l.length ∧ st = [.i (min ((q4g (t.l.take k) : Int) + 1) m), .i k], fun st => t.l.length - (st.getD 1 .u).int.toNat, ⟨0, Nat.zero_le _, by simp [X.evs, X.ev, q4g]; omega⟩, ?_⟩
 rintro st - ⟨k, hk, rfl⟩
 rw [qj]
 refine ⟨fun hlt => ?_, fun hlt => ?_⟩
 ·simp only [gnZ, gnT, Bool.and_eq_true] at hlt
  obtain ⟨hkl, hlm⟩ := hlt
  have hkl' : k < t.l.length := by omega
  have ha := qgb hkl'
  have hs := qvb hkl'
  have hmn : 1 ≤ m - min ((q4g (t.l.take k) : Int) + 1) m := by omega
  simp only [gnZ, gnT, qr5 hkl', q5l, mT, zfm, if_pos hmn, if_pos (show szT (t.l.getD k default) < N by omega)]
  refine ⟨⟨by omega, by omega, by omega, by omega⟩, ⟨by omega, by omega⟩, ?_⟩
  rw [q2p, if_pos rfl]
  refine ⟨⟨k + 1, by omega, ?_⟩, ?_⟩
  ·rw [hs]
   simp
   omega
  ·simp [D.int]
   omega
 ·simp only [gnZ, gnT, Bool.and_eq_false_iff] at hlt
  simp only [gnZ, gnT]
  have hz := zh4 t
  have : min ((q4g (t.l.take k) : Int) + 1) m = min (szT t : Int) m := by
   rcases hlt with h | h
   ·have : k = t.l.length := by omega
    subst this
    rw [List.take_length]
    omega
   ·have h2 := qhe (t.l.take k) (t.l.drop k)
    rw [List.take_append_drop] at h2
    omega
  rw [this]
theorem qud : FOk jw (gTi fun t => min (szT t : Int) 2001) := qcl qq7 fun ds outs hw hg => by
 obtain ⟨d, r, rfl, hd, rfl⟩ := hw
 obtain ⟨t, rfl, ht⟩ := wfT hd
 simp only [gTi, q1w, Option.some.injEq] at hg
 subst hg
 simp [q45, gnZ, gnT, zfm]
theorem qsz : FOk jx (gTb q8v) := qcz fun ds outs hw hg => by
 obtain ⟨d, r, rfl, hd, rfl⟩ := hw
 obtain ⟨t, rfl, ht⟩ := wfT hd
 simp only [gTb, q1w, Option.some.injEq] at hg
 subst hg
 simp only [q48, gnZ, gnT, q8v]
 by_cases h0 : t.k = 0
 ·simp [h0, Bool.and_assoc]
 ·by_cases h1 : t.k = 1
  ·simp [h1]
  ·by_cases h2 : t.k = 2
   ·simp [h2, Bool.and_assoc]
   ·by_cases h3 : t.k = 3
    ·simp [h3, Bool.and_assoc]
    ·simp [h0, h1, h2, h3]
theorem q87 (t : Te) : jv t = true ↔ q8v t = true ∧ ∀ j, j < t.l.length → jv (t.l.getD j default) = true := by
 rw [qri, Bool.and_eq_true, List.all_eq_true]
 simp
theorem qsk : FOk zz (gTb jv) := qb3 (m := mT) q5f fun N ih => qbl qsz ih fun ds outs hw hg => by
 obtain ⟨d, r, rfl, hd, rfl⟩ := hw
 obtain ⟨t, rfl, ht⟩ := wfT hd
 simp only [q5l, mT, gTb, List.getD_cons_zero, q1w, yv, Option.ite_none_right_eq_some, Option.some.injEq] at hg
 obtain ⟨hsz, rfl⟩ := hg
 have hl := ht.l
 simp only [q3b, gnZ, gnT, gTb]
 refine ⟨fun hn => ?_, fun hn => ?_⟩
 ·rw [qri, show q8v t = false by simpa using hn]
  rfl
 have hn : q8v t = true := by simpa using hn
 rw [jt]
 refine ⟨fun st => ∃ k : Nat, k ≤ t.l.length ∧ st = [.b false, .i k] ∧ ∀ j, j < k → jv (t.l.getD j default) = true, fun st => t.l.length - (st.getD 1 .u).int.toNat, ⟨0, Nat.zero_le _, rfl, fun j hj => absurd hj (Nat.not_lt_zero _)⟩, ?_⟩
 rintro st - ⟨k, hk, rfl, hP⟩
 rw [qj]
 refine ⟨fun hlt => ?_, fun hlt => ?_⟩
 ·simp only [gnZ, gnT] at hlt
  have hkl' : k < t.l.length := by omega
  have ha := qgb hkl'
  simp only [gnZ, gnT, qr5 hkl', q5l, mT, gTb, if_pos (show szT (t.l.getD k default) < N by omega)]
  refine ⟨⟨by omega, by omega⟩, fun hx => ?_, fun hx => ⟨⟨by omega, by omega⟩, ?_⟩⟩
  ·have : jv t = false := by
    cases hh : jv t with
    | false => rfl
    | true => rw [((q87 t).1 hh).2 k hkl'] at hx; cases hx
   rw [this]
  ·rw [q2p, if_pos rfl]
   refine ⟨⟨k + 1, by omega, by simp, q2i hP (by simpa using hx)⟩, ?_⟩
   simp [D.int]
   omega
 ·simp only [gnZ, gnT] at hlt ⊢
  have : k = t.l.length := by omega
  subst this
  rw [(q87 t).2 ⟨hn, hP⟩]
theorem zc7 : FOk ji (gTb q2w) := qbr qud qsk fun ds outs hw hg => by
 obtain ⟨d, r, rfl, hd, rfl⟩ := hw
 obtain ⟨t, rfl, ht⟩ := wfT hd
 simp only [gTb, q1w, Option.some.injEq] at hg
 subst hg
 have e : decide (min (szT t : Int) 2001 ≤ 2000) = decide (szT t ≤ 2000) := by rw [decide_eq_decide]; omega
 simp [q37, gnZ, gnT, gTi, gTb, q2w, e]
def zgu : List D → Option (List D)
 | [t, m] => if 1 ≤ m.int then some [.i (m.int - min (szT (dT t) : Int) m.int)] else none
 | _ => none
theorem qqr : FOk j4 zgu := qb3 (m := mT) q9m fun N ih => qmm ih fun ds outs hw hg => by
 obtain ⟨d, r, rfl, hd, e, r', rfl, he, rfl⟩ := hw
 obtain ⟨t, rfl, ht⟩ := wfT hd
 obtain ⟨m, rfl, hm⟩ := wfI he
 simp only [q5l, mT, zgu, List.getD_cons_zero, q1w, yv, Option.ite_none_right_eq_some, Option.some.injEq] at hg
 obtain ⟨hsz, h1, rfl⟩ := hg
 have hl := ht.l
 rw [q66, qa]
 refine ⟨by simp only [gnZ, gnT]; omega, ?_⟩
 rw [jt]
 refine ⟨fun st => ∃ k : Nat, k ≤ t.l.length ∧ st = [.i k, .i (m - min ((q4g (t.l.take k) : Int) + 1) m)], fun st => t.l.length - (st.getD 0 .u).int.toNat, ⟨0, Nat.zero_le _, by simp [X.evs, X.ev, q4g, evl, D.int]; omega⟩, ?_⟩
 rintro st - ⟨k, hk, rfl⟩
 rw [qj]
 refine ⟨fun hlt => ?_, fun hlt => ?_⟩
 ·simp only [gnZ, gnT, Bool.and_eq_true] at hlt
  obtain ⟨hkl, hlm⟩ := hlt
  have hkl' : k < t.l.length := by omega
  have ha := qgb hkl'
  have hs := qvb hkl'
  have hmn : 1 ≤ m - min ((q4g (t.l.take k) : Int) + 1) m := by omega
  simp only [gnZ, gnT, qr5 hkl', q5l, mT, zgu, if_pos hmn, if_pos (show szT (t.l.getD k default) < N by omega)]
  refine ⟨⟨by omega, by omega⟩, ⟨by omega, by omega⟩, ?_⟩
  rw [q2p, if_pos rfl]
  refine ⟨⟨k + 1, by omega, ?_⟩, ?_⟩
  ·rw [hs]
   simp
   omega
  ·simp [D.int]
   omega
 ·simp only [gnZ, gnT, Bool.and_eq_false_iff] at hlt
  simp only [gnZ, gnT]
  have hz := zh4 t
  have : m - min ((q4g (t.l.take k) : Int) + 1) m = m - min (szT t : Int) m := by
   rcases hlt with h | h
   ·have : k = t.l.length := by omega
    subst this
    rw [List.take_length]
    omega
   ·have h2 := qhe (t.l.take k) (t.l.drop k)
    rw [List.take_append_drop] at h2
    omega
  rw [this]
theorem qhj : FOk jk (gTi fun t => min (szT t : Int) 2001) := quh qqr fun ds outs hw hg => by
 obtain ⟨d, r, rfl, hd, rfl⟩ := hw
 obtain ⟨t, rfl, ht⟩ := wfT hd
 simp only [gTi, q1w, Option.some.injEq] at hg
 subst hg
 simp [q8o, gnZ, gnT, zgu]
 omega
theorem qid : FOk zr (gTb jv) := qb3 (m := mT) qbk fun N ih => qt9 ih fun ds outs hw hg => by
 obtain ⟨d, r, rfl, hd, rfl⟩ := hw
 obtain ⟨t, rfl, ht⟩ := wfT hd
 simp only [q5l, mT, gTb, List.getD_cons_zero, q1w, yv, Option.ite_none_right_eq_some, Option.some.injEq] at hg
 obtain ⟨hsz, rfl⟩ := hg
 have hl := ht.l
 have key : ∀ (x : X), x.ev (evl (qb [(zr, q5l mT N (gTb jv))]) [eT t]) = .b (q8v t) → Tree.go (qb [(zr, q5l mT N (gTb jv))]) (fun o => o = [D.b (jv t)]) (.loop 12 1 [x, (.lit (.i 0))] (.br (.and (.lt (.tok 2) (.len (.fld (.tok 0) 3))) (.tok 1)) (.need [(.le (.lit (.i 0)) (.tok 2)), (.lt (.tok 2) (.len (.fld (.tok 0) 3))), (.ok 0 [(.get (.fld (.tok 0) 3) (.tok 2))])] (.need [(.rng .i64 (.add (.tok 2) (.lit (.i 1))))] (.back 12 [(.call 0 0 [(.get (.fld (.tok 0) 3) (.tok 2))]), (.add (.tok 2) (.lit (.i 1)))]))) (.leaf [(.tok 1)]))) [eT t] fun _ _ => False := by
  intro x hx
  rw [jt]
  refine ⟨fun st => ∃ (k : Nat) (v : Bool), k ≤ t.l.length ∧ st = [.b v, .i k] ∧ (v = true ↔ q8v t = true ∧ ∀ j, j < k → jv (t.l.getD j default) = true), fun st => t.l.length - (st.getD 1 .u).int.toNat, ⟨0, q8v t, Nat.zero_le _, by simp only [X.evs, hx, X.ev]; rfl, by simp⟩, ?_⟩
  rintro st - ⟨k, v, hk, rfl, hv⟩
  rw [qj]
  refine ⟨fun hlt => ?_, fun hlt => ?_⟩
  ·simp only [gnZ, gnT, Bool.and_eq_true] at hlt
   obtain ⟨hlt, rfl⟩ := hlt
   have hkl' : k < t.l.length := by omega
   have ha := qgb hkl'
   simp only [gnZ, gnT, qr5 hkl', q5l, mT, gTb, if_pos (show szT (t.l.getD k default) < N by omega)]
   refine ⟨⟨by omega, by omega⟩, ⟨by omega, by omega⟩, ?_⟩
   rw [q2p, if_pos rfl]
   have hv' := hv.1 rfl
   refine ⟨⟨k + 1, _, by omega, rfl, ⟨fun h => ⟨hv'.1, q2i hv'.2 h⟩, fun h => h.2 k (Nat.lt_succ_self _)⟩⟩, ?_⟩
   simp [D.int]
   omega
  ·simp only [gnZ, gnT, Bool.and_eq_false_iff] at hlt
   simp only [gnZ, gnT]
   rw [show v = jv t from ?_]
   cases hvv : v with
   | false =>
    cases hh : jv t with
    | false => rfl
    | true =>
     have h2 := (q87 t).1 hh
     rw [hv.2 ⟨h2.1, fun j hj => h2.2 j (by omega)⟩] at hvv
     cases hvv
   | true =>
    have : k = t.l.length := by
     rcases hlt with h | h
     ·omega
     ·rw [hvv] at h; cases h
    subst this
    exact ((q87 t).2 (hv.1 hvv)).symm
 rw [q8p]
 simp only [qj]
 have e0 : ∀ z : Int, (X.eq (.fld (.tok 0) 0) (.lit (.i z))).ev (evl (qb [(zr, q5l mT N (gTb jv))]) [eT t]) = .b (decide (t.k = z)) := fun z => by
  simp only [gnZ, gnT]
 simp only [e0, q5i, decide_eq_true_eq, decide_eq_false_iff_not]
 refine ⟨fun h => key _ ?_, fun h0 => ⟨fun h => key _ ?_, fun h1 => ⟨fun h => key _ ?_, fun h2 => ⟨fun h => key _ ?_, fun h3 => key _ ?_⟩⟩⟩⟩
 all_goals simp only [gnZ, gnT, q8v]
 ·simp [h, Bool.and_assoc]
 ·simp [h, Bool.and_assoc]
 ·simp [h, Bool.and_assoc]
 ·have e8 : decide (0 < (t.l.length : Int)) = decide (1 ≤ (t.l.length : Int)) := rfl
  rw [e8]
  simp [h, Bool.and_assoc]
 ·simp [h0, h1, h2, h3]
theorem qa4 : FOk yg (gTb q2w) := qqx qhj qid fun ds outs hw hg => by
 obtain ⟨d, r, rfl, hd, rfl⟩ := hw
 obtain ⟨t, rfl, ht⟩ := wfT hd
 simp only [gTb, q1w, Option.some.injEq] at hg
 subst hg
 have e : decide (min (szT t : Int) 2001 ≤ 2000) = decide (szT t ≤ 2000) := by rw [decide_eq_decide]; omega
 simp [q77, gnZ, gnT, gTi, gTb, q2w, e]
theorem qnb : FOk jy (gTT id) := qks fun ds outs hw hg => by
 obtain ⟨d, r, rfl, hd, rfl⟩ := hw
 obtain ⟨t, rfl, ht⟩ := wfT hd
 simp only [gTT, q1w, Option.some.injEq] at hg
 subst hg
 simp only [q5b, gnZ, gnT, id]
theorem qu2 : FOk jg (gTT id) := qb3 (m := mT) qa8 fun N ih => qom qnb ih fun ds outs hw hg => by
 obtain ⟨d, r, rfl, hd, rfl⟩ := hw
 obtain ⟨t, rfl, ht⟩ := wfT hd
 simp only [q5l, mT, gTT, List.getD_cons_zero, q1w, yv, Option.ite_none_right_eq_some, Option.some.injEq] at hg
 obtain ⟨hsz, rfl⟩ := hg
 have hl := ht.l
 rw [q7a, qj]
 refine ⟨fun h => ?_, fun h => ?_⟩
 ·simp only [gnZ, gnT, gTT, id]
 rw [jt]
 refine ⟨fun st => ∃ k : Nat, k ≤ t.l.length ∧ st = [.i k, eT (.mk t.k t.n t.s (t.l.take k))], fun st => t.l.length - (st.getD 0 .u).int.toNat, ⟨0, Nat.zero_le _, by simp only [X.evs, X.ev, evl, List.getD_cons_zero, zjh, zj1, zkl, qlk]; rfl⟩, ?_⟩
 rintro st - ⟨k, hk, rfl⟩
 rw [qj]
 refine ⟨fun hlt => ?_, fun hlt => ?_⟩
 ·simp only [gnZ, gnT] at hlt
  have hkl' : k < t.l.length := by omega
  have ha := qgb hkl'
  simp only [gnZ, gnT, qr5 hkl', q5l, mT, gTT, if_pos (show szT (t.l.getD k default) < N by omega), id, zo7, List.length_take]
  refine ⟨⟨by omega, by omega⟩, by omega, ⟨by omega, by omega⟩, ?_⟩
  rw [q2p, if_pos rfl]
  refine ⟨⟨k + 1, by omega, ?_⟩, ?_⟩
  ·rw [qae hkl', zdn]
   rfl
  ·simp [D.int]
   omega
 ·simp only [gnZ, gnT] at hlt ⊢
  have : k = t.l.length := by omega
  subst this
  rw [List.take_length]
  cases t
  rfl
theorem qf2 : FOk zw (gTT fun t => if q2w t then t else zT) := qs5 qa4 qu2 fun ds outs hw hg => by
 obtain ⟨d, r, rfl, hd, rfl⟩ := hw
 obtain ⟨t, rfl, ht⟩ := wfT hd
 simp only [gTT, q1w, Option.some.injEq] at hg
 subst hg
 simp only [q79, gnZ, gnT, gTb, gTT, id]
 cases q2w t <;> simp
def gSt (f : ByteArray → Te) : List D → Option (List D)
 | [s] => some [eT (f s.str)]
 | _ => none
def qbm (s : ByteArray) : Te := if s.size ≤ 100 then .mk 2 0 s [] else zT
theorem q57 : FOk zq (gSt qbm) := qu3 qf2 fun ds outs hw hg => by
 obtain ⟨d, r, rfl, hd, rfl⟩ := hw
 obtain ⟨s, rfl, hs⟩ := hd.str
 simp only [gSt, q2s, Option.some.injEq] at hg
 subst hg
 have e : D.a ((D.a ([D.i 0, .i 0, .s ⟨#[]⟩, .r []].set 0 (.i 2))).fs.set 2 (.s s)) = eT (.mk 2 0 s []) := rfl
 simp only [q8g, gnZ, gnT, gTT, zm6]
 have e2 : D.a (((eT zT).fs.set 0 (.i 2)).set 2 (.s s)) = eT (.mk 2 0 s []) := rfl
 simp only [e2]
 have : q2w (.mk 2 0 s []) = decide (s.size ≤ 100) := by
  rw [Bool.eq_iff_iff]
  simp [q2w, szT, q4g, jv, qb6, q8v, Te.k, Te.n, Te.s, Te.l]
  exact Iff.trans decide_eq_true_iff (Int.ofNat_le (n := 100))
 simp only [q1w, this, qbm, decide_eq_true_eq]
theorem qyl {s : So} (h : y9 s = true) : qf5 s = true := by
 simp only [y9, Bool.and_eq_true] at h
 exact h.1
theorem zel {s : So} (h : y9 s = true) : qbv s.ys = true := by
 have := qyl h
 simp only [qf5, Bool.and_eq_true] at this
 exact this.2.2.2.2
theorem qxg {s : So} (h : y9 s = true) : s.cs.length ≤ 1048576 := by
 have := qyl h
 simp only [qf5, Bool.and_eq_true, decide_eq_true_eq] at this
 omega
variable {i : Int}
theorem qob {s : So} (h : y9 s = true) (hi : inS s i = true) : q9p s i = true := by
 simp only [y9, Bool.and_eq_true] at h
 have h1 := z5.1 hi
 have hk := z2z h.2.1 (k := i.toNat) (by omega)
 rwa [show ((i.toNat : Nat) : Int) = i by omega] at hk
theorem z6o {s : So} (h : y9 s = true) (hi : inS s i = true) (ht : (cellAt s i).t ≠ 4) : vcR s (cellAt s i) = true := by
 have := qob h hi
 unfold q9p at this
 rw [if_neg ht] at this
 simp only [Bool.and_eq_true] at this
 exact this.1
theorem zgj {s : So} (h : y9 s = true) (hi : inS s i = true) : qs4 s i = true := by
 by_cases ht : (cellAt s i).t = 4
 ·exact (En.st (fun hn => by have := hn.1; rw [q5c hi] at this; omega)).ends
 ·have := qob h hi
  unfold q9p at this
  rw [if_neg ht] at this
  simp only [Bool.and_eq_true] at this
  exact this.2.1
variable {c : Ce}
theorem qxu {s : So} (h : vcR s c = true) (ht : c.t = 0) : inS s c.n = true ∧ (cellAt s c.n).t ≠ 4 := by
 unfold vcR at h
 rw [if_pos ht] at h
 simp only [Bool.and_eq_true, Bool.not_eq_true', decide_eq_false_iff_not] at h
 rw [q5c h.1] at h
 exact h
theorem zl8 {s : So} (h : y9 s = true) {n : Int} (hn : Ns s n) : inS s (nx s n) = true := by
 have hi := hn.inS
 have ht : (cellAt s n).t = 0 := by have := hn.1; rwa [q5c hi] at this
 exact (qxu (z6o h hi (by omega)) ht).1
theorem zju {s : So} (h : y9 s = true) (hi : inS s i = true) (ht : (cellAt s i).t = 4) : 1 ≤ arS s (cellAt s i).n ∧ arS s (cellAt s i).n ≤ 8 ∧ ∀ j : Nat, (j : Int) < arS s (cellAt s i).n → inS s (i + 1 + j) = true ∧ vcR s (cellAt s (i + 1 + j)) = true := by
 have := qob h hi
 unfold q9p at this
 rw [if_pos ht] at this
 simp only [Bool.and_eq_true, decide_eq_true_eq, List.all_eq_true, List.mem_range, Bool.not_eq_true', decide_eq_false_iff_not] at this
 obtain ⟨h1, h2, h3⟩ := this
 refine ⟨h1, (z0y (zel h) _).2, fun j hj => ?_⟩
 have q := z5.1 h2
 have q1 := z5.1 hi
 have hin : inS s (i + 1 + j) = true := z5.2 ⟨by omega, by omega⟩
 refine ⟨hin, z6o h hin ?_⟩
 have := h3 j (by omega)
 rw [show i + ((j : Int) + 1) = i + 1 + j by omega, q5c hin] at this
 exact this
theorem z8r {s : So} {n : Int} (h : 0 ≤ arS s n) : 0 ≤ n ∧ n < s.ys.length ∧ arS s n = (s.ys.getD n.toNat default).ar := by
 unfold arS at h ⊢
 split at h
 ·rename_i hn
  rw [if_pos hn]
  exact ⟨hn.1, hn.2, rfl⟩
 ·omega
def qar (s : So) (n : Int) : Sy := s.ys.getD n.toNat default
theorem z1g {s : So} (hv : ∀ m, Ns s m → inS s (nx s m) = true) : ∀ (k : Nat) (n : Int), inS s n = true → q2y s (k + 1) n = true → q2y s k n = false → ∃ l : List Int, l.length = k + 1 ∧ l.Nodup ∧ (∀ x ∈ l, inS s x = true) ∧ ∀ x ∈ l, ∃ j, j ≤ k ∧ q2y s (j + 1) x = true
 | 0, n, hi, h1, _ => ⟨[n], rfl, by simp, (fun x hx => by rw [List.mem_singleton.1 hx]; exact hi), fun x hx => ⟨0, Nat.le_refl _, by rw [List.mem_singleton.1 hx]; exact h1⟩⟩
 | k + 1, n, hi, h1, h2 => by
  have hn : Ns s n := Classical.byContradiction fun hn => by rw [qhv hn] at h2; cases h2
  have h1' := h1
  rw [q91 hn] at h1 h2
  obtain ⟨l, e1, e2, e3, e4⟩ := z1g hv k _ (hv n hn) h1 h2
  refine ⟨n :: l, by simp [e1], ?_, fun x hx => ?_, fun x hx => ?_⟩
  ·refine List.nodup_cons.2 ⟨fun hm => ?_, e2⟩
   obtain ⟨j, hj, he⟩ := e4 n hm
   rw [q91 hn] at he
   rw [qrr hj he] at h2
   cases h2
  ·rcases List.mem_cons.1 hx with rfl | hx
   ·exact hi
   ·exact e3 x hx
  ·rcases List.mem_cons.1 hx with rfl | hx
   ·exact ⟨k + 1, Nat.le_refl _, h1'⟩
   ·obtain ⟨j, hj, he⟩ := e4 x hx
    exact ⟨j, by omega, he⟩
theorem z1x {s : So} (h : y9 s = true) {n : Int} (hi : inS s n = true) : q2y s s.cs.length n = true := by
 cases hk' : q2y s s.cs.length n with
 | true => rfl
 | false =>
  obtain ⟨l, e1, e2, e3, -⟩ := z1g (fun m hm => zl8 h hm) s.cs.length n hi (zgj h hi) hk'
  have h1 := qrv s.cs.length (l.map Int.toNat) ?_ ?_
  ·rw [List.length_map, e1] at h1
   omega
  ·refine List.Pairwise.map _ (fun a b h => h) ?_
   refine List.Pairwise.imp_of_mem (R := fun a b => a ≠ b) (fun {a b} ha hb hab e => hab ?_) e2
   have h1 := z5.1 (e3 a ha)
   have h2 := z5.1 (e3 b hb)
   omega
  ·intro x hx
   obtain ⟨a, ha, rfl⟩ := List.mem_map.1 hx
   have h1 := z5.1 (e3 a ha)
   omega
def qad (s : So) : Nat → Ce → Ce
 | 0, c => c
 | k + 1, c => if c.t = 0 ∧ inS s c.n = true ∧ cellAt s c.n ≠ c then qad s k (cellAt s c.n) else c
theorem qxz {s : So} (h : c.t ≠ 0) : ∀ k, qad s k c = c
 | 0 => rfl
 | k + 1 => if_neg fun q => h q.1
theorem qos {s : So} (j : Nat) : ∀ (k : Nat) (n : Int), q2y s k n = true → qad s (k + j) ⟨0, n⟩ = qad s k ⟨0, n⟩
 | 0, n, h => by cases h
 | k + 1, n, h => by
  rw [show k + 1 + j = (k + j) + 1 by omega]
  unfold qad
  split
  ·rename_i hc
   by_cases ht : (cellAt s n).t = 0
   ·have e : cellAt s n = ⟨0, nx s n⟩ := Ce.ext' ht rfl
    have hn : Ns s n := ⟨(q5c hc.2.1).trans ht, fun hn => hc.2.2 (Ce.ext' ht hn)⟩
    rw [q91 hn] at h
    show qad s (k + j) (cellAt s n) = qad s k (cellAt s n)
    rw [e]
    exact qos j k _ h
   ·rw [qxz ht, qxz ht]
  ·rfl
def q35 (s : So) (c : Ce) : Ce := if vcR s c then qad s (s.cs.length + 1) c else ⟨0, 0⟩
theorem z6e {s : So} (h : y9 s = true) (hc : vcR s c = true) : qad s s.cs.length c = qad s (s.cs.length + 1) c := by
 by_cases ht : c.t = 0
 ·have e : c = ⟨0, c.n⟩ := Ce.ext' ht rfl
  rw [e]
  exact (qos 1 _ _ (z1x h (qxu hc ht).1)).symm
 ·rw [qxz ht, qxz ht]
theorem z4z {s : So} (h : y9 s = true) : ∀ (k : Nat) {c : Ce}, vcR s c = true → vcR s (qad s k c) = true
 | 0, c, hc => hc
 | k + 1, c, hc => by
  unfold qad
  split
  ·rename_i q
   exact z4z h k (z6o h q.2.1 (qxu hc q.1).2)
  ·exact hc
theorem qhu {s : So} (h : y9 s = true) (hc : vcR s c = true) : vcR s (q35 s c) = true := by
 rw [q35, if_pos hc]
 exact z4z h _ hc
def z2u : List D → Option (List D)
 | [s, c] => if y9 (dS s) then some [eC (q35 (dS s) (dC c))] else none
 | _ => none
theorem z8z : D.a [.i 0, .i 0] = eC ⟨0, 0⟩ := rfl
theorem z94 : FOk zb z2u := qby yy q80 fun ds outs hw hg => by
 obtain ⟨d, r, rfl, hd, e, r', rfl, he, rfl⟩ := hw
 obtain ⟨s, rfl, hs⟩ := wfS hd
 obtain ⟨c, rfl, hc⟩ := wfC he
 simp only [z2u, zk, yw, Option.ite_none_right_eq_some, Option.some.injEq] at hg
 obtain ⟨hv, rfl⟩ := hg
 have hvs := qk5 hv
 have hl := qxg hv
 have hvc : ∀ c, vcP s c = vcR s c := hvs.vc
 simp only [q3h, gnZ, qb8, hvc, z8z]
 refine ⟨fun h => ?_, fun h => ?_⟩
 ·simp only [q35, show vcR s c = false by simpa using h]
  rfl
 have hvc' : vcR s c = true := by simpa using h
 rw [jt]
 refine ⟨fun st => ∃ (k : Nat) (x : Ce), k ≤ s.cs.length ∧ st = [.i k, eC x] ∧ qad s (s.cs.length - k) x = q35 s c, fun st => s.cs.length - (st.getD 0 .u).int.toNat, ⟨0, c, Nat.zero_le _, rfl, by rw [Nat.sub_zero, z6e hv hvc', q35, if_pos hvc']⟩, ?_⟩
 rintro st - ⟨k, x, hk, rfl, hP⟩
 rw [qj]
 refine ⟨fun hlt => ?_, fun hlt => ?_⟩
 ·simp only [gnZ] at hlt
  have hkl : k < s.cs.length := by omega
  obtain ⟨n, hn⟩ : ∃ n, s.cs.length - k = n + 1 := ⟨s.cs.length - k - 1, by omega⟩
  rw [hn] at hP
  unfold qad at hP
  have hn2 : s.cs.length - (k + 1) = n := by omega
  have ht := hvs.tag_in x.n
  by_cases h0 : x.t = 0
  ·cases hin : inS s x.n with
   | true =>
    have h3 := z5.1 hin
    rw [hin] at ht
    have ht' : ¬ q2e s x.n < 0 := by have := of_decide_eq_true ht; omega
    simp only [gnZ, q82, ze hin, h0, ht', h3.1, h3.2]
    refine ⟨fun hx => ?_, fun hx => ?_⟩
    ·have hx' : cellAt s x.n = x := by simpa using hx
     rw [if_neg (fun q => q.2.2 hx')] at hP
     rw [hP]
    ·have hx' : cellAt s x.n ≠ x := by simpa using hx
     rw [if_pos ⟨h0, hin, hx'⟩] at hP
     refine ⟨⟨by omega, by omega⟩, ?_⟩
     rw [q2p, if_pos rfl]
     refine ⟨⟨k + 1, cellAt s x.n, by omega, by simp, by rw [hn2]; exact hP⟩, ?_⟩
     simp [D.int]
     omega
   | false =>
    rw [hin] at ht
    have ht' : q2e s x.n < 0 := by have := of_decide_eq_false ht; omega
    rw [if_neg (fun q => by rw [hin] at q; cases q.2.1)] at hP
    simp only [gnZ, q82, h0, ht', ← hP]
    simp
  ·rw [if_neg (fun q => h0 q.1)] at hP
   simp only [gnZ, q82, h0, ← hP]
   simp
 ·simp only [gnZ] at hlt ⊢
  have : k = s.cs.length := by omega
  subst this
  rw [Nat.sub_self] at hP
  rw [← hP, qad]
theorem qcu : FOk j3 z2u := qmw q1n q2g fun ds outs hw hg => by
 obtain ⟨d, r, rfl, hd, e, r', rfl, he, rfl⟩ := hw
 obtain ⟨s, rfl, hs⟩ := wfS hd
 obtain ⟨c, rfl, hc⟩ := wfC he
 simp only [z2u, zk, yw, Option.ite_none_right_eq_some, Option.some.injEq] at hg
 obtain ⟨hv, rfl⟩ := hg
 have hl := qxg hv
 simp only [q63, gnZ, qb8, z8z]
 refine ⟨fun h => ?_, fun h => ?_⟩
 ·simp only [q35, show vcR s c = false by simpa using h]
  rfl
 have hvc' : vcR s c = true := by simpa using h
 rw [jt]
 refine ⟨fun st => ∃ (k : Nat) (x : Ce), k ≤ s.cs.length + 1 ∧ st = [.i k, eC x] ∧ qad s (s.cs.length + 1 - k) x = q35 s c, fun st => s.cs.length + 1 - (st.getD 0 .u).int.toNat, ⟨0, c, Nat.zero_le _, rfl, by rw [Nat.sub_zero, q35, if_pos hvc']⟩, ?_⟩
 rintro st - ⟨k, x, hk, rfl, hP⟩
 simp only [qa, qj, qd, qe]
 by_cases hkl : k ≤ s.cs.length
 ·obtain ⟨n, hn⟩ : ∃ n, s.cs.length + 1 - k = n + 1 := ⟨s.cs.length - k, by omega⟩
  rw [hn] at hP
  unfold qad at hP
  have hn2 : s.cs.length + 1 - (k + 1) = n := by omega
  have hk' : (k : Int) ≤ s.cs.length := by omega
  by_cases h0 : x.t = 0
  ·cases hin : inS s x.n with
   | true =>
    have h3 := z5.1 hin
    simp only [gnZ, qa7, ze hin, h0, h3.1, h3.2, hin, hk']
    refine ⟨fun hx => ?_, fun hx => ?_⟩
    ·have hx' : cellAt s x.n ≠ x := by simpa using hx
     rw [if_pos ⟨h0, hin, hx'⟩] at hP
     refine ⟨⟨by omega, by omega⟩, ?_⟩
     rw [q2p, if_pos rfl]
     refine ⟨⟨k + 1, cellAt s x.n, by omega, by simp, by rw [hn2]; exact hP⟩, ?_⟩
     simp [D.int]
     omega
    ·have hx' : cellAt s x.n = x := by simpa using hx
     rw [if_neg (fun q => q.2.2 hx')] at hP
     rw [hP]
   | false =>
    rw [if_neg (fun q => by rw [hin] at q; cases q.2.1)] at hP
    simp only [gnZ, qa7, h0, hin, ← hP]
    simp
  ·rw [if_neg (fun q => h0 q.1)] at hP
   simp only [gnZ, qa7, h0, ← hP]
   simp
 ·have : k = s.cs.length + 1 := by omega
  subst this
  rw [Nat.sub_self] at hP
  have hk' : ¬ ((s.cs.length + 1 : Nat) : Int) ≤ s.cs.length := by omega
  simp only [gnZ, hk', ← hP, qad]
  simp
theorem qlm : FOk q0l (qa7 inS) := qx1 fun ds outs hw hg => by
 obtain ⟨d, r, rfl, hd, e, r', rfl, he, rfl⟩ := hw
 obtain ⟨s, rfl, hs⟩ := wfS hd
 obtain ⟨i, rfl, hi⟩ := wfI he
 simp only [qa7, zk, yv, Option.some.injEq] at hg
 subst hg
 simp only [q9z, gnZ, inS]
def q3m (c : Ce) : Ce := if c.t = 5 then ⟨0, c.n⟩ else c
def q4t : List D → Option (List D)
 | [c] => some [eC (q3m (dC c))]
 | _ => none
theorem qu6 : FOk q1a q4t := qrm fun ds outs hw hg => by
 obtain ⟨d, r, rfl, hd, rfl⟩ := hw
 obtain ⟨c, rfl, hc⟩ := wfC hd
 simp only [q4t, yw, Option.some.injEq] at hg
 subst hg
 simp only [q7j, gnZ, q3m, zhh]
 exact ⟨fun h => by rw [if_pos h], fun h => by rw [if_neg h]⟩
theorem qu8 : FOk q0z q4t := qr8 fun ds outs hw hg => by
 obtain ⟨d, r, rfl, hd, rfl⟩ := hw
 obtain ⟨c, rfl, hc⟩ := wfC hd
 simp only [q4t, yw, Option.some.injEq] at hg
 subst hg
 simp only [q7c, gnZ, q3m, qfd]
 exact ⟨fun h => by rw [if_pos h], fun h => by rw [if_neg h]⟩
def behind (s : So) (a : Int) : Bool := decide (2 ≤ a) && decide ((cellAt s (a - 2)).t = 5)
def q8x (s : So) (a : Int) : Bool := if (cellAt s a).t = 0 then decide ((cellAt s a).n = a) else if (cellAt s a).t = 5 then true else if (cellAt s a).t = 1 ∨ (cellAt s a).t = 2 ∨ (cellAt s a).t = 3 then behind s a else false
theorem qgv : FOk je (qcw inS q8x) := qgj fun ds outs hw hg => by
 obtain ⟨d, r, rfl, hd, e, r', rfl, he, rfl⟩ := hw
 obtain ⟨s, rfl, hs⟩ := wfS hd
 obtain ⟨i, rfl, hi⟩ := wfI he
 simp only [qcw, zk, yv, Option.ite_none_right_eq_some, Option.some.injEq] at hg
 obtain ⟨hin, rfl⟩ := hg
 have h1 := z5.1 hin
 have hl := hs.cs.1
 have hr : i64 (i - 2) := ⟨by omega, by omega⟩
 have hr' := q52.2 hr
 simp only [q3v, gnZ, ze hin, h1, hr, q8x, behind, qfd]
 have e0 : (D.a [.i 0, .i i]) = eC ⟨0, i⟩ := rfl
 by_cases h2 : 2 ≤ i
 ·have hin2 : inS s (i - 2) = true := z5.2 ⟨by omega, by omega⟩
  have q1 : 0 ≤ i - 2 := by omega
  have q2 : i - 2 < s.cs.length := by omega
  simp only [ze hin2, h2, q1, q2, qnd, qp9, hr']
  by_cases c0 : (cellAt s i).t = 0
  ·have : (cellAt s i = ⟨0, i⟩) = ((cellAt s i).n = i) := propext ⟨fun e => by rw [e], fun e => Ce.ext' c0 e⟩
   simp [c0, this]
  ·by_cases c5 : (cellAt s i).t = 5
   ·simp [c5]
   ·by_cases c1 : (cellAt s i).t = 1
    ·simp [c1]
    ·by_cases c2 : (cellAt s i).t = 2
     ·simp [c2]
     ·by_cases c3 : (cellAt s i).t = 3
      ·simp [c3]
      ·simp [c0, c1, c2, c3, c5]
 ·simp only [h2]
  by_cases c0 : (cellAt s i).t = 0
  ·have : (cellAt s i = ⟨0, i⟩) = ((cellAt s i).n = i) := propext ⟨fun e => by rw [e], fun e => Ce.ext' c0 e⟩
   simp [c0, this]
  ·by_cases c5 : (cellAt s i).t = 5
   ·simp [c5]
   ·by_cases c1 : (cellAt s i).t = 1
    ·simp [c1]
    ·by_cases c2 : (cellAt s i).t = 2
     ·simp [c2]
     ·by_cases c3 : (cellAt s i).t = 3
      ·simp [c3]
      ·simp [c0, c1, c2, c3, c5]
def qkj (s : So) (a : Int) : Nat → Ce → Bool
 | 0, _ => false
 | k + 1, c => if c.t = 0 ∧ inS s c.n = true then (if c.n = a then true else qkj s a k (cellAt s c.n)) else false
def qz9 (s : So) (c : Ce) (a : Int) : Bool := qkj s a (s.cs.length + 1) c
theorem qli {s : So} {a : Int} (h : cellAt s c.n = c) (ha : ¬ c.n = a) : ∀ k, qkj s a k c = false
 | 0 => rfl
 | k + 1 => by
  unfold qkj
  by_cases hc : c.t = 0 ∧ inS s c.n = true
  ·rw [if_pos hc, if_neg ha, h]
   exact qli h ha k
  ·rw [if_neg hc]
def zb4 (f : So → Ce → Int → Bool) : List D → Option (List D)
 | [s, c, i] => some [.b (f (dS s) (dC c) i.int)]
 | _ => none
theorem qpn : FOk q0f (zb4 qz9) := qnq qlm fun ds outs hw hg => by
 obtain ⟨d, r, rfl, hd, e, r', rfl, he, f, r2, rfl, hf, rfl⟩ := hw
 obtain ⟨s, rfl, hs⟩ := wfS hd
 obtain ⟨c0, rfl, hc⟩ := wfC he
 obtain ⟨a, rfl, ha⟩ := wfI hf
 simp only [zb4, zk, yw, yv, Option.some.injEq] at hg
 subst hg
 have hl := hs.cs.1
 rw [q6j, qa]
 refine ⟨by simp only [gnZ]; omega, ?_⟩
 rw [jt]
 refine ⟨fun st => ∃ (k : Nat) (c : Ce), k ≤ s.cs.length + 1 ∧ st = [.b false, .i k, eC c] ∧ qkj s a (s.cs.length + 1 - k) c = qz9 s c0 a, fun st => s.cs.length + 1 - (st.getD 1 .u).int.toNat, ⟨0, c0, Nat.zero_le _, rfl, rfl⟩, ?_⟩
 rintro st - ⟨k, c, hk, rfl, hP⟩
 simp only [gnZ, qa7]
 refine ⟨fun hlt => ?_, fun hlt => ?_⟩
 ·have hkl : k ≤ s.cs.length := by omega
  have hr : i64 ((k : Int) + 1) := ⟨by omega, by omega⟩
  obtain ⟨n, hn⟩ : ∃ n, s.cs.length + 1 - k = n + 1 := ⟨s.cs.length - k, by omega⟩
  rw [hn] at hP
  unfold qkj at hP
  refine ⟨fun hx => ?_, fun hx => ?_⟩
  ·rw [if_neg] at hP
   ·rw [← hP]
   ·intro h
    simp [h.1, h.2] at hx
  ·have hx' : c.t = 0 ∧ inS s c.n = true := by simpa using hx
   have h1 := z5.1 hx'.2
   rw [if_pos hx'] at hP
   simp only [ze hx'.2, z4e]
   refine ⟨fun hy => ?_, fun hy => ⟨h1, fun hz => ?_, fun hz => ⟨hr, ?_⟩⟩⟩
   ·rw [if_pos hy] at hP
    rw [hP]
   ·rw [if_neg hy, hz, qli hz hy] at hP
    rw [← hP]
   ·rw [if_neg hy] at hP
    rw [q2p, if_pos rfl]
    refine ⟨⟨k + 1, cellAt s c.n, by omega, by simp, by rw [show s.cs.length + 1 - (k + 1) = n by omega]; exact hP⟩, ?_⟩
    simp [D.int]
    omega
 ·rw [← hP, show s.cs.length + 1 - k = 0 by omega]
  rfl
def qbs (vc : So → Ce → Bool) (st : So → Int → Bool) (s : So) (a : Int) (c : Ce) : Bool := inS s a && (vc s c && (st s a && !qz9 s (q3m c) a))
def zds (s : So) (a : Int) (c : Ce) : So := { s with cs := s.cs.set a.toNat (q3m c), tr := s.tr ++ [⟨a, cellAt s a⟩] }
def z1p (vc : So → Ce → Bool) (st : So → Int → Bool) : List D → Option (List D)
 | [s, a, c] => if qbs vc st (dS s) a.int (dC c) then (if decide ((dS s).tr.length < 5864062014634) then some [.i 0, eS (zds (dS s) a.int (dC c))] else none) else some [.i 1, eS (dS s)]
 | _ => none
theorem zfp {s : So} {a : Int} : D.a ((D.a ((eS s).fs.set 2 (.r (s.tr.map eU ++ [.a [.i a, eC (cellAt s a)]])))).fs.set 0 (.r ((s.cs.map eC).set a.toNat (eC (q3m c))))) = eS (zds s a c) := by
 simp [zds, eS, D.fs, eU, List.map_set]
theorem zkm {s : So} {x : D} : (D.a ((eS s).fs.set 2 x)).fld 0 = .r (s.cs.map eC) := rfl
theorem q59 : FOk zg (z1p vcP q8x) := qst qlm yy qgv qu6 qpn fun ds outs hw hg => by
 obtain ⟨d, r, rfl, hd, e, r', rfl, he, f, r2, rfl, hf, rfl⟩ := hw
 obtain ⟨s, rfl, hs⟩ := wfS hd
 obtain ⟨a, rfl, ha⟩ := wfI he
 obtain ⟨c, rfl, hc⟩ := wfC hf
 simp only [z1p, zk, yw, yv] at hg
 simp only [q8i, gnZ, qa7, qb8, qcw, q4t, zb4, Option.isSome_some, Option.getD_some]
 cases hin : inS s a with
 | false =>
  have : qbs vcP q8x s a c = false := by simp [qbs, hin]
  simp only [this, Bool.false_eq_true, if_false, Option.some.injEq] at hg
  subst hg
  simp
 | true =>
  have h1 := z5.1 hin
  cases hv : vcP s c with
  | false =>
   have : qbs vcP q8x s a c = false := by simp [qbs, hv]
   simp only [this, Bool.false_eq_true, if_false, Option.some.injEq] at hg
   subst hg
   simp
  | true =>
   cases ht : q8x s a with
   | false =>
    have : qbs vcP q8x s a c = false := by simp [qbs, ht]
    simp only [this, Bool.false_eq_true, if_false, Option.some.injEq] at hg
    subst hg
    simp [q5i, ht]
   | true =>
    cases hco : qz9 s (q3m c) a with
    | true =>
     have : qbs vcP q8x s a c = false := by simp [qbs, hco]
     simp only [this, Bool.false_eq_true, if_false, Option.some.injEq] at hg
     subst hg
     simp [q5i, ht]
    | false =>
     have : qbs vcP q8x s a c = true := by simp [qbs, hin, hv, ht, hco]
     simp only [this, if_true, Option.ite_none_right_eq_some, Option.some.injEq, decide_eq_true_eq] at hg
     obtain ⟨hlt, rfl⟩ := hg
     simp only [ze hin, zkm, q6i, List.length_map, zfp]
     simp [q5i, ht, h1]
     omega
structure Vc where
 v : Int
 c : Ce
instance : Inhabited Vc := ⟨⟨0, default⟩⟩
def eV (x : Vc) : D := .a [.i x.v, eC x.c]
def dV (d : D) : Vc := ⟨(d.fld 0).int, dC (d.fld 1)⟩
theorem qqg (x : Vc) : dV (eV x) = x := rfl
theorem zj4 {a b : Vc} (h : eV a = eV b) : a = b := by rw [← qqg a, h, qqg b]
instance : DecidableEq Vc := fun a b => if h : eV a = eV b then .isTrue (zj4 h) else .isFalse fun e => h (e ▸ rfl)
theorem zl0 (x : Vc) : (eV x).fld 0 = .i x.v := rfl
theorem zj0 (x : Vc) : (eV x).fld 1 = eC x.c := rfl
theorem zgx (n : Int) (c : Ce) : D.a [.i n, eC c] = eV ⟨n, c⟩ := rfl
def dVs (d : D) : List Vc := d.rs.map dV
theorem q4z (l : List Vc) : dVs (.r (l.map eV)) = l := by
 show (l.map eV).map dV = l
 rw [List.map_map]
 exact List.map_id'' (fun x => rfl) l
theorem wfV (h : Wf d qj9) : ∃ c, d = eV c ∧ i64 c.v ∧ c.c.ok := by
 obtain ⟨ds, rfl, hl⟩ := h.st_of (fs := [.int .i64, qn]) rfl
 obtain ⟨a, b, rfl, ha, hb⟩ := qzw hl
 obtain ⟨x, rfl, hx⟩ := wfI ha
 obtain ⟨y, rfl, hy⟩ := wfC hb
 exact ⟨⟨x, y⟩, rfl, hx, hy⟩
theorem zcp (h : Wf d z3b) : ∃ l : List Vc, d = .r (l.map eV) ∧ l.length ≤ 5864062014634 ∧ ∀ x ∈ l, i64 x.v ∧ x.c.ok := by
 obtain ⟨l, e, h1, h2⟩ := h.row_of (te := qj9) rfl
 subst e
 obtain ⟨m, rfl, h3⟩ := qb7 (e := eV) (P := fun x => i64 x.v ∧ x.c.ok) fun x hx => wfV (h2 x hx)
 have e : LM qj9 = 5864062014634 := by kernel_rfl
 rw [e, List.length_map] at h1
 exact ⟨m, rfl, h1, h3⟩
def ofV : List Vc → Int → Option Ce
 | [], _ => none
 | x :: l, v => if x.v = v then some x.c else ofV l v
def qlz : List Vc → Int → Ce → List Vc
 | [], v, c => [⟨v, c⟩]
 | x :: l, v, c => if x.v < v then x :: qlz l v c else ⟨v, c⟩ :: x :: l
def loV : List Vc → Int → Nat
 | [], _ => 0
 | x :: l, v => if x.v < v then loV l v + 1 else 0
def SV (l : List Vc) : Prop := l.Pairwise (fun a b => a.v < b.v) ∧ ∀ x ∈ l, 0 ≤ x.v ∧ x.v ≤ 1099511627776
instance (l : List Vc) : Decidable (SV l) := inferInstanceAs (Decidable (_ ∧ _))
theorem z2b (v : Int) : ∀ l, loV l v ≤ l.length
 | [] => Nat.le_refl _
 | x :: l => by
  unfold loV
  have := z2b v l
  split <;> simp <;> omega
variable {v : Int}
theorem z8p : ∀ {l : List Vc} {j : Nat}, j < loV l v → (l.getD j default).v < v
 | [], j, h => by simp [loV] at h
 | x :: l, j, h => by
  unfold loV at h
  split at h
  ·rename_i hx
   cases j with
   | zero => exact hx
   | succ j =>
    rw [List.getD_cons_succ]
    exact z8p (by omega)
  ·omega
theorem z1d : ∀ {l : List Vc}, loV l v < l.length → v ≤ (l.getD (loV l v) default).v
 | [], h => by simp [loV] at h
 | x :: l, h => by
  unfold loV at h ⊢
  split at h
  ·rename_i hx
   rw [if_pos hx, List.getD_cons_succ]
   exact z1d (by simpa using h)
  ·rename_i hx
   rw [if_neg hx, List.getD_cons_zero]
   omega
theorem z91 {l : List Vc} {i : Nat} (hi : i ≤ l.length) (h1 : ∀ j, j < i → (l.getD j default).v < v) (h2 : ∀ j, i ≤ j → j < l.length → v ≤ (l.getD j default).v) : loV l v = i := by
 rcases Nat.lt_trichotomy (loV l v) i with h | h | h
 ·have := h1 _ h
  have := z1d (v := v) (l := l) (by omega)
  omega
 ·exact h
 ·have := z8p h
  have h3 := z2b v l
  have := h2 i (Nat.le_refl _) (by omega)
  omega
theorem qz4 (v : Int) (c : Ce) : ∀ l, qlz l v c = l.take (loV l v) ++ ⟨v, c⟩ :: l.drop (loV l v)
 | [] => rfl
 | x :: l => by
  unfold qlz loV
  split
  ·rw [qz4 v c l]
   rfl
  ·rfl
theorem z14 : ∀ {l : List Vc}, (∀ y ∈ l, y.v ≠ v) → ofV l v = none
 | [], _ => rfl
 | x :: l, h => by
  unfold ofV
  rw [if_neg (h x (by simp)), z14 fun y hy => h y (by simp [hy])]
theorem z2v : ∀ {l : List Vc}, SV l → ofV l v = if loV l v < l.length ∧ (l.getD (loV l v) default).v = v then some (l.getD (loV l v) default).c else none
 | [], _ => rfl
 | x :: l, h => by
  have hp := List.pairwise_cons.1 h.1
  have hl : SV l := ⟨hp.2, fun y hy => h.2 y (by simp [hy])⟩
  unfold ofV loV
  by_cases hx : x.v < v
  ·rw [if_neg (by omega), if_pos hx, z2v hl]
   simp
  ·rw [if_neg hx]
   by_cases he : x.v = v
   ·simp [he]
   ·rw [if_neg he, z14 fun y hy => by have := hp.1 y hy; omega]
    simp [he]
theorem zas : ∀ {l : List Vc}, ofV l v = none → ∀ y ∈ l, y.v ≠ v
 | [], _, y, hy => by cases hy
 | x :: l, h, y, hy => by
  unfold ofV at h
  split at h
  ·cases h
  ·rename_i hx
   rcases List.mem_cons.1 hy with rfl | hy
   ·exact hx
   ·exact zas h y hy
theorem z1r {l : List Vc} {y : Vc} : y ∈ qlz l v c ↔ y = ⟨v, c⟩ ∨ y ∈ l := by
 rw [qz4, List.mem_append, List.mem_cons]
 conv => rhs; rw [← List.take_append_drop (loV l v) l, List.mem_append]
 constructor
 ·rintro (h | h | h)
  ·exact .inr (.inl h)
  ·exact .inl h
  ·exact .inr (.inr h)
 ·rintro (h | h | h)
  ·exact .inr (.inl h)
  ·exact .inl h
  ·exact .inr (.inr h)
theorem z5g (h0 : 0 ≤ v) (h1 : v ≤ 1099511627776) : ∀ {l : List Vc}, SV l → ofV l v = none → SV (qlz l v c) := fun {l} h hn => by
 refine ⟨?_, fun y hy => ?_⟩
 ·have hne := zas hn
  have key : ∀ l : List Vc, l.Pairwise (fun a b => a.v < b.v) → (∀ y ∈ l, y.v ≠ v) → (qlz l v c).Pairwise fun a b => a.v < b.v := by
   intro l
   induction l with
   | nil => intro _ _; exact List.pairwise_singleton _ _
   | cons x l ih =>
    intro hp hn
    have hp' := List.pairwise_cons.1 hp
    unfold qlz
    split
    ·rename_i hx
     refine List.pairwise_cons.2 ⟨fun y hy => ?_, ih hp'.2 fun y hy => hn y (by simp [hy])⟩
     rcases z1r.1 hy with rfl | hy
     ·exact hx
     ·exact hp'.1 y hy
    ·rename_i hx
     have := hn x (by simp)
     refine List.pairwise_cons.2 ⟨fun y hy => ?_, hp⟩
     rcases List.mem_cons.1 hy with rfl | hy
     ·show v < y.v; omega
     ·have := hp'.1 y hy
      show v < y.v
      omega
  exact key l h.1 hne
 ·rcases z1r.1 hy with rfl | hy
  ·exact ⟨h0, h1⟩
  ·exact h.2 y hy
theorem z9c {b : Int} : ∀ (l : List Vc) (a : Int), a ≤ b + 1 → l.Pairwise (fun x y => x.v < y.v) → (∀ x ∈ l, a ≤ x.v ∧ x.v ≤ b) → (l.length : Int) ≤ b - a + 1
 | [], a, h, _, _ => by simp; omega
 | x :: l, a, h, hp, hr => by
  have hp' := List.pairwise_cons.1 hp
  have hx := hr x (by simp)
  have := z9c l (x.v + 1) (by omega) hp'.2 fun y hy => ⟨by have := hp'.1 y hy; omega, (hr y (by simp [hy])).2⟩
  rw [List.length_cons]
  omega
theorem SV.len {l : List Vc} (h : SV l) : (l.length : Int) ≤ 1099511627777 := by
 have := z9c (b := 1099511627776) l 0 (by omega) h.1 h.2
 omega
variable {nm : ByteArray} {ar : Int}
theorem z5d : ∀ (k : Nat) (l : List Sy), 0 ≤ fnd nm ar k l ↔ (⟨nm, ar⟩ : Sy) ∈ l
 | k, [] => by simp [fnd]
 | k, y :: l => by
  unfold fnd
  split
  ·rename_i h
   obtain ⟨rfl, rfl⟩ := h
   exact ⟨fun _ => by simp, fun _ => Int.natCast_nonneg _⟩
  ·rename_i h
   rw [z5d (k + 1) l, List.mem_cons]
   exact ⟨.inr, fun h' => h'.elim (fun e => by subst e; exact (h ⟨rfl, rfl⟩).elim) id⟩
theorem qdv {s : So} : 0 ≤ qd1 s nm ar ↔ (⟨nm, ar⟩ : Sy) ∈ s.ys := z5d 0 s.ys
def q81 (s : So) (nm : ByteArray) (ar : Int) : Int × So := if 0 ≤ qd1 s nm ar then (qd1 s nm ar, s) else ((s.ys.length : Nat), { s with ys := s.ys ++ [⟨nm, ar⟩] })
def qkv (ys : List Sy) (y : Sy) : List Sy := if y ∈ ys then ys else ys ++ [y]
mutual
def q9f (ys : List Sy) : Te → List Sy
 | .mk k _ nm l => q3u (if k = 2 ∨ k = 3 then qkv ys ⟨nm, (l.length : Nat)⟩ else ys) l
def q3u (ys : List Sy) : List Te → List Sy
 | [] => ys
 | t :: l => q3u (q9f ys t) l
end
theorem z9o (ys : List Sy) (y : Sy) : ys.length ≤ (qkv ys y).length := by
 unfold qkv
 split
 ·exact Nat.le_refl _
 ·simp
mutual
theorem qiv : ∀ (t : Te) (ys : List Sy), ys.length ≤ (q9f ys t).length
 | .mk k n nm l, ys => by
  rw [q9f]
  refine Nat.le_trans ?_ (qau l _)
  split
  ·exact z9o _ _
  ·exact Nat.le_refl _
theorem qau : ∀ (l : List Te) (ys : List Sy), ys.length ≤ (q3u ys l).length
 | [], ys => Nat.le_refl _
 | t :: l, ys => by
  rw [q3u]
  exact Nat.le_trans (qiv t ys) (qau l _)
end
theorem qwn (s : So) (nm : ByteArray) (ar : Int) : (q81 s nm ar).2.cs = s.cs ∧ (q81 s nm ar).2.mx = s.mx ∧ (q81 s nm ar).2.ys = qkv s.ys ⟨nm, ar⟩ ∧ (q81 s nm ar).2.tr = s.tr ∧ (q81 s nm ar).2.wk = s.wk ∧ (q81 s nm ar).2.ser = s.ser := by
 unfold q81 qkv
 by_cases h : 0 ≤ qd1 s nm ar
 ·rw [if_pos h, if_pos (qdv.1 h)]
  exact ⟨rfl, rfl, rfl, rfl, rfl, rfl⟩
 ·rw [if_neg h, if_neg (fun q => h (qdv.2 q))]
  exact ⟨rfl, rfl, rfl, rfl, rfl, rfl⟩
def qpb (ys ms : List Sy) (y : Sy) : List Sy := if y ∈ ms ∨ y ∈ ys then ms else ms ++ [y]
mutual
def qct (ys ms : List Sy) : Te → List Sy
 | .mk k _ nm l => q5e ys (if k = 2 ∨ k = 3 then qpb ys ms ⟨nm, (l.length : Nat)⟩ else ms) l
def q5e (ys ms : List Sy) : List Te → List Sy
 | [] => ms
 | t :: l => q5e ys (qct ys ms t) l
end
theorem ziv (ys ms : List Sy) (y : Sy) : ys ++ qpb ys ms y = qkv (ys ++ ms) y := by
 unfold qpb qkv
 by_cases h : y ∈ ms ∨ y ∈ ys
 ·rw [if_pos h, if_pos (List.mem_append.2 h.symm)]
 ·rw [if_neg h, if_neg (fun q => h (List.mem_append.1 q).symm), List.append_assoc]
mutual
theorem z9k : ∀ (t : Te) (ys ms : List Sy), ys ++ qct ys ms t = q9f (ys ++ ms) t
 | .mk k n nm l, ys, ms => by
  rw [qct, q9f, z6l]
  split
  ·rw [ziv]
  ·rfl
theorem z6l : ∀ (l : List Te) (ys ms : List Sy), ys ++ q5e ys ms l = q3u (ys ++ ms) l
 | [], ys, ms => rfl
 | t :: l, ys, ms => by rw [q5e, q3u, z6l, z9k]
end
theorem z9i (ys ms : List Sy) (y : Sy) : (qpb ys ms y).length ≤ ms.length + 1 := by
 unfold qpb
 split
 ·omega
 ·simp
mutual
theorem z0k : ∀ (t : Te) (ys ms : List Sy), (qct ys ms t).length ≤ ms.length + szT t
 | .mk k n nm l, ys, ms => by
  rw [qct, szT]
  refine Nat.le_trans (qvd l _ _) ?_
  split
  ·have := z9i ys ms ⟨nm, (l.length : Nat)⟩
   omega
  ·omega
theorem qvd : ∀ (l : List Te) (ys ms : List Sy), (q5e ys ms l).length ≤ ms.length + q4g l
 | [], ys, ms => by simp [q5e, q4g]
 | t :: l, ys, ms => by
  rw [q5e, q4g]
  have h1 := z0k t ys ms
  have h2 := qvd l ys (qct ys ms t)
  omega
end
mutual
/-- The cells that a term needs, but for a variable that is no argument. -/
def q8y : Te → Nat
 | .mk k _ _ l => if k = 3 then 1 + l.length + q1t l else 0
def q1t : List Te → Nat
 | [] => 0
 | t :: l => q8y t + q1t l
end
mutual
theorem z5l : ∀ t : Te, q8y t + 1 ≤ 2 * szT t
 | .mk k n nm l => by
  rw [q8y, szT]
  have h1 := qzm l
  have h2 := z1t l
  split <;> omega
theorem qzm : ∀ l : List Te, q1t l + l.length ≤ 2 * q4g l
 | [] => Nat.le_refl _
 | t :: l => by
  rw [q1t, q4g, List.length_cons]
  have h1 := z5l t
  have h2 := qzm l
  omega
end
def qmb (t : Te) (all : List Vc) : Nat := q8y t + if t.k = 0 ∧ ofV all t.n = none then 1 else 0
abbrev Sv := So × List Vc
def z76 (s : So) (i : Nat) (c : Ce) : So := { s with cs := s.cs.set i c }
mutual
/-- A term added; at: the address of the argument that it becomes. -/
def q70 (q : Sv) : Te → Int → Ce × Sv
 | .mk k n nm l, at' =>
  if k = 1 then (⟨1, n⟩, q)
  else if k = 2 then (⟨2, (q81 q.1 nm 0).1⟩, (q81 q.1 nm 0).2, q.2)
  else if k = 0 then (match ofV q.2 n with
   | some c => (q3m c, q)
   | none => if at' < 0 then (⟨0, (q.1.cs.length : Nat)⟩, { q.1 with cs := q.1.cs ++ [⟨0, (q.1.cs.length : Nat)⟩] }, qlz q.2 n ⟨0, (q.1.cs.length : Nat)⟩) else (⟨0, at'⟩, q.1, qlz q.2 n ⟨0, at'⟩))
  else (⟨3, (q.1.cs.length : Nat)⟩, qbz ({ (q81 q.1 nm (l.length : Nat)).2 with cs := q.1.cs ++ (⟨4, (q81 q.1 nm (l.length : Nat)).1⟩ :: List.replicate l.length ⟨0, 0⟩) }, q.2) l (q.1.cs.length + 1))
def qbz (q : Sv) : List Te → Nat → Sv
 | [], _ => q
 | a :: l, to => qbz (z76 (q70 q a (to : Nat)).2.1 to (q70 q a (to : Nat)).1, (q70 q a (to : Nat)).2.2) l (to + 1)
end
theorem qrp (s : So) (i : Nat) (c : Ce) : (z76 s i c).cs.length = s.cs.length := by simp [z76]
def Rst (s s' : So) : Prop := s'.mx = s.mx ∧ s'.tr = s.tr ∧ s'.wk = s.wk ∧ s'.ser = s.ser
theorem Rst.trans {a b c : So} (h : Rst a b) (k : Rst b c) : Rst a c := ⟨k.1.trans h.1, k.2.1.trans h.2.1, k.2.2.1.trans h.2.2.1, k.2.2.2.trans h.2.2.2⟩
theorem zea (k n : Int) (s : ByteArray) (l : List Te) : q8v (.mk k n s l) = if k = 0 then decide (0 ≤ n) && (decide (n ≤ 1099511627776) && (decide (s = ⟨#[]⟩) && decide ((l.length : Int) = 0)))
 else if k = 1 then decide (s = ⟨#[]⟩) && decide ((l.length : Int) = 0)
 else if k = 2 then decide (n = 0) && (decide ((s.size : Int) ≤ 100) && decide ((l.length : Int) = 0))
 else if k = 3 then decide (n = 0) && (decide ((s.size : Int) ≤ 100) && (decide (1 ≤ (l.length : Int)) && decide ((l.length : Int) ≤ 8)))
 else false := rfl
theorem qg5 {k n : Int} {s : ByteArray} {l : List Te} (h : q8v (.mk k n s l) = true) : (k = 0 ∧ l = [] ∧ 0 ≤ n ∧ n ≤ 1099511627776) ∨ (k = 1 ∧ l = []) ∨ (k = 2 ∧ l = [] ∧ s.size ≤ 100) ∨ (k = 3 ∧ s.size ≤ 100 ∧ 1 ≤ l.length ∧ l.length ≤ 8) := by
 rw [zea] at h
 by_cases h0 : k = 0
 ·rw [if_pos h0] at h
  simp only [Bool.and_eq_true, decide_eq_true_eq] at h
  exact .inl ⟨h0, List.length_eq_zero_iff.1 (by omega), h.1, h.2.1⟩
 rw [if_neg h0] at h
 by_cases h1 : k = 1
 ·rw [if_pos h1] at h
  simp only [Bool.and_eq_true, decide_eq_true_eq] at h
  exact .inr (.inl ⟨h1, List.length_eq_zero_iff.1 (by omega)⟩)
 rw [if_neg h1] at h
 by_cases h2 : k = 2
 ·rw [if_pos h2] at h
  simp only [Bool.and_eq_true, decide_eq_true_eq] at h
  exact .inr (.inr (.inl ⟨h2, List.length_eq_zero_iff.1 (by omega), by omega⟩))
 rw [if_neg h2] at h
 split at h
 ·rename_i h3
  simp only [Bool.and_eq_true, decide_eq_true_eq] at h
  exact .inr (.inr (.inr ⟨h3, by omega, by omega, by omega⟩))
 ·cases h
theorem z8t (q : Sv) (n : Int) (nm : ByteArray) (l : List Te) (a : Int) : q70 q (.mk 0 n nm l) a = match ofV q.2 n with
   | some c => (q3m c, q)
   | none => if a < 0 then (⟨0, (q.1.cs.length : Nat)⟩, { q.1 with cs := q.1.cs ++ [⟨0, (q.1.cs.length : Nat)⟩] }, qlz q.2 n ⟨0, (q.1.cs.length : Nat)⟩) else (⟨0, a⟩, q.1, qlz q.2 n ⟨0, a⟩) := by
 rw [q70, if_neg (by decide), if_neg (by decide), if_pos rfl]
theorem zbo (q : Sv) (n : Int) (nm : ByteArray) (l : List Te) (a : Int) : q70 q (.mk 1 n nm l) a = (⟨1, n⟩, q) := by rw [q70, if_pos rfl]
theorem z8o (q : Sv) (n : Int) (nm : ByteArray) (l : List Te) (a : Int) : q70 q (.mk 2 n nm l) a = (⟨2, (q81 q.1 nm 0).1⟩, (q81 q.1 nm 0).2, q.2) := by rw [q70, if_neg (by decide), if_pos rfl]
theorem z8l (q : Sv) (n : Int) (nm : ByteArray) (l : List Te) (a : Int) : q70 q (.mk 3 n nm l) a = (⟨3, (q.1.cs.length : Nat)⟩, qbz ({ (q81 q.1 nm (l.length : Nat)).2 with cs := q.1.cs ++ (⟨4, (q81 q.1 nm (l.length : Nat)).1⟩ :: List.replicate l.length ⟨0, 0⟩) }, q.2) l (q.1.cs.length + 1)) := by rw [q70, if_neg (by decide), if_neg (by decide), if_neg (by decide)]
theorem qs3 {k n : Int} {l : List Te} (h : k ≠ 3) : q8y (.mk k n nm l) = 0 := by rw [q8y, if_neg h]
theorem qwt {k n : Int} {l : List Te} (h : k ≠ 0) (all : List Vc) : qmb (.mk k n nm l) all = q8y (.mk k n nm l) := by
 unfold qmb
 rw [if_neg (fun q => h q.1)]
 rfl
variable {ys : List Sy}
theorem z6u {k n : Int} (h : ¬ (k = 2 ∨ k = 3)) : q9f ys (.mk k n nm []) = ys := by rw [q9f, if_neg h, q3u]
theorem zaj {n : Int} : q9f ys (.mk 2 n nm []) = qkv ys ⟨nm, 0⟩ := by rw [q9f, if_pos (.inl rfl), q3u]; rfl
theorem z8u {n : Int} {l : List Te} : q9f ys (.mk 3 n nm l) = q3u (qkv ys ⟨nm, (l.length : Nat)⟩) l := by rw [q9f, if_pos (.inr rfl)]
theorem zh7 {n : Int} {l : List Te} : q8y (.mk 3 n nm l) = 1 + l.length + q1t l := by rw [q8y, if_pos rfl]
theorem Rst.refl (s : So) : Rst s s := ⟨rfl, rfl, rfl, rfl⟩
mutual
theorem qse : ∀ (t : Te) (q : Sv) (a : Int), jv t = true → SV q.2 → (q70 q t a).2.1.cs.length = q.1.cs.length + (if a < 0 then qmb t q.2 else q8y t) ∧ (q70 q t a).2.1.ys = q9f q.1.ys t ∧ Rst q.1 (q70 q t a).2.1 ∧ SV (q70 q t a).2.2
 | .mk k n nm l, q, a, hn, hs => by
  rw [jv, Bool.and_eq_true] at hn
  rcases qg5 hn.1 with ⟨rfl, rfl, h1, h2⟩ | ⟨rfl, rfl⟩ | ⟨rfl, rfl, h1⟩ | ⟨rfl, h1, h2, h3⟩
  ·have e1 : qmb (.mk 0 n nm []) q.2 = if ofV q.2 n = none then 1 else 0 := by
    unfold qmb
    rw [qs3 (by decide)]
    simp [Te.k, Te.n]
   rw [z8t, z6u (by decide), qs3 (by decide), e1]
   cases ho : ofV q.2 n with
   | some c => exact ⟨by simp, rfl, Rst.refl _, hs⟩
   | none =>
    by_cases ha : a < 0
    ·simp only [if_pos ha]
     exact ⟨by simp, by trivial, ⟨rfl, rfl, rfl, rfl⟩, z5g h1 h2 hs ho⟩
    ·simp only [if_neg ha]
     exact ⟨by simp, by trivial, ⟨rfl, rfl, rfl, rfl⟩, z5g h1 h2 hs ho⟩
  ·rw [zbo, z6u (by decide), qwt (by decide), qs3 (by decide)]
   exact ⟨by simp, rfl, Rst.refl _, hs⟩
  ·obtain ⟨e1, e2, e3, e4, e5, e6⟩ := qwn q.1 nm 0
   rw [z8o, zaj, qwt (by decide), qs3 (by decide)]
   exact ⟨by rw [e1]; simp, e3, ⟨e2, e4, e5, e6⟩, hs⟩
  ·obtain ⟨e1, e2, e3, e4, e5, e6⟩ := qwn q.1 nm (l.length : Nat)
   rw [z8l, z8u, qwt (by decide), zh7]
   obtain ⟨g1, g2, g3, g4⟩ := qw8 l ({ (q81 q.1 nm (l.length : Nat)).2 with cs := q.1.cs ++ (⟨4, (q81 q.1 nm (l.length : Nat)).1⟩ :: List.replicate l.length ⟨0, 0⟩) }, q.2) (q.1.cs.length + 1) hn.2 hs
   refine ⟨?_, ?_, ?_, g4⟩
   ·rw [g1]
    simp
    omega
   ·rw [g2]
    show q3u (q81 q.1 nm (l.length : Nat)).2.ys l = _
    rw [e3]
   ·exact Rst.trans ⟨e2, e4, e5, e6⟩ g3
theorem qw8 : ∀ (l : List Te) (q : Sv) (to : Nat), qb6 l = true → SV q.2 → (qbz q l to).1.cs.length = q.1.cs.length + q1t l ∧ (qbz q l to).1.ys = q3u q.1.ys l ∧ Rst q.1 (qbz q l to).1 ∧ SV (qbz q l to).2
 | [], q, to, _, hs => ⟨rfl, rfl, ⟨rfl, rfl, rfl, rfl⟩, hs⟩
 | t :: l, q, to, hn, hs => by
  rw [qb6, Bool.and_eq_true] at hn
  rw [qbz, q1t, q3u]
  obtain ⟨h1, h2, h3, h4⟩ := qse t q (to : Nat) hn.1 hs
  obtain ⟨g1, g2, g3, g4⟩ := qw8 l (z76 (q70 q t (to : Nat)).2.1 to (q70 q t (to : Nat)).1, (q70 q t (to : Nat)).2.2) (to + 1) hn.2 h4
  refine ⟨?_, ?_, ?_, g4⟩
  ·rw [g1, qrp, h1, if_neg (by omega)]
   omega
  ·rw [g2]
   show q3u (q70 q t (to : Nat)).2.1.ys l = _
   rw [h2]
  ·exact Rst.trans h3 g3
end
variable {cs : List Value} {T : TypeId}
section
namespace Ins
open Go.RowKit Go.Shelf Go.Lib
attribute [local go_sem] Oper.semAt_some
abbrev E3 := Int × Int × Int
def fl3 (x : E3) : List Value := [.int .i64 x.1, .int .i64 x.2.1, .int .i64 x.2.2]
def fls (l : List E3) : List Value := l.flatMap fl3
theorem q9e (l : List E3) : (fls l).length = l.length * 3 := by
 induction l with
 | nil => rfl
 | cons x l ih => simp [fls, fl3] at *; omega
theorem qoh (l m : List E3) : fls (l ++ m) = fls l ++ fls m := List.flatMap_append
theorem qnw {l : List E3} : ∀ v ∈ fls l, v.oneCell' = true := fun v hv => by
 obtain ⟨x, -, hx⟩ := List.mem_flatMap.1 hv
 simp only [fl3, List.mem_cons, List.not_mem_nil, or_false] at hx
 rcases hx with rfl | rfl | rfl <;> rfl
theorem qia (x : E3) (l : List E3) : fls (x :: l) = fl3 x ++ fls l := rfl
theorem qwp : Tryz.prog.underlying 98 = some (.slice 102) := by kernel_rfl
theorem zcy : Tryz.prog.underlying 3 = some (.int .i64) := by kernel_rfl
theorem z5n : (Tryz.prog.info? 102).map (fun i => (i.size, i.bytes)) = some (3, 24) := by kernel_rfl
theorem zjt : (Tryz.prog.info? 102).map (fun i => i.zero) = some (some (.agg #[.int .i64 0, .int .i64 0, .int .i64 0])) := by kernel_rfl
theorem zfy (w : World) : (Go.sizeOf 102).run Tryz.prog w = .ok 3 w := by kernel_rfl
theorem qdq (w : World) (ty : TypeId) (g o dLen dCap : Nat) (a : Addr) (sLen sCap : Nat) (cur : Array Value) (t : TypeId) (cs : List Value)
  (hg : w.heap[g]? = some (.cells cur t (0, 0))) {n : Nat} (hn : n = Nat.min sLen dLen) (hl : cs.length = n * 3)
  (hsrc : ∀ j v, cs[j]? = some v → w.cell? (a.add j) = some v) (hfit : o + cs.length ≤ cur.size) (h1 : ∀ v ∈ cs, v.oneCell' = true) :
  (Builtin.copy_ #[98, 98] ty #[.slice (some ⟨g, o, none⟩) dLen dCap, .slice (some a) sLen sCap]).run Tryz.prog w =
   .ok (goInt n) (w.setRow g (cur.toList.take o ++ cs ++ cur.toList.drop (o + cs.length)).toArray) := by
 have hld := run_loadCells_list (P := Tryz.prog) w a cs hsrc
 have hst := run_storeCells_at Tryz.prog g o t cs 0 cur w hg (by simpa using hfit) h1
 obtain ⟨i, hi, e⟩ := Option.map_eq_some_iff.1 z5n
 simp only [Prod.mk.injEq] at e
 rw [hl] at hld
 simp [Builtin.copy_, run_underlying qwp, Builtin.lenOf, Builtin.firstCells, sizeOf, typeInfo, hi, e.1, ← hn, hld, hst]
theorem qag {w : World} {b k : Nat} (h : w.heap[b]? = some (.cells cs.toArray T (0, 0))) {v : Value} (hv : cs[k]? = some v) : w.cell? ⟨b, k, none⟩ = some v := by
 rw [cell_of_row w b k _ T (0, 0) h]
 simpa using hv
theorem zai (w : World) (b cap vb vc i n : Nat) (L0 : List E3) (x : E3) (post vpost : List Value) (E Ev : TypeId) (hL : L0.length = n) (hi : i < n) (hcap : n + 1 ≤ cap) (hc63 : cap ≤ 9223372036854775807) (hne : vb ≠ b) (hp3 : 3 ≤ post.length)
  (hb : w.heap[b]? = some (.cells (fls L0 ++ post).toArray E (0, 0))) (hv : w.heap[vb]? = some (.cells (fl3 x ++ vpost).toArray Ev (0, 0))) :
  Calls Tryz.prog 107 #[.slice (some ⟨b, 0, none⟩) n cap, .int .i64 i, .slice (some ⟨vb, 0, none⟩) 1 vc] w fun e w' =>
   e = .returned (.slice (some ⟨b, 0, none⟩) (n + 1) cap) ∧ But (fun k => k = b) w w' ∧ w'.heap[b]? = some (.cells (fls (L0.take i ++ x :: L0.drop i) ++ post.drop 3).toArray E (0, 0)) := by
 have hlL := q9e L0
 have hlt := q9e (L0.take i)
 have hld := q9e (L0.drop i)
 have hsplit : fls L0 = fls (L0.take i) ++ fls (L0.drop i) := by rw [← qoh, List.take_append_drop]
 have htl : (L0.take i).length = i := by rw [List.length_take]; omega
 have hdl : (L0.drop i).length = n - i := by rw [List.length_drop, hL]
 have hov : ∀ lb cb, (callFunc 120 #[.slice (some ⟨vb, 0, none⟩) 1 vc, .slice (some ⟨b, (i + 1) * 3, none⟩) lb cb]).run Tryz.prog w = .ok (.value (.bool false)) w := fun lb cb => by
  rw [run_callFunc_extern Tryz.func120 (by kernel_rfl) (by kernel_rfl) (by kernel_rfl) (e := Extern.SlicesOverlaps.overlaps #[98, 98] #[4]) (by kernel_rfl),
   Lib.run_overlaps_apart w 98 4 102 qwp 3 zfy ⟨vb, 0, none⟩ ⟨b, (i + 1) * 3, none⟩ 1 vc lb cb hne Ev E (fl3 x ++ vpost).toArray.size (fls L0 ++ post).toArray.size (by simp [World.shape?, hv]) (by simp [World.shape?, hb]) (by rw [List.size_toArray, List.length_append]; omega) (by simp [World.frozen?, hv]) (by simp [World.frozen?, hv])]
  rfl
 have hcp1 : ∀ ty dc sc, (Builtin.copy_ #[98, 98] ty #[.slice (some ⟨b, (i + 1) * 3, none⟩) (n - i) dc, .slice (some ⟨b, i * 3, none⟩) (n + 1 - i) sc]).run Tryz.prog w.drew = .ok (goInt (n - i : Nat)) (w.drew.setRow b ((fls L0 ++ post).toArray.toList.take ((i + 1) * 3) ++ fls (L0.drop i) ++ (fls L0 ++ post).toArray.toList.drop ((i + 1) * 3 + (fls (L0.drop i)).length)).toArray) := fun ty dc sc =>
  qdq w.drew ty b ((i + 1) * 3) (n - i) dc ⟨b, i * 3, none⟩ (n + 1 - i) sc (fls L0 ++ post).toArray E (fls (L0.drop i)) hb (by simp only [Nat.min_def]; split <;> omega) (by rw [hld, hdl])
   (fun j v hj => by
    rw [Addr.add_lit]
    refine qag (w := w.drew) (T := E) hb ?_
    rw [hsplit, List.append_assoc, List.getElem?_append_right (by omega), show i * 3 + j - (fls (L0.take i)).length = j by omega]
    exact List.getElem?_append_left (by have := (List.getElem?_eq_some_iff.1 hj).1; omega) ▸ hj)
   (by simp; omega) qnw
 obtain ⟨J, hJ, hcur⟩ : ∃ J : List Value, J.length = 3 ∧ ((fls L0 ++ post).toArray.toList.take ((i + 1) * 3) ++ fls (L0.drop i) ++ (fls L0 ++ post).toArray.toList.drop ((i + 1) * 3 + (fls (L0.drop i)).length)) = fls (L0.take i) ++ (J ++ (fls (L0.drop i) ++ post.drop 3)) := by
  refine ⟨(fls (L0.drop i)).take 3, by rw [List.length_take]; omega, ?_⟩
  have e1 : (fls L0 ++ post).take ((i + 1) * 3) = fls (L0.take i) ++ (fls (L0.drop i)).take 3 := by
   rw [hsplit, List.append_assoc, List.take_append, List.take_of_length_le (by omega), show (i + 1) * 3 - (fls (L0.take i)).length = 3 by omega, List.take_append_of_le_length (by omega)]
  have e2 : (fls L0 ++ post).drop ((i + 1) * 3 + (fls (L0.drop i)).length) = post.drop 3 := by
   rw [List.drop_append, List.drop_eq_nil_of_le (by omega), List.nil_append]
   congr 1
   omega
  show (fls L0 ++ post).take _ ++ _ ++ (fls L0 ++ post).drop _ = _
  rw [e1, e2]
  simp
 rw [hcur] at hcp1
 have hb1 : (w.drew.setRow b (fls (L0.take i) ++ (J ++ (fls (L0.drop i) ++ post.drop 3))).toArray).heap[b]? = some (.cells (fls (L0.take i) ++ (J ++ (fls (L0.drop i) ++ post.drop 3))).toArray E (0, 0)) := setRow_heap w.drew b _ _ E _ hb
 have hv1 : (w.drew.setRow b (fls (L0.take i) ++ (J ++ (fls (L0.drop i) ++ post.drop 3))).toArray).heap[vb]? = some (.cells (fl3 x ++ vpost).toArray Ev (0, 0)) := by
  rw [setRow_other w.drew b vb _ hne]
  exact hv
 obtain ⟨W1, hW1⟩ : ∃ W1, W1 = w.drew.setRow b (fls (L0.take i) ++ (J ++ (fls (L0.drop i) ++ post.drop 3))).toArray := ⟨_, rfl⟩
 rw [← hW1] at hcp1 hb1 hv1
 have hcp2 : ∀ (W : World), W.heap = W1.heap → ∀ ty dc, (Builtin.copy_ #[98, 98] ty #[.slice (some ⟨b, i * 3, none⟩) (n + 1 - i) dc, .slice (some ⟨vb, 0, none⟩) 1 vc]).run Tryz.prog W = .ok (goInt (1 : Nat)) (W.setRow b ((fls (L0.take i) ++ (J ++ (fls (L0.drop i) ++ post.drop 3))).toArray.toList.take (i * 3) ++ fl3 x ++ (fls (L0.take i) ++ (J ++ (fls (L0.drop i) ++ post.drop 3))).toArray.toList.drop (i * 3 + (fl3 x).length)).toArray) := fun W hW ty dc =>
  qdq W ty b (i * 3) (n + 1 - i) dc ⟨vb, 0, none⟩ 1 vc _ E (fl3 x) (hW ▸ hb1) (by simp only [Nat.min_def]; split <;> omega) rfl
   (fun j v hj => by
    rw [Addr.add_lit, Nat.zero_add]
    refine qag (w := W) (T := Ev) (hW ▸ hv1) ?_
    exact List.getElem?_append_left (by have := (List.getElem?_eq_some_iff.1 hj).1; omega) ▸ hj)
   (by simp [fl3]; omega) (fun v hv => qnw (l := [x]) v (by simpa [fls] using hv))
 have hcur2 : ((fls (L0.take i) ++ (J ++ (fls (L0.drop i) ++ post.drop 3))).toArray.toList.take (i * 3) ++ fl3 x ++ (fls (L0.take i) ++ (J ++ (fls (L0.drop i) ++ post.drop 3))).toArray.toList.drop (i * 3 + (fl3 x).length)) = fls (L0.take i ++ x :: L0.drop i) ++ post.drop 3 := by
  show (fls (L0.take i) ++ (J ++ (fls (L0.drop i) ++ post.drop 3))).take _ ++ _ ++ (fls (L0.take i) ++ (J ++ (fls (L0.drop i) ++ post.drop 3))).drop _ = _
  rw [show i * 3 = (fls (L0.take i)).length by omega, List.take_left, show (fls (L0.take i)).length + (fl3 x).length = (fls (L0.take i) ++ J).length by rw [List.length_append, hJ]; rfl, ← List.append_assoc (fls (L0.take i)) J, List.drop_left, qoh, qia]
  simp
 rw [hcur2] at hcp2
 have hw1 : IntKind.i64.wrap ((i : Int) + 1) = (i : Int) + 1 := by rw [IntKind.wrap_i64]; omega
 have hz2 : ¬ ((i : Int) = (n : Int)) := by omega
 have h0i : (0 : Int) ≤ (i : Int) + 1 := by omega
 have hin : i ≤ n := by omega
 have htn : ((i : Int) + 1).toNat = i + 1 := by omega
 have hb2 : ¬ (cap = i + 1) := by omega
 have hb3 : (i : Int) ≤ (n : Int) + 1 := by omega
 have hb4 : ¬ (cap = i) := by omega
 go_enter Tryz.func107, Tryz.ntmps107
 go_wp2_with (simp only [hov])
 go_region_law (refine step_copy_runI rfl _ _ 98 98 rfl _ _ (by simp [Act.eval, Act.put]) (by simp [Act.eval, Act.put]) (hcp1 _ _ _) ?_)
 go_wp2_with (at_builtin; refine wpList_copy_runI _ rfl _ _ 98 98 rfl _ _ rfl rfl (hcp2 _ rfl _ _) ?_)
 go_ret
 exact ⟨rfl, q5s (S := fun k => k = b) (q5s (S := fun k => k = b) (But.refl _ w).drew (.inl rfl) _) (.inl rfl) _, setRow_heap _ _ _ _ _ _ (by rw [← hW1]; exact hb1)⟩
theorem z8s (a c : List Value) (k : Nat) : (a ++ c).drop (a.length + k) = c.drop k := by rw [List.drop_append, List.drop_eq_nil_of_le (Nat.le_add_right _ _), Nat.add_sub_cancel_left, List.nil_append]
theorem zc1 (w : World) (b vb vc i n : Nat) (L0 : List E3) (x : E3) (post vpost : List Value) (E Ev : TypeId) (hL : L0.length = n) (hi : i < n) (hbig : (n + 1) * 24 ≤ 140737488355328) (hne : vb ≠ b)
  (hb : w.heap[b]? = some (.cells (fls L0 ++ post).toArray E (0, 0))) (hv : w.heap[vb]? = some (.cells (fl3 x ++ vpost).toArray Ev (0, 0))) :
  Calls Tryz.prog 107 #[.slice (some ⟨b, 0, none⟩) n n, .int .i64 i, .slice (some ⟨vb, 0, none⟩) 1 vc] w fun e w' =>
   ∃ (G : Nat) (rest : List Value), e = .returned (.slice (some ⟨w.heap.size, 0, none⟩) (n + 1) G) ∧ But Nil w w' ∧ n + 1 ≤ G ∧ G ≤ maxLen ∧ rest.length = (G - (n + 1)) * 3 ∧ w'.heap[w.heap.size]? = some (.cells (fls (L0.take i ++ x :: L0.drop i) ++ rest).toArray 102 (0, 0)) := by
 have hlL := q9e L0
 have hlt := q9e (L0.take i)
 have hld := q9e (L0.drop i)
 have hsplit : fls L0 = fls (L0.take i) ++ fls (L0.drop i) := by rw [← qoh, List.take_append_drop]
 have htl : (L0.take i).length = i := by rw [List.length_take]; omega
 have hdl : (L0.drop i).length = n - i := by rw [List.length_drop, hL]
 have hbw := qu hb
 have hvw := qu hv
 obtain ⟨i0, hi0, e0⟩ := Option.map_eq_some_iff.1 z5n
 obtain ⟨i1, hi1, ez⟩ := Option.map_eq_some_iff.1 zjt
 obtain rfl := Option.some.inj (hi0.symm.trans hi1)
 simp only [Prod.mk.injEq] at e0
 have hold : (Builtin.firstCells i0.size i (.slice (some ⟨b, 0, none⟩) i n)).run Tryz.prog w.drew = .ok (fls (L0.take i)).toArray w.drew := by
  rw [e0.1]
  exact run_firstCells_some w.drew 3 i ⟨b, 0, none⟩ i n (fls (L0.take i)) (by omega) (fun j v hj => by
   rw [Addr.add_lit, Nat.zero_add]
   refine qag (w := w.drew) (T := E) hb ?_
   rw [hsplit, List.append_assoc]
   exact List.getElem?_append_left (by have := (List.getElem?_eq_some_iff.1 hj).1; omega) ▸ hj)
 obtain ⟨G, hG⟩ : ∃ G, G = grownCap w (n + 1) n 102 := ⟨_, rfl⟩
 have hGn : n + 1 ≤ G := by rw [hG]; exact grownCap_ge w _ _ _
 have hGm : G ≤ maxLen := by rw [hG]; exact grownCap_le_maxLen w _ _ _ (by unfold maxLen; omega)
 have hik : i + (n + 1 - i) = n + 1 := by omega
 have hkk : (n : Int) + 1 - (i : Int) = ((n + 1 - i : Nat) : Int) := by omega
 obtain ⟨Z, hZ, hrz⟩ : ∃ Z : List Value, Z.length = (n + 1 - i) * 3 + (G - (n + 1)) * 3 ∧ ∀ ty, (Builtin.append_ #[98, 3] ty #[.slice (some ⟨b, 0, none⟩) i n, .int .i64 ((n : Int) + 1 - (i : Int))]).run Tryz.prog w =
   .ok (.slice (some ⟨w.heap.size, 0, none⟩) (n + 1) G) (w.drew.alloc (.cells (fls (L0.take i) ++ Z).toArray 102)) := by
  refine ⟨(Builtin.zeroCells (Value.agg #[.int .i64 0, .int .i64 0, .int .i64 0]).cells (n + 1 - i)).toList ++ (Builtin.zeroCells (Value.agg #[.int .i64 0, .int .i64 0, .int .i64 0]).cells (G - (n + 1))).toList, by simp [Builtin.zeroCells, Value.cells], fun ty => ?_⟩
  have h := Lib.run_append_grow_zeros w 98 3 ty 102 i0 _ .i64 .i64 qwp zcy hi0 ez (some ⟨b, 0, none⟩) i n (fls (L0.take i)) hold (n + 1 - i) (by omega) (by omega) (by omega) (by omega) (by rw [e0.2]; omega) (by rw [e0.2, hik]; exact growslice_fits (by omega) hbig)
  rw [hik, ← hG] at h
  rw [hkk, h]
  congr 3
  simp
 have hb1 : (w.drew.alloc (.cells (fls (L0.take i) ++ Z).toArray 102)).heap[b]? = some (.cells (fls L0 ++ post).toArray E (0, 0)) := q1x (w := w.drew) hb
 have hv1 : (w.drew.alloc (.cells (fls (L0.take i) ++ Z).toArray 102)).heap[vb]? = some (.cells (fl3 x ++ vpost).toArray Ev (0, 0)) := q1x (w := w.drew) hv
 have hn1 : (w.drew.alloc (.cells (fls (L0.take i) ++ Z).toArray 102)).heap[w.heap.size]? = some (.cells (fls (L0.take i) ++ Z).toArray 102 (0, 0)) := jp (w := w.drew) rfl
 obtain ⟨W1, hW1⟩ : ∃ W1, W1 = w.drew.alloc (.cells (fls (L0.take i) ++ Z).toArray 102) := ⟨_, rfl⟩
 have hcpA : ∀ (W : World), W.heap = W1.heap → ∀ ty dc, (Builtin.copy_ #[98, 98] ty #[.slice (some ⟨w.heap.size, i * 3, none⟩) (n + 1 - i) dc, .slice (some ⟨vb, 0, none⟩) 1 vc]).run Tryz.prog W = .ok (goInt (1 : Nat)) (W.setRow w.heap.size ((fls (L0.take i) ++ Z).toArray.toList.take (i * 3) ++ fl3 x ++ (fls (L0.take i) ++ Z).toArray.toList.drop (i * 3 + (fl3 x).length)).toArray) := fun W hW ty dc =>
  qdq W ty w.heap.size (i * 3) (n + 1 - i) dc ⟨vb, 0, none⟩ 1 vc _ 102 (fl3 x) (by rw [hW, hW1]; exact hn1) (by simp only [Nat.min_def]; split <;> omega) rfl
   (fun j v hj => by
    rw [Addr.add_lit, Nat.zero_add]
    refine qag (w := W) (T := Ev) (by rw [hW, hW1]; exact hv1) ?_
    exact List.getElem?_append_left (by have := (List.getElem?_eq_some_iff.1 hj).1; omega) ▸ hj)
   (by simp [fl3]; omega) (fun v hv => qnw (l := [x]) v (by simpa [fls] using hv))
 have hcurA : ((fls (L0.take i) ++ Z).toArray.toList.take (i * 3) ++ fl3 x ++ (fls (L0.take i) ++ Z).toArray.toList.drop (i * 3 + (fl3 x).length)) = fls (L0.take i) ++ (fl3 x ++ Z.drop 3) := by
  show (fls (L0.take i) ++ Z).take _ ++ _ ++ (fls (L0.take i) ++ Z).drop _ = _
  rw [show i * 3 = (fls (L0.take i)).length by omega, List.take_left, List.drop_append, List.drop_eq_nil_of_le (by omega), show (fls (L0.take i)).length + (fl3 x).length - (fls (L0.take i)).length = 3 by simp [fl3]]
  simp
 rw [hcurA] at hcpA
 obtain ⟨W2, hW2⟩ : ∃ W2, W2 = W1.setRow w.heap.size (fls (L0.take i) ++ (fl3 x ++ Z.drop 3)).toArray := ⟨_, rfl⟩
 have hn2 : W2.heap[w.heap.size]? = some (.cells (fls (L0.take i) ++ (fl3 x ++ Z.drop 3)).toArray 102 (0, 0)) := by rw [hW2]; exact setRow_heap W1 _ _ _ _ _ (by rw [hW1]; exact hn1)
 have hb2 : W2.heap[b]? = some (.cells (fls L0 ++ post).toArray E (0, 0)) := by rw [hW2, setRow_other W1 _ b _ (by omega), hW1]; exact hb1
 have hcpB : ∀ (W : World), W.heap = W2.heap → ∀ ty dc sc, (Builtin.copy_ #[98, 98] ty #[.slice (some ⟨w.heap.size, (i + 1) * 3, none⟩) (n - i) dc, .slice (some ⟨b, i * 3, none⟩) (n - i) sc]).run Tryz.prog W = .ok (goInt (n - i : Nat)) (W.setRow w.heap.size ((fls (L0.take i) ++ (fl3 x ++ Z.drop 3)).toArray.toList.take ((i + 1) * 3) ++ fls (L0.drop i) ++ (fls (L0.take i) ++ (fl3 x ++ Z.drop 3)).toArray.toList.drop ((i + 1) * 3 + (fls (L0.drop i)).length)).toArray) := fun W hW ty dc sc =>
  qdq W ty w.heap.size ((i + 1) * 3) (n - i) dc ⟨b, i * 3, none⟩ (n - i) sc _ 102 (fls (L0.drop i)) (by rw [hW]; exact hn2) (by simp only [Nat.min_def]; split <;> omega) (by rw [hld, hdl])
   (fun j v hj => by
    rw [Addr.add_lit]
    refine qag (w := W) (T := E) (by rw [hW]; exact hb2) ?_
    rw [hsplit, List.append_assoc, List.getElem?_append_right (by omega), show i * 3 + j - (fls (L0.take i)).length = j by omega]
    exact List.getElem?_append_left (by have := (List.getElem?_eq_some_iff.1 hj).1; omega) ▸ hj)
   (by simp [fl3]; omega) qnw
 have hcurB : ((fls (L0.take i) ++ (fl3 x ++ Z.drop 3)).toArray.toList.take ((i + 1) * 3) ++ fls (L0.drop i) ++ (fls (L0.take i) ++ (fl3 x ++ Z.drop 3)).toArray.toList.drop ((i + 1) * 3 + (fls (L0.drop i)).length)) = fls (L0.take i ++ x :: L0.drop i) ++ (Z.drop 3).drop ((n - i) * 3) := by
  show (fls (L0.take i) ++ (fl3 x ++ Z.drop 3)).take _ ++ _ ++ (fls (L0.take i) ++ (fl3 x ++ Z.drop 3)).drop _ = _
  have e3 : (fls (L0.take i) ++ fl3 x).length = (i + 1) * 3 := by rw [List.length_append]; simp [fl3]; omega
  rw [← List.append_assoc, ← e3, List.take_left, z8s, hld, hdl, qoh, qia]
  simp
 rw [hcurB] at hcpB
 have hrest : ((Z.drop 3).drop ((n - i) * 3)).length = (G - (n + 1)) * 3 := by simp; omega
 generalize (Z.drop 3).drop ((n - i) * 3) = rest at *
 have hw1 : IntKind.i64.wrap ((i : Int) + 1) = (i : Int) + 1 := by rw [IntKind.wrap_i64]; omega
 have hz2 : ¬ ((i : Int) = (n : Int)) := by omega
 have h0i : (0 : Int) ≤ (i : Int) + 1 := by omega
 have hin : i ≤ n := by omega
 have htn : ((i : Int) + 1).toNat = i + 1 := by omega
 have hgi : ¬ (G = i) := by omega
 have hgi1 : ¬ (G = i + 1) := by omega
 have hni : ¬ (n = i) := by omega
 have hlt1 : (n : Int) < (n : Int) + 1 := by omega
 have hii : (i : Int) ≤ (n : Int) := by omega
 clear hcurA hcurB hkk hik hold hG
 go_enter Tryz.func107, Tryz.ntmps107
 go_wp2_with (first
  | (at_builtin; refine Lib.wpList_append_run _ rfl _ _ _ _ rfl _ _ rfl rfl _ _ (hrz _) ?_)
  | (at_builtin; refine wpList_copy_runI _ rfl _ _ 98 98 rfl _ _ rfl rfl (hcpA _ (by rw [hW1]) _ _) ?_))
 have hcpC : ∀ ty dc sc, (Builtin.copy_ #[98, 98] ty #[.slice (some ⟨w.heap.size, (i + 1) * 3, none⟩) (n - i) dc, .slice (some ⟨b, i * 3, none⟩) (n - i) sc]).run Tryz.prog ((w.alloc (.cells (fls (L0.take i) ++ Z).toArray 102)).drew.setRow w.heap.size (fls (L0.take i) ++ (fl3 x ++ Z.drop 3)).toArray).drew = _ := fun ty dc sc => hcpB _ (by subst hW2 hW1; rfl) ty dc sc
 go_region_law (refine step_copy_runI rfl _ _ 98 98 rfl (.slice (some ⟨w.heap.size, (i + 1) * 3, none⟩) (n - i) (G - (i + 1))) (.slice (some ⟨b, i * 3, none⟩) (n - i) (n - i)) (by simp [Act.eval, Act.put]) (by simp [Act.eval, Act.put]) (hcpC _ _ _) ?_)
 go_wp2_with fail
 go_ret
 exact ⟨G, rest, rfl, q5s (S := Nil) (q5s (S := Nil) ((But.refl Nil w).alloc _).drew (.inr (Nat.le_refl _)) _).drew (.inr (Nat.le_refl _)) _, hGn, hGm, hrest, setRow_heap _ _ _ _ _ _ (by subst hW2 hW1; exact hn2)⟩
end Ins
end
variable {A F : Nat → Prop} {cur : Array Value} {p : qm} {dep : List Nat} {pin : Nat}
section
namespace Ins
def zlm (T : TypeId) : TypeId := match qo T with
 | some (.st S) => S
 | _ => 0
abbrev uS : TypeId := zlm 102
abbrev cS : TypeId := zlm 29
theorem tyU : qo 102 = some (.st uS) := by kernel_rfl
theorem flU : flds uS = some [.int .i64, .st cS] := by kernel_rfl
theorem flC : flds cS = some [.int .i64, .int .i64] := by kernel_rfl
theorem wU : (Ty.st uS).w = 3 := by kernel_rfl
theorem lmU : LM (.st uS) = 5864062014634 := by kernel_rfl
def dE (x : E3) : D := .a [.i x.1, .a [.i x.2.1, .i x.2.2]]
def z30 (x : E3) : Prop := yz .i64 x.1 = true ∧ yz .i64 x.2.1 = true ∧ yz .i64 x.2.2 = true
theorem zli {x : E3} (h : z30 x) (w : World) (F : Nat → Prop) : Rd w F (dE x) (.st uS) (fl3 x) :=
 ⟨_, _, rfl, flU, .int .i64, [.st cS], [.int .i64 x.1], [.int .i64 x.2.1, .int .i64 x.2.2], rfl, rfl, ⟨.i64, rfl, rfl, h.1⟩, .st cS, [], [.int .i64 x.2.1, .int .i64 x.2.2], [], rfl, rfl,
  ⟨_, _, rfl, flC, .int .i64, [.int .i64], [.int .i64 x.2.1], [.int .i64 x.2.2], rfl, rfl, ⟨.i64, rfl, rfl, h.2.1⟩, .int .i64, [], [.int .i64 x.2.2], [], rfl, rfl, ⟨.i64, rfl, rfl, h.2.2⟩, rfl, rfl⟩, rfl, rfl⟩
theorem of_rdI {w : World} (h : Rd w F d (.int .i64) cs) : ∃ n, yz .i64 n = true ∧ d = .i n ∧ cs = [.int .i64 n] := by
 cases d <;> simp only [Rd, reduceCtorEq, false_and, exists_false, and_false] at h
 obtain ⟨k, e, h1, h2⟩ := h
 injection e with e
 subst e
 exact ⟨_, h2, rfl, h1⟩
theorem of_rdS {w : World} {S : TypeId} {fs : List Ty} (hfs : flds S = some fs) (h : Rd w F d (.st S) cs) : ∃ l, d = .a l ∧ RdF w F l fs cs := by
 cases d <;> simp only [Rd, reduceCtorEq, false_and, exists_false, and_false] at h
 obtain ⟨T, fs', e, h1, h2⟩ := h
 injection e with e
 subst e
 obtain rfl := Option.some.inj (h1.symm.trans hfs)
 exact ⟨_, rfl, h2⟩
theorem of_rdF {w : World} {l : List D} {t : Ty} {ts : List Ty} (h : RdF w F l (t :: ts) cs) : ∃ d l' c1 c2, l = d :: l' ∧ cs = c1 ++ c2 ∧ Rd w F d t c1 ∧ RdF w F l' ts c2 := by
 cases l with
 | nil => obtain ⟨e, -⟩ := h; cases e
 | cons d l =>
  obtain ⟨t', ts', c1, c2, e, e2, h1, h2⟩ := h
  injection e with e e'
  subst e e'
  exact ⟨d, l, c1, c2, rfl, e2, h1, h2⟩
theorem of_rdN {w : World} {l : List D} (h : RdF w F l [] cs) : l = [] ∧ cs = [] := by
 cases l with
 | nil => exact ⟨rfl, h.2⟩
 | cons d l => obtain ⟨t', ts', c1, c2, e, -⟩ := h; cases e
theorem zif {w : World} (h : Rd w F d (.st uS) cs) : ∃ x, z30 x ∧ d = dE x ∧ cs = fl3 x := by
 obtain ⟨l, rfl, hF⟩ := of_rdS flU h
 obtain ⟨d1, l1, c1, c2, rfl, rfl, h1, hG⟩ := of_rdF hF
 obtain ⟨d2, l2, c3, c4, rfl, rfl, h2, hH⟩ := of_rdF hG
 obtain ⟨rfl, rfl⟩ := of_rdN hH
 obtain ⟨n1, r1, rfl, rfl⟩ := of_rdI h1
 obtain ⟨l, rfl, hI⟩ := of_rdS flC h2
 obtain ⟨d3, l3, c5, c6, rfl, rfl, h3, hJ⟩ := of_rdF hI
 obtain ⟨d4, l4, c7, c8, rfl, rfl, h4, hK⟩ := of_rdF hJ
 obtain ⟨rfl, rfl⟩ := of_rdN hK
 obtain ⟨n2, r2, rfl, rfl⟩ := of_rdI h3
 obtain ⟨n3, r3, rfl, rfl⟩ := of_rdI h4
 exact ⟨(n1, n2, n3), ⟨r1, r2, r3⟩, rfl, rfl⟩
theorem range_drop3 {w : World} {b q : Nat} (hc : w.heap[b]? = some (.cells cur T (0, 0))) {x y z : Value} (h : w.rangeAt b q [x, y, z]) : cur.toList.drop q = x :: y :: z :: cur.toList.drop (q + 3) := by
 have get : ∀ j v, ([x, y, z] : List Value)[j]? = some v → cur.toList[q + j]? = some v := fun j v hj => by
  have := h j v hj
  rw [cell_of_row w b _ cur T (0, 0) hc, ← Array.getElem?_toList] at this
  exact this
 have g0 := get 0 x rfl
 have g1 := get 1 y rfl
 have g2 := get 2 z rfl
 obtain ⟨h0, e0⟩ := List.getElem?_eq_some_iff.1 g0
 obtain ⟨h1, e1⟩ := List.getElem?_eq_some_iff.1 g1
 obtain ⟨h2, e2⟩ := List.getElem?_eq_some_iff.1 g2
 rw [List.drop_eq_getElem_cons (by omega : q < cur.toList.length), List.drop_eq_getElem_cons h1, List.drop_eq_getElem_cons (by omega : q + 1 + 1 < cur.toList.length)]
 simp only [Nat.add_zero] at e0
 rw [e0, e1]
 congr 3
theorem z1b {w : World} {b o : Nat} (hc : w.heap[b]? = some (.cells cur T (0, 0))) : ∀ {rs : List D} {i : Nat}, RdE w F rs (.st uS) (some ⟨b, o, none⟩) i → ∃ L : List E3, rs = L.map dE ∧ (∀ x ∈ L, z30 x) ∧ cur.toList.drop (o + i * 3) = fls L ++ cur.toList.drop (o + (i + rs.length) * 3)
 | [], i, _ => ⟨[], rfl, fun x hx => (by cases hx), by simp [fls]⟩
 | d :: rs, i, ⟨⟨b', o', cs, e, hF, hr, hd⟩, h⟩ => by
  injection e with e
  injection e with e1 e2
  subst e1 e2
  obtain ⟨x, hx, rfl, rfl⟩ := zif hd
  obtain ⟨L, rfl, hL, hdr⟩ := z1b hc h
  rw [wU] at hr
  refine ⟨x :: L, rfl, fun y hy => (List.mem_cons.1 hy).elim (fun e => e ▸ hx) (hL y), ?_⟩
  have := range_drop3 hc hr
  rw [this, show o + i * 3 + 3 = o + (i + 1) * 3 by omega, hdr, show i + 1 + (L.map dE).length = i + (dE x :: L.map dE).length by simp; omega]
  rfl
theorem z16 {w : World} {l : List D} {v : Value} (h : q21 A p w dep pin 102 (.st uS) l v) (h0 : 0 < l.length) :
  ∃ g cap L post, v = .slice (some ⟨g, 0, none⟩) l.length cap ∧ p pin = some g ∧ l = L.map dE ∧ (∀ x ∈ L, z30 x) ∧ w.heap[g]? = some (.cells (fls L ++ post).toArray 102 (0, 0)) ∧ l.length ≤ cap ∧ cap ≤ maxLen ∧ post.length = (cap - l.length) * 3 := by
 rcases h with ⟨-, rfl⟩ | ⟨g, cap, cur, rfl, hg, hh, h1, h2, h3, h4, h5⟩
 ·simp at h0
 ·obtain ⟨L, hL, hok, hdr⟩ := z1b (F := FFD A p (pin :: dep)) (o := 0) hh (rs := l) (i := 0) (q0n.2 fun j hj => by
   obtain ⟨cs, hr, hx⟩ := h5 j hj
   exact ⟨g, 0, cs, rfl, .inr ⟨pin, by simp, hg⟩, by simpa using hr, hx.mono fun b _ hb => hb.mono fun x hx => List.mem_cons_of_mem _ hx⟩)
  have hl := q9e L
  have hll : l.length = L.length := by rw [hL, List.length_map]
  simp only [Nat.zero_mul, Nat.zero_add, List.drop_zero] at hdr
  rw [wU] at h3
  have hcl := congrArg List.length hdr
  rw [List.length_append, List.length_drop, Array.length_toList] at hcl
  refine ⟨g, cap, L, cur.toList.drop (l.length * 3), rfl, hg, hL, hok, ?_, h1, h2, ?_⟩
  ·rw [← hdr]
   exact hh
  ·rw [List.length_drop, Array.length_toList]
   omega
theorem z5c : ∀ {l : List E3} {i : Nat} (h : i < l.length) {j : Nat} {v : Value}, (fl3 l[i])[j]? = some v → (fls l)[i * 3 + j]? = some v
 | x :: l, 0, _, j, v, hj => by
  rw [Nat.zero_mul, Nat.zero_add, qia]
  exact List.getElem?_append_left (by have := (List.getElem?_eq_some_iff.1 hj).1; exact this) ▸ hj
 | x :: l, i + 1, h, j, v, hj => by
  have := z5c (l := l) (i := i) (by simpa using h) (j := j) (v := v) (by simpa using hj)
  rw [qia, show (i + 1) * 3 + j = i * 3 + j + 3 by omega]
  exact this
theorem zjc {w : World} {g cap : Nat} {M : List E3} {post : List Value} (hp : p pin = some g) (hM : ∀ x ∈ M, z30 x) (hh : w.heap[g]? = some (.cells (fls M ++ post).toArray 102 (0, 0))) (h1 : M.length ≤ cap) (h2 : cap ≤ maxLen) (h3 : post.length = (cap - M.length) * 3) (h4 : M.length ≤ 5864062014634) :
  q21 A p w [] pin 102 (.st uS) (M.map dE) (.slice (some ⟨g, 0, none⟩) M.length cap) := by
 have hl := q9e M
 refine .inr ⟨g, cap, _, by rw [List.length_map], hp, hh, by rw [List.length_map]; exact h1, h2, by rw [List.size_toArray, List.length_append, wU]; omega, by rw [List.length_map, lmU]; exact h4, fun i hi => ?_⟩
 have hi' : i < M.length := by simpa using hi
 refine ⟨fl3 M[i], fun j v hj => ?_, by simpa using zli (hM _ (List.getElem_mem hi')) _ _⟩
 rw [wU]
 have := z5c hi' hj
 exact qag hh (List.getElem?_append_left (by have := (List.getElem?_eq_some_iff.1 this).1; exact this) ▸ this)
end Ins
open Ins
def zj2 : List D → Option (List D)
 | [r, i, v] => if v.rs.length = 1 ∧ 0 ≤ i.int ∧ i.int ≤ r.rs.length ∧ r.rs.length + 1 ≤ 5864062014634 then some [.r (r.rs.take i.int.toNat ++ v.rs ++ r.rs.drop i.int.toNat)] else none
 | _ => none
theorem za6 {w : World} (h : Con A p w d (.row 102) [(0, pin)] [] cs) : ∃ l v, d = .r l ∧ cs = [v] ∧ q21 A p w [] pin 102 (.st uS) l v := by
 rcases h with ⟨E, te, l, v, e, hte, rfl, rfl, h⟩ | ⟨K, V, kt, vt, l, g, es, clock, e, -⟩
 ·injection e with e
  subst e
  obtain rfl := Option.some.inj (hte.symm.trans tyU)
  exact ⟨l, v, rfl, rfl, h⟩
 ·cases e
set_option maxHeartbeats 1000000 in
theorem q9u : FOk qk zj2 := FOk.of_at yu fun ds outs hw hg => by
 obtain ⟨d, r, rfl, hd, e, r', rfl, he, e2, r2, rfl, he2, hw⟩ := hw
 obtain rfl : r2 = [] := hw
 obtain ⟨l, te, rfl, hte, hl, -⟩ := hd.row
 obtain ⟨n, rfl, hn⟩ := wfI he
 obtain ⟨m, te2, rfl, hte2, hm, -⟩ := he2.row
 have hg' : (if m.length = 1 ∧ 0 ≤ n ∧ n ≤ l.length ∧ l.length + 1 ≤ 5864062014634 then some [.r (l.take n.toNat ++ m ++ l.drop n.toNat)] else none) = some outs := hg
 split at hg'
 case isFalse => cases hg'
 rename_i hc
 obtain ⟨h1, h2, h3, h4⟩ := hc
 injection hg' with hg'
 subst hg'
 clear hg
 by_cases hnl : n = l.length
 ·refine zev (fun F => [(ja qk.f qn, fun _ => some [.i (F.mx qn)]), (ja qk.f jb, fun _ => some [.i (F.mx jb)]), (ja qk.f q1q, fun _ => some [.i (F.mx q1q)]), (ja qk.f yb, fun _ => some [.i (F.mx yb)])]) q3o Tryz.f107 _ (fun F => .cons (q0v _ yu _ _) (.cons (q0v _ yu _ _) (.cons (q0v _ yu _ _) (.cons (q0v _ yu _ _) .nil)))) rfl rfl (by decide) (fun F => ?_) (fun F => rfl) (fun F hfl te => ?_)
  rotate_left
  ·rcases hfl te with h | ⟨k, j, hm, -⟩
   ·rw [h]; exact Nat.zero_le _
   ·rw [show qk.fl = [(999, 0, qn), (999, 1, jb), (999, 2, q1q), (999, 3, yb)] from rfl] at hm
    simp only [gnM] at hm
    rcases hm with ⟨-, -, rfl⟩ | ⟨-, -, rfl⟩ | ⟨-, -, rfl⟩ | ⟨-, -, rfl⟩ <;> exact Nat.le_refl _
  rw [q97 _ _ _ _ _ rfl]
  subst hnl
  simp [q2x, Tree.go, qg, X.says, X.ev, X.evs, evl, D.rs, D.int, D.tt, h1]
  omega
 ·intro A F p w vs us hfl hfo hpre hvl hargs
  have hF0 : F.mx (.st uS) = 0 := by
   rcases hfl (.st uS) with h | ⟨k, j, hm, -⟩
   ·exact h
   ·have h1 : (qk.fl.all fun e => !Ty.beq e.2.2 (.st uS)) = true := by kernel_rfl
    have h2 := List.all_eq_true.1 h1 _ hm
    rw [show Ty.beq (.st uS) (.st uS) = true from (Ty.beq_iff _ _).2 rfl] at h2
    cases h2
  obtain ⟨v0, r0, d0, ds0, e0, e00, ⟨cs0, hpk0, hc0⟩, v1, r1, d1, ds1, e1, e11, ⟨cs1, hpk1, hc1⟩, v2, r2, d2, ds2, e2', e22, ⟨cs2, hpk2, hc2⟩, hr⟩ := hargs
  obtain rfl : r2 = [] := hr.1
  subst e1 e2'
  obtain ⟨rfl, rfl⟩ := List.cons.inj e00
  obtain ⟨rfl, rfl⟩ := List.cons.inj e11
  obtain ⟨rfl, -⟩ := List.cons.inj e22
  clear e00 e11 e22 hr
  obtain ⟨rfl, rfl⟩ : vs = [v0, v1, v2] ∧ us = [] := by
   have hl3 : vs.length = 3 := hvl
   have hus : us.length = 0 := by
    have := congrArg List.length e0
    simp at this
    omega
   obtain rfl := List.length_eq_zero_iff.1 hus
   exact ⟨by simpa using e0, rfl⟩
  clear e0
  have hc0 : Con A p w (D.r l) (.row 102) [(0, 1)] [] cs0 := hc0
  have hc2 : Con A p w (D.r m) (.row 102) [(0, 33)] [] cs2 := hc2
  obtain ⟨l', u0, q0, rfl, ho0⟩ := za6 hc0
  obtain ⟨m', u2, q2, rfl, ho2⟩ := za6 hc2
  injection q0 with q0
  injection q2 with q2
  subst q0 q2
  obtain rfl : u0 = v0 := (List.cons.inj hpk0).1
  obtain rfl : u2 = v2 := (List.cons.inj hpk2).1
  obtain ⟨n', -, e, rfl⟩ := of_rdI hc1
  injection e with e
  subst e
  obtain rfl : Value.int .i64 n = v1 := (List.cons.inj hpk1).1
  obtain ⟨g, cap, L, post, rfl, hpg, hL, hLo, hg, hcap, hcm, hpost⟩ := z16 ho0 (by omega)
  obtain ⟨g2, cap2, M, post2, rfl, hpg2, hM, hMo, hg2, hcap2, -, -⟩ := z16 ho2 (by omega)
  have hne : g2 ≠ g := fun e => by
   subst e
   have := hpre.inj _ _ _ hpg2 hpg
   omega
  have hLl : l.length = L.length := by rw [hL, List.length_map]
  obtain ⟨x, rfl⟩ : ∃ x, M = [x] := by
   have : M.length = 1 := by rw [← h1, hM, List.length_map]
   exact List.length_eq_one_iff.1 this
  have hx : z30 x := hMo x (by simp)
  obtain ⟨i, rfl⟩ : ∃ i : Nat, n = i := ⟨n.toNat, by omega⟩
  have hi : i < L.length := by omega
  have hg2 : w.heap[g2]? = some (.cells (fl3 x ++ post2).toArray 102 (0, 0)) := by simpa [fls] using hg2
  have hout : l.take (i : Int).toNat ++ m ++ l.drop (i : Int).toNat = (L.take i ++ x :: L.drop i).map dE := by
   rw [hL, hM, Int.toNat_natCast]
   simp
  have hNo : ∀ y ∈ L.take i ++ x :: L.drop i, z30 y := fun y hy => by
   rcases List.mem_append.1 hy with h | h
   ·exact hLo y (List.mem_of_mem_take h)
   ·rcases List.mem_cons.1 h with rfl | h
    ·exact hx
    ·exact hLo y (List.mem_of_mem_drop h)
  have hNl : (L.take i ++ x :: L.drop i).length = L.length + 1 := by simp; omega
  have hlm : cap ≤ 9223372036854775807 := by unfold maxLen at hcm; omega
  have fin : ∀ (g' cap' : Nat) (post' : List Value) (w' : World), A g' → (pinned p g' ∨ w.heap.size ≤ g') → But (pinned p) w w' → Flo F w w' → w'.heap[g']? = some (.cells (fls (L.take i ++ x :: L.drop i) ++ post').toArray 102 (0, 0)) → L.length + 1 ≤ cap' → cap' ≤ maxLen → post'.length = (cap' - (L.length + 1)) * 3 →
    ∃ rs p', Ending.returned (.slice (some ⟨g', 0, none⟩) (L.length + 1) cap') = .returned (qfg rs) ∧ Bs A F w (pinned p) p' w' ∧ q9b A p' w' qk.rs qk.ar.length rs (List.take qk.rs.length [D.r (l.take (i : Int).toNat ++ m ++ l.drop (i : Int).toNat)]) ∧ q2v A p p' w' qk.all (List.drop qk.rs.length [D.r (l.take (i : Int).toNat ++ m ++ l.drop (i : Int).toNat)]) := by
   intro g' cap' post' w' hA hgp hb hflo hh a1 a2 a3
   have hp' : ∀ y b, (fun y => if y = 49 then some g' else none : qm) y = some b → y = 49 ∧ b = g' := fun y b h => by
    by_cases hy : y = 49
    ·subst hy
     exact ⟨rfl, (Option.some.inj h).symm⟩
    ·simp [hy] at h
   refine ⟨[.slice (some ⟨g', 0, none⟩) (L.length + 1) cap'], fun y => if y = 49 then some g' else none, rfl, ⟨?_, ?_, hb, ?_, hpre.new, ?_, ?_, hflo⟩, ?_, rfl⟩
   ·intro y z b h1 h2
    rw [(hp' y b h1).1, (hp' z b h2).1]
   ·intro y b h
    rw [(hp' y b h).2]
    exact qu hh
   ·intro y b h
    rw [(hp' y b h).2]
    exact hgp
   ·intro y b h
    rw [(hp' y b h).2]
    exact hA
   ·intro y b h
    rw [(hp' y b h).2]
    exact .inl ⟨_, _, hh⟩
   ·refine ⟨_, _, _, _, rfl, rfl, ⟨[.slice (some ⟨g', 0, none⟩) (L.length + 1) cap'], rfl, ?_⟩, rfl⟩
    refine .inl ⟨102, .st uS, _, _, rfl, tyU, rfl, rfl, ?_⟩
    rw [hout, ← hNl]
    exact zjc rfl hNo hh (by rw [hNl]; exact a1) a2 (by rw [hNl]; exact a3) (by rw [hNl]; omega)
  rw [h1, hLl]
  by_cases hroom : L.length + 1 ≤ cap
  ·refine Calls.mono (zai w g cap g2 cap2 i L.length L x post post2 102 102 rfl hi hroom hlm hne (by rw [hpost]; omega) hg hg2) ?_
   rintro e w' ⟨rfl, hb, hh⟩
   exact .inr (fin g cap _ w' (hpre.pa _ _ hpg) (.inl ⟨_, hpg⟩) (hb.mono fun k hk _ => hk ▸ ⟨_, hpg⟩) (hfo.same fun k hk h0 => hb.block k hk fun e => by
    subst e
    obtain ⟨cs, cs', T, te, f1, f2, f3, f4, -⟩ := hfo k h0
    rw [hg] at f2
    injection f2 with f2
    injection f2 with f5 f6
    subst f6
    obtain rfl := Option.some.inj (tyU.symm.trans f3)
    rw [hF0] at f4
    omega) hh hroom hcm (by rw [List.length_drop, hpost]; omega))
  ·have hcl : cap = L.length := by omega
   subst hcl
   refine Calls.mono (zc1 w g g2 cap2 i L.length L x post post2 102 102 rfl hi (by omega) hne hg hg2) ?_
   rintro e w' ⟨G, rest, rfl, hb, a1, a2, a3, hh⟩
   exact .inr (fin _ G _ w' (hpre.new _ (Nat.le_refl _)).1 (.inr (Nat.le_refl _)) hb.of_nil (hfo.same fun k hk _ => hb.block k hk id) hh a1 a2 a3)
end
def zjo : List D → Option (List D)
 | [x] => some [.b false]
 | _ => none
theorem qfq : FOk j1 zjo := qeu fun ds outs hw hg => by
 obtain ⟨d, r, rfl, hd, rfl⟩ := hw
 simp only [zjo, Option.some.injEq] at hg
 subst hg
 simp [q33, gnZ, gnT]
def zei : List D → Option (List D)
 | [x, v] => some [.i (if x.int < v.int then -1 else if v.int < x.int then 1 else 0)]
 | _ => none
theorem q6u : FOk z8 zei := qc1 qfq fun ds outs hw hg => by
 obtain ⟨d, r, rfl, hd, e, r', rfl, he, rfl⟩ := hw
 obtain ⟨x, rfl, hx⟩ := wfI hd
 obtain ⟨v, rfl, hv⟩ := wfI he
 simp only [zei, yv, Option.some.injEq] at hg
 subst hg
 simp only [q2b, gnZ, gnT, zjo]
 by_cases h1 : x < v <;> by_cases h2 : v < x <;> simp [h1, h2]
def zgi : List D → Option (List D)
 | [x, v] => some [.i (if (dV x).v < v.int then -1 else if v.int < (dV x).v then 1 else 0)]
 | _ => none
theorem qra : FOk q0j zgi := qmo q6u fun ds outs hw hg => by
 obtain ⟨d, r, rfl, hd, e, r', rfl, he, rfl⟩ := hw
 obtain ⟨x, rfl, hx, -⟩ := wfV hd
 obtain ⟨v, rfl, hv⟩ := wfI he
 simp only [zgi, qqg, yv, Option.some.injEq] at hg
 subst hg
 simp [q5z, gnZ, gnT, zei, zl0]
 rfl
theorem qtp : FOk q15 q4t := qsl fun ds outs hw hg => by
 obtain ⟨d, r, rfl, hd, rfl⟩ := hw
 obtain ⟨c, rfl, hc⟩ := wfC hd
 simp only [q4t, yw, Option.some.injEq] at hg
 subst hg
 simp only [q74, gnZ, gnT, q3m]
 by_cases h : c.t = 5 <;> simp [h]
 rfl
def zew : List D → Option (List D)
 | [l, v] => if SV (dVs l) then some [.i (loV (dVs l) v.int), .b (ofV (dVs l) v.int).isSome] else none
 | _ => none
theorem zl9 {n : Int} (h0 : 0 ≤ n) (h1 : n ≤ 9223372036854775807) : yz .u64 n = true := by
 simp [yz]
 omega
theorem z2q (a v : Int) {i1 : Decidable (a < v)} {i2 : Decidable (v < a)} : ((if a < v then (-1 : Int) else if v < a then 1 else 0) < 0) ↔ a < v := by
 split
 ·simp_all
 ·split <;> simp_all
theorem half (i j : Nat) : ((i : Int) + (j : Int)).fdiv (2 ^ (1 : Int).toNat) = ((i + j) / 2 : Nat) := by
 rw [show (2 : Int) ^ (1 : Int).toNat = 2 from rfl, Int.fdiv_eq_ediv_of_nonneg _ (by omega)]
 omega
theorem z5b {l : List Vc} (h : SV l) {i j : Nat} (hij : i ≤ j) (hj : j < l.length) : (l.getD i default).v ≤ (l.getD j default).v := by
 rcases Nat.lt_or_eq_of_le hij with h1 | rfl
 ·have h2 : i < l.length := by omega
  have := List.pairwise_iff_getElem.1 h.1 i j h2 hj h1
  simp only [List.getD_eq_getElem?_getD, List.getElem?_eq_getElem h2, List.getElem?_eq_getElem hj, Option.getD_some]
  omega
 ·exact Int.le_refl _
theorem q1l : FOk qp zew := q41 qra fun ds outs hw hg => by
 obtain ⟨d, r, rfl, hd, e, r', rfl, he, rfl⟩ := hw
 obtain ⟨l, rfl, hl, hok⟩ := zcp hd
 obtain ⟨v, rfl, hv⟩ := wfI he
 simp only [zew, q4z, yv, Option.ite_none_right_eq_some, Option.some.injEq] at hg
 obtain ⟨hs, rfl⟩ := hg
 rw [jc, jt]
 refine ⟨fun st => ∃ i j : Nat, i ≤ j ∧ j ≤ l.length ∧ st = [.i i, .i j] ∧ (∀ k, k < i → (l.getD k default).v < v) ∧ (∀ k, j ≤ k → k < l.length → v ≤ (l.getD k default).v), fun st => (st.getD 1 .u).int.toNat - (st.getD 0 .u).int.toNat, ⟨0, l.length, Nat.zero_le _, Nat.le_refl _, by simp [X.evs, X.ev, evl, D.rs], fun k hk => absurd hk (Nat.not_lt_zero _), fun k h1 h2 => by omega⟩, ?_⟩
 rintro st - ⟨i, j, hij, hj, rfl, h1, h2⟩
 rw [qj]
 refine ⟨fun hlt => ?_, fun hlt => ?_⟩
 ·simp only [gnZ, gnT] at hlt
  have hm : (i + j) / 2 < l.length := by omega
  simp only [gnZ, gnT, fnD, half, q7o eV hm, zgi, qqg, z2q]
  have hk : i + j ≤ 2 * 5864062014634 := by omega
  refine ⟨⟨⟨by omega, by omega⟩, zl9 (by omega) (by omega), zl9 (by omega) (by omega), by omega, by omega⟩, ⟨by omega, by omega⟩, fun hb => ⟨⟨by omega, by omega⟩, ?_⟩, fun hb => ?_⟩
  ·have hlv : (l.getD ((i + j) / 2) default).v < v := by first | exact (z2q _ _).1 hb | exact hb
   rw [q2p, if_pos rfl]
   refine ⟨⟨(i + j) / 2 + 1, j, by omega, hj, by simp, fun k hk => ?_, h2⟩, ?_⟩
   ·have := z5b hs (show k ≤ (i + j) / 2 by omega) hm
    omega
   ·simp [D.int]
    omega
  ·have hlv : v ≤ (l.getD ((i + j) / 2) default).v := Int.not_lt.1 fun q => by first | exact hb ((z2q _ _).2 q) | exact hb q
   rw [q2p, if_pos rfl]
   refine ⟨⟨i, (i + j) / 2, by omega, by omega, by simp, h1, fun k hk hkl => ?_⟩, ?_⟩
   ·have := z5b hs (show (i + j) / 2 ≤ k by omega) hkl
    omega
   ·simp [D.int]
    omega
 ·simp only [gnZ, gnT] at hlt
  have hl1 : loV l v = i := z91 (by omega) h1 fun k hk hkl => h2 k (by omega) hkl
  rw [z2v hs, hl1]
  by_cases hil : i < l.length
  ·simp only [gnZ, gnT, q7o eV hil, zgi, qqg]
   have e0 : (i : Int) < l.length := by omega
   have e1 : (0 : Int) ≤ i := by omega
   have hx : v ≤ (l.getD i default).v := h2 i (by omega) hil
   generalize l.getD i default = z at hx
   simp only [e0, e1, decide_true, Bool.not_true, Bool.false_or, Bool.true_and, true_and, hil]
   by_cases hz : z.v = v
   ·have h3 : ¬ z.v < v := by omega
    have h4 : ¬ v < z.v := by omega
    simp [hz]
   ·have h3 : ¬ z.v < v := by omega
    have h4 : v < z.v := by omega
    simp [hz, h3, h4]
  ·have e0 : ¬ (i : Int) < l.length := by omega
   simp [gnZ, gnT, e0, hil]
def eM (ms : List Sy) : List D := ms.map fun y => .a [eY y, .b true]
def dM (d : D) : List Sy := d.ms.map fun p => dY (p.fld 0)
theorem zht (ms : List Sy) : dM (.mp (eM ms)) = ms := by
 show (ms.map fun y => D.a [eY y, .b true]).map (fun p => dY (p.fld 0)) = ms
 rw [List.map_map]
 exact List.map_id'' (fun x => rfl) ms
theorem qzu (y : Sy) : ∀ ms : List Sy, mfind (eY y) (eM ms) = if y ∈ ms then some (.b true) else none
 | [] => by simp [eM, mfind]
 | z :: ms => by
  have ih := qzu y ms
  show (if eY z = eY y then some (D.b true) else mfind (eY y) (eM ms)) = _
  by_cases h : z = y
  ·subst h
   rw [if_pos rfl]
   simp
  ·have h' : ¬ y = z := fun e => h e.symm
   rw [if_neg (fun e => h (qy2 e)), ih]
   simp [h']
theorem z56 {y : Sy} : ∀ {ms : List Sy}, y ∉ ms → mset (eY y) (.b true) (eM ms) = eM (ms ++ [y])
 | [], _ => by simp [eM, mset]
 | z :: ms, h => by
  have h1 : ¬ z = y := fun e => h (by simp [e])
  have h2 : y ∉ ms := fun e => h (by simp [e])
  have ih := z56 h2
  show (if eY z = eY y then D.a [eY y, .b true] :: eM ms else D.a [eY z, .b true] :: mset (eY y) (.b true) (eM ms)) = _
  rw [if_neg (fun e => h1 (qy2 e)), ih]
  rfl
theorem qvn (ys : List Sy) : ∀ (l m : List Te) (ms : List Sy), q5e ys ms (l ++ m) = q5e ys (q5e ys ms l) m
 | [], m, ms => rfl
 | t :: l, m, ms => by rw [List.cons_append, q5e, q5e, qvn ys l m]
theorem qkc : ∀ (l m : List Te), q1t (l ++ m) = q1t l + q1t m
 | [], m => by simp [q1t]
 | t :: l, m => by rw [List.cons_append, q1t, q1t, qkc l m]; omega
theorem zk6 (ys ms : List Sy) (t : Te) : qct ys ms t = q5e ys (if t.k = 2 ∨ t.k = 3 then qpb ys ms ⟨t.s, (t.l.length : Nat)⟩ else ms) t.l := by
 cases t
 rw [qct]
 rfl
theorem zbb (t : Te) : q8y t = if t.k = 3 then 1 + t.l.length + q1t t.l else 0 := by
 cases t
 rw [q8y]
 rfl
theorem zil (h : q8v t = true) (h3 : ¬ t.k = 3) : t.l = [] := by
 obtain ⟨k, n, nm, l⟩ := t
 rcases qg5 h with h | h | h | h
 ·exact h.2.1
 ·exact h.2
 ·exact h.2.1
 ·exact (h3 h.1).elim
def qyq : List D → Option (List D)
 | [t, m, n, s] => if m = .mp (eM (dM m)) ∧ jv (dT t) = true ∧ 0 ≤ n.int ∧ n.int + q8y (dT t) ≤ 1099511627776 then some [.mp (eM (qct (dS s).ys (dM m) (dT t))), .i (n.int + q8y (dT t))] else none
 | _ => none
theorem qnu : FOk zf qyq := qb3 (m := mT) q8k fun N ih => qkn ih qfa fun ds outs hw hg => by
 obtain ⟨d, r, rfl, hd, e, r', rfl, he, f, r2, rfl, hf, q, r3, rfl, hq, rfl⟩ := hw
 obtain ⟨t, rfl, ht⟩ := wfT hd
 obtain ⟨n, rfl, hn⟩ := wfI hf
 obtain ⟨s, rfl, hs⟩ := wfS hq
 simp only [q5l, mT, qyq, List.getD_cons_zero, q1w, yv, zk, Option.ite_none_right_eq_some, Option.some.injEq] at hg
 obtain ⟨hsz, ⟨hm, hnd, h0, h1⟩, rfl⟩ := hg
 obtain ⟨ms, hms⟩ : ∃ ms, e = .mp (eM ms) := ⟨_, hm⟩
 subst hms
 rw [zht]
 have hl := ht.l
 have hnl := (q87 t).1 hnd
 have key : ∀ (x1 x2 : X) (ms0 : List Sy) (n0 : Int), x1.ev (evl (qb [(zf, q5l mT N qyq), (zx, qb1)]) [eT t, .mp (eM ms), .i n, eS s]) = .mp (eM ms0) → x2.ev (evl (qb [(zf, q5l mT N qyq), (zx, qb1)]) [eT t, .mp (eM ms), .i n, eS s]) = .i n0 → 0 ≤ n0 → n0 + q1t t.l = n + q8y t → q5e s.ys ms0 t.l = qct s.ys ms t → Tree.go (qb [(zf, q5l mT N qyq), (zx, qb1)]) (fun o => o = [.mp (eM (qct s.ys ms t)), .i (n + q8y t)]) (.loop 8 4 [(.lit (.i 0)), x1, x2] (.br (.lt (.tok 4) (.len (.fld (.tok 0) 3))) (.need [(.le (.lit (.i 0)) (.tok 4)), (.lt (.tok 4) (.len (.fld (.tok 0) 3)))] (.need [(.ok 0 [(.get (.fld (.tok 0) 3) (.tok 4)), (.tok 5), (.tok 6), (.tok 3)])] (.need [(.rng .i64 (.add (.tok 4) (.lit (.i 1))))] (.back 8 [(.add (.tok 4) (.lit (.i 1))), (.call 0 0 [(.get (.fld (.tok 0) 3) (.tok 4)), (.tok 5), (.tok 6), (.tok 3)]), (.call 0 1 [(.get (.fld (.tok 0) 3) (.tok 4)), (.tok 5), (.tok 6), (.tok 3)])])))) (.leaf [(.tok 5), (.tok 6)]))) [eT t, .mp (eM ms), .i n, eS s] fun _ _ => False := by
  intro x1 x2 ms0 n0 hx1 hx2 hn0 hc hv
  rw [jt]
  refine ⟨fun st => ∃ k : Nat, k ≤ t.l.length ∧ st = [.i k, .mp (eM (q5e s.ys ms0 (t.l.take k))), .i (n0 + q1t (t.l.take k))], fun st => t.l.length - (st.getD 0 .u).int.toNat, ⟨0, Nat.zero_le _, by simp only [X.evs, hx1, hx2, X.ev]; simp [q5e, q1t]⟩, ?_⟩
  rintro st - ⟨k, hk, rfl⟩
  rw [qj]
  refine ⟨fun hlt => ?_, fun hlt => ?_⟩
  ·simp only [gnZ, gnT] at hlt
   have hkl : k < t.l.length := by omega
   have ha := qgb hkl
   have hsn : q1t (t.l.take (k + 1)) = q1t (t.l.take k) + q8y (t.l.getD k default) := by
    rw [qae hkl, qkc]
    simp [q1t]
   have hle : q1t (t.l.take (k + 1)) ≤ q1t t.l := by
    have := qkc (t.l.take (k + 1)) (t.l.drop (k + 1))
    rw [List.take_append_drop] at this
    omega
   have hvs : q5e s.ys ms0 (t.l.take (k + 1)) = qct s.ys (q5e s.ys ms0 (t.l.take k)) (t.l.getD k default) := by
    rw [qae hkl, qvn]
    rfl
   have hq : (jv (t.l.getD k default) = true ∧ 0 ≤ n0 + (q1t (t.l.take k) : Int) ∧ n0 + (q1t (t.l.take k) : Int) + q8y (t.l.getD k default) ≤ 1099511627776) := ⟨hnl.2 k hkl, by omega, by omega⟩
   simp only [gnZ, gnT, qr5 hkl, q5l, mT, qyq, if_pos hq, if_pos (show szT (t.l.getD k default) < N by omega), zht]
   refine ⟨⟨by omega, by omega⟩, ⟨by omega, by omega⟩, ?_⟩
   rw [q2p, if_pos rfl]
   refine ⟨⟨k + 1, by omega, ?_⟩, ?_⟩
   ·rw [hvs, hsn]
    simp
    omega
   ·simp [D.int]
    omega
  ·simp only [gnZ, gnT] at hlt ⊢
   have : k = t.l.length := by omega
   subst this
   rw [List.take_length, hv, hc]
 rw [q54]
 have ey : D.a [.s t.s, .i (t.l.length : Nat)] = eY ⟨t.s, (t.l.length : Nat)⟩ := rfl
 simp only [gnZ, gnT, qb1, fnD, ey, z6x, qzu]
 have hc3 : t.k = 3 → q8y t = 1 + t.l.length + q1t t.l := fun h => by rw [zbb, if_pos h]
 have hc0 : ¬ t.k = 3 → q8y t = 0 ∧ q1t t.l = 0 := fun h => by
  rw [zbb, if_neg h, zil hnl.1 h]
  exact ⟨rfl, rfl⟩
 have hvm := zk6 s.ys ms t
 have hput : ∀ ms0, ms0 = qpb s.ys ms ⟨t.s, (t.l.length : Nat)⟩ → (decide (t.k = 2) || decide (t.k = 3)) = true → q5e s.ys ms0 t.l = qct s.ys ms t := fun ms0 e h => by
  rw [hvm, e, if_pos (by simpa using h)]
 have hM : (X.fn 2 [.tok 1, .mk [.fld (.tok 0) 2, .len (.fld (.tok 0) 3)], .lit (.b true)]).ev (evl (qb [(zf, q5l mT N qyq), (zx, qb1)]) [eT t, .mp (eM ms), .i n, eS s]) = .mp (mset (eY ⟨t.s, (t.l.length : Nat)⟩) (.b true) (eM ms)) := by
  simp only [gnZ, gnT, fnD, ey, z6x]
 have hN : (X.add (.tok 2) (.add (.len (.fld (.tok 0) 3)) (.lit (.i 1)))).ev (evl (qb [(zf, q5l mT N qyq), (zx, qb1)]) [eT t, .mp (eM ms), .i n, eS s]) = .i (n + ((t.l.length : Nat) + 1)) := by
  simp only [gnZ, gnT]
 have hno : ((!((if (⟨t.s, (t.l.length : Nat)⟩ : Sy) ∈ ms then some (D.b true) else none).getD (D.b false)).tt && decide (qd1 s t.s (t.l.length : Nat) < 0)) = true) ↔ ¬ ((⟨t.s, (t.l.length : Nat)⟩ : Sy) ∈ ms ∨ (⟨t.s, (t.l.length : Nat)⟩ : Sy) ∈ s.ys) := by
  rw [← qdv (s := s) (nm := t.s) (ar := (t.l.length : Nat))]
  by_cases hm : (⟨t.s, (t.l.length : Nat)⟩ : Sy) ∈ ms
  ·simp [hm, D.tt]
  ·simp [hm, D.tt]
 refine ⟨fun h23 => ⟨fun hc => ?_, fun hc => ?_⟩, fun h23 => ?_⟩
 ·have hc' := hno.1 hc
  have e1 : qpb s.ys ms ⟨t.s, (t.l.length : Nat)⟩ = ms ++ [⟨t.s, (t.l.length : Nat)⟩] := by rw [qpb, if_neg hc']
  rw [z56 fun q => hc' (.inl q), ← e1] at hM
  exact ⟨fun h3 => ⟨⟨⟨by omega, by omega⟩, by omega, by have := hc3 h3; omega⟩, key _ _ _ _ hM hN (by omega) (by have := hc3 h3; omega) (hput _ rfl h23)⟩, fun h3 => key _ _ _ _ hM rfl h0 (by have := hc0 h3; omega) (hput _ rfl h23)⟩
 ·have hc' : (⟨t.s, (t.l.length : Nat)⟩ : Sy) ∈ ms ∨ (⟨t.s, (t.l.length : Nat)⟩ : Sy) ∈ s.ys := Classical.byContradiction fun q => by
   rw [hno.2 q] at hc
   cases hc
  have e1 : ms = qpb s.ys ms ⟨t.s, (t.l.length : Nat)⟩ := by rw [qpb, if_pos hc']
  exact ⟨fun h3 => ⟨⟨⟨by omega, by omega⟩, by omega, by have := hc3 h3; omega⟩, key _ _ _ _ rfl hN (by omega) (by have := hc3 h3; omega) (hput _ e1 h23)⟩, fun h3 => key _ _ _ _ rfl rfl h0 (by have := hc0 h3; omega) (hput _ e1 h23)⟩
 ·have h3 : ¬ t.k = 3 := fun q => by simp [q] at h23
  have h4 : ¬ (t.k = 2 ∨ t.k = 3) := fun q => by
   rcases q with q | q <;> simp [q] at h23
  rw [if_neg h4] at hvm
  exact ⟨fun q => (h3 q).elim, fun _ => key _ _ _ _ rfl rfl h0 (by have := hc0 h3; omega) hvm.symm⟩
theorem qab : FOk zs (gCl 5864062014634) := q9w fun ds outs hw hg => by
 obtain ⟨d, r, rfl, hd, rfl⟩ := hw
 obtain ⟨l, te, rfl, -⟩ := hd.row
 simp only [gCl, z3o, Option.ite_none_right_eq_some, Option.some.injEq] at hg
 obtain ⟨h1, rfl⟩ := hg
 exact zb8 h1 rfl
def vAt (s : So) (l : List Vc) (k : Nat) : Bool := decide (0 ≤ (l.getD k default).v) && (decide ((l.getD k default).v ≤ 1099511627776) && (decide (k = 0 ∨ (l.getD (k - 1) default).v < (l.getD k default).v) && vcP s (l.getD k default).c))
def vvP (s : So) (l : List Vc) : Bool := (List.range l.length).all (vAt s l)
theorem qdw {l : List Vc} {i : Nat} (h : i < l.length) : l.getD i default = l[i] := by
 rw [List.getD_eq_getElem?_getD, List.getElem?_eq_getElem h]
 rfl
theorem z57 {s : So} {l : List Vc} : vvP s l = true ↔ SV l ∧ ∀ x ∈ l, vcP s x.c = true := by
 unfold vvP
 rw [List.all_eq_true]
 constructor
 ·intro h
  have h' : ∀ k, k < l.length → vAt s l k = true := fun k hk => h k (List.mem_range.2 hk)
  have step : ∀ j i, i < j → j < l.length → (l.getD i default).v < (l.getD j default).v := by
   intro j
   induction j with
   | zero => intro i hi; omega
   | succ j ih =>
    intro i hi hj
    have h1 := h' (j + 1) hj
    simp only [vAt, Bool.and_eq_true, decide_eq_true_eq] at h1
    have h2 : (l.getD j default).v < (l.getD (j + 1) default).v := by
     rcases h1.2.2.1 with h | h
     ·omega
     ·exact h
    rcases Nat.lt_or_eq_of_le (Nat.le_of_lt_succ hi) with h3 | rfl
    ·have := ih i h3 (by omega)
     omega
    ·exact h2
  refine ⟨⟨List.pairwise_iff_getElem.2 fun i j hi hj hij => ?_, fun x hx => ?_⟩, fun x hx => ?_⟩
  ·have := step j i hij hj
   rw [qdw hi, qdw hj] at this
   exact this
  ·obtain ⟨i, hi, rfl⟩ := List.mem_iff_getElem.1 hx
   have h1 := h' i hi
   simp only [vAt, Bool.and_eq_true, decide_eq_true_eq, qdw hi] at h1
   exact ⟨h1.1, h1.2.1⟩
  ·obtain ⟨i, hi, rfl⟩ := List.mem_iff_getElem.1 hx
   have h1 := h' i hi
   simp only [vAt, Bool.and_eq_true, decide_eq_true_eq, qdw hi] at h1
   exact h1.2.2.2
 ·rintro ⟨hs, hc⟩ k hk
  have hk := List.mem_range.1 hk
  have hm := qik hk
  simp only [vAt, Bool.and_eq_true, decide_eq_true_eq]
  refine ⟨(hs.2 _ hm).1, (hs.2 _ hm).2, ?_, hc _ hm⟩
  rcases Nat.eq_zero_or_pos k with h | h
  ·exact .inl h
  ·right
   have h1 : k - 1 < l.length := by omega
   rw [qdw h1, qdw hk]
   exact List.pairwise_iff_getElem.1 hs.1 (k - 1) k h1 hk (by omega)
def gVV (f : So → List Vc → Bool) : List D → Option (List D)
 | [s, l] => some [.b (f (dS s) (dVs l))]
 | _ => none
theorem qg3 : FOk j2 (gVV vvP) := qev yy fun ds outs hw hg => by
 obtain ⟨d, r, rfl, hd, e, r', rfl, he, rfl⟩ := hw
 obtain ⟨s, rfl, hs⟩ := wfS hd
 obtain ⟨l, rfl, hl, hok⟩ := zcp he
 simp only [gVV, zk, q4z, Option.some.injEq] at hg
 subst hg
 rw [q2t, jt]
 refine ⟨fun st => ∃ k : Nat, k ≤ l.length ∧ st = [.b false, .i k] ∧ ∀ j, j < k → vAt s l j = true, fun st => l.length - (st.getD 1 .u).int.toNat, ⟨0, Nat.zero_le _, rfl, fun j hj => absurd hj (Nat.not_lt_zero _)⟩, ?_⟩
 rintro st - ⟨k, hk, rfl, hP⟩
 rw [qj]
 refine ⟨fun hlt => ?_, fun hlt => ?_⟩
 ·simp only [gnZ, gnT] at hlt
  have hkl : k < l.length := by omega
  have hvb := (hok _ (qik hkl)).1
  by_cases h0 : k = 0
  ·subst h0
   have e1 : decide ((0 : Int) < ((0 : Nat) : Int)) = false := by decide
   simp only [gnZ, gnT, q7o eV hkl, zl0, zj0, qb8, e1, Bool.and_false, Bool.false_and, Bool.not_false, Bool.true_or, Bool.or_false, true_and, and_self]
   refine ⟨⟨by omega, by omega⟩, fun hb => ?_, fun hb => ⟨⟨by omega, by omega⟩, ?_⟩⟩
   ·have hv : vAt s l 0 = false := by
     simp only [vAt, true_or, decide_true, Bool.true_and]
     generalize l.getD 0 default = z at hb ⊢
     cases hvc : vcP s z.c
     ·simp
     ·simp [hvc] at hb ⊢
      omega
    rw [vvP, qb4 hkl hv]
   ·have hv : vAt s l 0 = true := by
     simp only [vAt, true_or, decide_true, Bool.true_and]
     generalize l.getD 0 default = z at hb ⊢
     cases hvc : vcP s z.c
     ·simp [hvc] at hb
     ·simp [hvc] at hb ⊢
      omega
    rw [q2p, if_pos rfl]
    exact ⟨⟨1, by omega, by simp, q2i hP hv⟩, by simp [D.int]; omega⟩
  ·have hk1 : ((k : Int) - 1) = ((k - 1 : Nat) : Int) := by omega
   have hkp : k - 1 < l.length := by omega
   have hp : (0 : Int) < k := by omega
   have hr1 : yz .i64 ((k - 1 : Nat) : Int) = true := by simp [yz]; omega
   have hr2 : (0 : Int) ≤ ((k - 1 : Nat) : Int) := by omega
   have hr3 : ((k - 1 : Nat) : Int) < l.length := by omega
   simp only [gnZ, gnT, hk1, hp, hr1, hr2, hr3, q7o eV hkl, q7o eV hkp, zl0, zj0, qb8, Bool.and_true, Bool.true_and]
   refine ⟨⟨by omega, by omega⟩, fun hb => ?_, fun hb => ⟨⟨by omega, by omega⟩, ?_⟩⟩
   ·have hv : vAt s l k = false := by
     simp only [vAt, h0, false_or]
     generalize l.getD k default = z at hb ⊢
     cases hvc : vcP s z.c
     ·simp
     ·simp [hvc] at hb ⊢
      omega
    rw [vvP, qb4 hkl hv]
   ·have hv : vAt s l k = true := by
     simp only [vAt, h0, false_or]
     generalize l.getD k default = z at hb ⊢
     cases hvc : vcP s z.c
     ·simp [hvc] at hb
     ·simp [hvc] at hb ⊢
      omega
    rw [q2p, if_pos rfl]
    exact ⟨⟨k + 1, by omega, by simp, q2i hP hv⟩, by simp [D.int]; omega⟩
 ·simp only [gnZ, gnT] at hlt ⊢
  have : k = l.length := by omega
  subst this
  simp only [vvP, qdr hP]
def ql9 (s : So) (t : Te) (l : List Vc) : Bool := decide ((qmb t l : Int) ≤ s.mx - s.cs.length) && decide (((qct s.ys [] t).length : Int) ≤ 1048576 - s.ys.length)
def z58 : List D → Option (List D)
 | [s, t, l] => if jv (dT t) = true ∧ szT (dT t) ≤ 2000 ∧ SV (dVs l) ∧ 0 ≤ (dS s).mx ∧ (dS s).cs.length ≤ 1048576 ∧ (dS s).ys.length ≤ 1048576 then some [.b (ql9 (dS s) (dT t) (dVs l))] else none
 | _ => none
theorem qu1 : FOk q1b z58 := qqj qnu q1l fun ds outs hw hg => by
 obtain ⟨d, r, rfl, hd, e, r', rfl, he, f, r2, rfl, hf, rfl⟩ := hw
 obtain ⟨s, rfl, hs⟩ := wfS hd
 obtain ⟨t, rfl, ht⟩ := wfT he
 obtain ⟨l, rfl, hl, hok⟩ := zcp hf
 simp only [z58, zk, q1w, q4z, Option.ite_none_right_eq_some, Option.some.injEq] at hg
 obtain ⟨⟨hnd, hsz, hsv, hmx, hcl, hyl⟩, rfl⟩ := hg
 have hc := z5l t
 have hv := z0k t s.ys []
 have hc0 : jv t = true ∧ (0 : Int) ≤ 0 ∧ 0 + (q8y t : Int) ≤ 1099511627776 := ⟨hnd, by omega, by omega⟩
 have hc1 : jv t = true ∧ (0 : Int) ≤ 1 ∧ 1 + (q8y t : Int) ≤ 1099511627776 := ⟨hnd, by omega, by omega⟩
 have hme : (D.mp [] = D.mp (eM [])) = True := eq_true rfl
 have hmd : dM (D.mp []) = [] := rfl
 simp only [q7i, gnZ, gnT, qyq, zew, q4z, if_pos hsv, fnD, z6x, hmd, hme, if_pos hc0, if_pos hc1, ql9]
 have hlen : (eM (qct s.ys [] t)).length = (qct s.ys [] t).length := List.length_map _
 have hr1 : yz .i64 ((qct s.ys [] t).length : Int) = true := by simp [yz] at hv ⊢; omega
 have hr2 : yz .i64 (1048576 - (s.ys.length : Int)) = true := by simp [yz]; omega
 have hx := hs.mx
 simp only [hlen, hr1, hr2, Bool.or_true, true_and]
 refine ⟨fun h0 => ⟨fun hn => ⟨⟨by omega, by omega⟩, ⟨by omega, by omega⟩, ?_⟩, fun hn => ⟨⟨by omega, by omega⟩, ?_⟩⟩, fun h0 => ⟨⟨by omega, by omega⟩, ?_⟩⟩
 ·have e : ofV l t.n = none := by simpa using hn
  rw [qmb, if_pos ⟨h0, e⟩, Nat.add_comm]
  rfl
 ·have e : ¬ ofV l t.n = none := fun q => by rw [q] at hn; cases hn
  rw [qmb, if_neg fun q => e q.2]
  simp
 ·rw [qmb, if_neg fun q => h0 q.1]
  simp
def z1s (s : So) (all : List Vc) (t : Te) (a : Int) : Bool := jv t && (decide (SV all) && (decide ((s.cs.length : Int) + ((if a < 0 then qmb t all else q8y t : Nat) : Int) ≤ s.mx) && (decide (s.mx ≤ 1048576) && (decide ((q9f s.ys t).length ≤ 1048576) && decide (a ≤ 1048576)))))
def zg9 : List D → Option (List D)
 | [t, a, all, s] => if z1s (dS s) (dVs all) (dT t) a.int then some [eC (q70 (dS s, dVs all) (dT t) a.int).1, .r ((q70 (dS s, dVs all) (dT t) a.int).2.2.map eV), eS (q70 (dS s, dVs all) (dT t) a.int).2.1] else none
 | _ => none
theorem zgw {s : So} (h : qfk nm ar = false) (hl : (qkv s.ys ⟨nm, ar⟩).length ≤ 1048576) : zcv [eS s, .s nm, .i ar] = some [.i (q81 s nm ar).1, .i 0, eS (q81 s nm ar).2] := by
 simp only [zcv, zk, q2s, yv, h, q81]
 by_cases h0 : 0 ≤ qd1 s nm ar
 ·simp [h0]
 ·have h1 : ¬ (⟨nm, ar⟩ : Sy) ∈ s.ys := fun q => h0 (qdv.2 q)
  rw [qkv, if_neg h1] at hl
  have h2 : ¬ 1048576 ≤ s.ys.length := by simp at hl; omega
  simp [h0, h2]
theorem zi9 (s : So) (i : Nat) (c : Ce) : D.a ((eS s).fs.set 0 (.r ((s.cs.map eC).set i (eC c)))) = eS (z76 s i c) := by
 rw [← List.map_set]
 rfl
theorem zgo (s : So) (l : List Ce) : D.a ((eS s).fs.set 0 (.r (s.cs.map eC ++ l.map eC))) = eS { s with cs := s.cs ++ l } := by
 rw [← List.map_append]
 rfl
theorem qpo : FOk z4 zg9 := qb3 (m := mT) q0o fun N ih => qmz ih qm4 q1l qtp qcm q9u fun ds outs hw hg => by
 obtain ⟨d, r, rfl, hd, e, r', rfl, he, f, r2, rfl, hf, q, r3, rfl, hq, rfl⟩ := hw
 obtain ⟨t, rfl, ht⟩ := wfT hd
 obtain ⟨a, rfl, ha⟩ := wfI he
 obtain ⟨all, rfl, hal, hok⟩ := zcp hf
 obtain ⟨s, rfl, hs⟩ := wfS hq
 simp only [q5l, mT, zg9, List.getD_cons_zero, q1w, yv, zk, q4z, Option.ite_none_right_eq_some, Option.some.injEq] at hg
 obtain ⟨hsz, hA, rfl⟩ := hg
 simp only [z1s, Bool.and_eq_true, decide_eq_true_eq] at hA
 obtain ⟨hnd, hsv, hcs, hmx, hys, hamx⟩ := hA
 have hnl := (q87 t).1 hnd
 obtain ⟨k, n, nm, l⟩ := t
 have hlo := z2b n all
 have hlen := SV.len hsv
 rcases qg5 hnl.1 with ⟨rfl, rfl, h1, h2⟩ | ⟨rfl, rfl⟩ | ⟨rfl, rfl, h1⟩ | ⟨rfl, h1, h2, h3⟩
 ·have hins : ∀ c : Ce, zj2 [.r (all.map eV), .i (loV all n), .r [eV ⟨n, c⟩]] = some [.r ((qlz all n c).map eV)] := fun c => by
   simp only [zj2, q6i, yv, List.length_map, List.length_singleton, Int.toNat_natCast]
   rw [if_pos ⟨trivial, by omega, by omega, by omega⟩, qz4]
   simp [List.map_take, List.map_drop]
  have hof := z2v (v := n) hsv
  rw [z8t]
  simp only [q1f, gnZ, gnT, Te.k, Te.n, Te.s, Te.l, q4t, qfd, zgx, zew, q4z, if_pos hsv, hins]
  refine ⟨fun h => absurd h (by decide), fun _ => ⟨fun h => absurd h (by decide), fun _ => ⟨fun _ => ⟨fun ho => ?_, fun ho => ⟨fun ha0 => ?_, fun ha0 => ?_⟩⟩, fun h => (by cases h)⟩⟩⟩
  ·split at hof
   ·rename_i hq
    simp only [q7o eV hq.1, zj0, hof, yw]
    exact ⟨⟨by omega, by omega⟩, trivial⟩
   ·rw [hof] at ho
    cases ho
  ·have e : ofV all n = none := by simpa using ho
   have hn : qmb (.mk 0 n nm []) all = 1 := by
    rw [qmb, qs3 (by decide), if_pos ⟨rfl, e⟩]
   rw [if_pos ha0, hn] at hcs
   have h4 : ¬ s.mx ≤ s.cs.length := by omega
   have h5 : s.cs.length < 8796093021952 := by omega
   simp only [qz3, zk, h4, h5, decide_false, decide_true, Bool.false_eq_true, if_false, if_true, Option.getD_some, Option.isSome_some, List.getD_cons_zero, List.getD_cons_succ, zgx, hins, e, ha0, true_and]
   exact ⟨⟨by omega, by omega, by omega, by omega⟩, trivial⟩
  ·have e : ofV all n = none := by simpa using ho
   simp only [e, if_neg ha0]
   done
 ·rw [zbo]
  simp [q1f, gnZ, gnT, Te.k, Te.n, Te.s, Te.l, qfd]
  done
 ·rw [zaj] at hys
  have hb : qfk nm 0 = false := by simp [qfk]; omega
  rw [z8o]
  simp [q1f, gnZ, gnT, Te.k, Te.n, Te.s, Te.l, qfd, zgw hb hys]
  done
 ·rw [z8u] at hys
  have hb : qfk nm (l.length : Nat) = false := by simp [qfk]; omega
  have hys0 : (qkv s.ys ⟨nm, (l.length : Nat)⟩).length ≤ 1048576 := Nat.le_trans (qau l _) hys
  have hl8 : (l.length : Int) ≤ 16777216 := by omega
  obtain ⟨y1, y2, y3, y4, y5, y6⟩ := qwn s nm (l.length : Nat)
  have hcn : (s.cs.length : Int) + ((1 + l.length + q1t l : Nat) : Int) ≤ s.mx := by
   rw [qwt (by decide), zh7] at hcs
   split at hcs <;> exact hcs
  rw [z8l, ← y1]
  rw [← y1] at hcn
  rw [← y3] at hys
  have hS := zgw (s := s) hb hys0
  have yl : s.ys.length ≤ (q81 s nm (l.length : Nat)).2.ys.length := by
   rw [y3]
   unfold qkv
   split <;> simp
  have yc : s.cs.length = (q81 s nm (l.length : Nat)).2.cs.length := by rw [y1]
  generalize q81 s nm (l.length : Nat) = S at hS hys hcn y2 y4 y5 yl yc ⊢
  have hz : List.replicate l.length (eC ⟨0, 0⟩) = (List.replicate l.length (⟨0, 0⟩ : Ce)).map eC := by rw [List.map_replicate]
  simp only [q1f, gnZ, gnT, Te.k, Te.n, Te.s, Te.l, qfd, hS, z35, Int.toNat_natCast]
  refine ⟨fun h => absurd h (by decide), fun _ => ⟨fun h => absurd h (by decide), fun _ => ⟨fun h => absurd h (by decide), fun _ => ?_⟩⟩⟩
  refine ⟨⟨by omega, by omega, by omega, by omega⟩, ⟨by omega, by omega⟩, ⟨by omega, by omega, by simp; omega, by simp; omega⟩, ?_⟩
  rw [jt]
  refine ⟨fun st => ∃ (k : Nat) (al : List Vc) (s' : So), k ≤ l.length ∧ st = [.i k, .r (al.map eV), eS s'] ∧ SV al ∧ s'.mx = s.mx ∧ (s'.cs.length : Int) + (q1t (l.drop k) : Int) ≤ s.mx ∧ S.2.cs.length + 1 + l.length ≤ s'.cs.length ∧ (q3u s'.ys (l.drop k)).length ≤ 1048576 ∧ (s.ys.length ≤ s'.ys.length ∧ s'.tr = s.tr ∧ s'.wk = s.wk) ∧ qbz (s', al) (l.drop k) (S.2.cs.length + 1 + k) = qbz ({ S.2 with cs := S.2.cs ++ (⟨4, S.1⟩ :: List.replicate l.length ⟨0, 0⟩) }, all) l (S.2.cs.length + 1), fun st => l.length - (st.getD 0 .u).int.toNat, ⟨0, all, { S.2 with cs := S.2.cs ++ (⟨4, S.1⟩ :: List.replicate l.length ⟨0, 0⟩) }, Nat.zero_le _, ?_, hsv, y2, by simp; omega, by simp; omega, hys, ⟨yl, y4, y5⟩, rfl⟩, ?_⟩
  ·simp only [X.evs, gnZ, gnT, Te.k, Te.n, Te.s, Te.l, qfd, hS, z35, Int.toNat_natCast, hz, zgo]
   simp [eS, D.fs]
  rintro st - ⟨k, al, s', hk, rfl, hsv', hmx', hc', hb', hy', ⟨hyl, htr', hwk'⟩, hP⟩
  rw [qj]
  refine ⟨fun hlt => ?_, fun hlt => ?_⟩
  ·simp only [gnZ, gnT, Te.l] at hlt
   have hkl : k < l.length := by omega
   have ha := qgb (t := .mk 3 n nm l) hkl
   simp only [Te.l] at ha
   have hto : ((S.2.cs.length : Int) + 1 + (k : Int)) = ((S.2.cs.length + 1 + k : Nat) : Int) := by omega
   have hdr := qup hkl
   rw [hdr, q1t] at hc'
   rw [hdr, q3u] at hy'
   rw [hdr, qbz] at hP
   have hsy := Nat.le_trans (qau (l.drop (k + 1)) (q9f s'.ys (l.getD k default))) hy'
   have hnk := hnl.2 k hkl
   simp only [Te.l] at hnk
   have hQ : z1s s' al (l.getD k default) ((S.2.cs.length + 1 + k : Nat) : Int) = true := by
    have h0 : ¬ (((S.2.cs.length + 1 + k : Nat) : Int) < 0) := by omega
    simp only [z1s, if_neg h0, Bool.and_eq_true, decide_eq_true_eq]
    exact ⟨hnk, hsv', by omega, by omega, hsy, by omega⟩
   obtain ⟨g1, g2, g3, g4⟩ := qse (l.getD k default) (s', al) ((S.2.cs.length + 1 + k : Nat) : Int) hnk hsv'
   rw [if_neg (by omega)] at g1
   simp only [gnZ, gnT, Te.k, Te.n, Te.s, Te.l, hS, qr5 hkl, hto, q5l, mT, zg9, q4z, if_pos hQ, if_pos (show szT (l.getD k default) < N by omega)]
   generalize q70 (s', al) (l.getD k default) ((S.2.cs.length + 1 + k : Nat) : Int) = R at g1 g2 g3 g4 hP ⊢
   simp only at g1
   simp only [gnZ, gnT, Int.toNat_natCast, zi9]
   refine ⟨⟨by omega, by omega⟩, ⟨⟨by omega, by omega⟩, by omega, by omega⟩, ⟨by omega, by omega, by rw [htr']; exact Int.le_refl _, by rw [hwk']; exact Int.le_refl _⟩, ⟨by omega, by omega, by omega⟩, ⟨by omega, by omega⟩, ?_⟩
   rw [q2p, if_pos rfl]
   refine ⟨⟨k + 1, R.2.2, z76 R.2.1 (S.2.cs.length + 1 + k) R.1, by omega, by simp, g4, g3.1.trans hmx', ?_, ?_, ?_, ?_, hP⟩, ?_⟩
   ·rw [qrp, g1]
    omega
   ·rw [qrp, g1]
    omega
   ·show (q3u R.2.1.ys _).length ≤ _
    rw [g2]
    exact hy'
   ·refine ⟨?_, g3.2.1.trans htr', g3.2.2.1.trans hwk'⟩
    show s.ys.length ≤ R.2.1.ys.length
    rw [g2]
    exact Nat.le_trans hyl (qiv _ _)
   ·simp [D.int]
    omega
  ·simp only [gnZ, gnT, Te.l] at hlt
   have : k = l.length := by omega
   subst this
   rw [List.drop_length, qbz] at hP
   simp only [gnZ, gnT, Te.k, Te.n, Te.s, Te.l, qfd, hS, ← hP]
def z03 (s : So) (t : Te) (l : List Vc) : Ce × List Vc × Int × So :=
 if q2w t && vvP s l then (if ql9 s t l then ((q70 (s, l) t (-1)).1, (q70 (s, l) t (-1)).2.2, 0, (q70 (s, l) t (-1)).2.1) else (⟨0, 0⟩, [], 13, s)) else (⟨0, 0⟩, [], 1, s)
def z7t : List D → Option (List D)
 | [s, t, l] => if y9 (dS s) then some [eC (z03 (dS s) (dT t) (dVs l)).1, .r ((z03 (dS s) (dT t) (dVs l)).2.1.map eV), .i (z03 (dS s) (dT t) (dVs l)).2.2.1, eS (z03 (dS s) (dT t) (dVs l)).2.2.2] else none
 | _ => none
theorem zc5 {s : So} (h : y9 s = true) : 1 ≤ s.mx ∧ s.mx ≤ 1048576 ∧ (s.cs.length : Int) ≤ s.mx ∧ s.ys.length ≤ 1048576 := by
 have h := qyl h
 simp only [qf5, qbv, Bool.and_eq_true, decide_eq_true_eq] at h
 omega
theorem z11 {s : So} {l : List Vc} (hs : y9 s = true) (ht : q2w t = true) (hl : vvP s l = true) (hr : ql9 s t l = true) : z1s s l t (-1) = true := by
 obtain ⟨h1, h2, h3, h4⟩ := zc5 hs
 simp only [q2w, Bool.and_eq_true, decide_eq_true_eq] at ht
 simp only [ql9, Bool.and_eq_true, decide_eq_true_eq] at hr
 have hv := z9k t s.ys []
 rw [List.append_nil] at hv
 have hv' := congrArg List.length hv
 rw [List.length_append] at hv'
 simp only [z1s, Bool.and_eq_true, decide_eq_true_eq]
 exact ⟨ht.2, (z57.1 hl).1, by rw [if_pos (by decide)]; omega, h2, by omega, by decide⟩
theorem qi7 : FOk zn z7t := qt2 qpo qa4 qg3 qu1 qab fun ds outs hw hg => by
 obtain ⟨d, r, rfl, hd, e, r', rfl, he, f, r2, rfl, hf, rfl⟩ := hw
 obtain ⟨s, rfl, hs⟩ := wfS hd
 obtain ⟨t, rfl, ht⟩ := wfT he
 obtain ⟨l, rfl, hl, hok⟩ := zcp hf
 simp only [z7t, zk, q1w, q4z, Option.ite_none_right_eq_some, Option.some.injEq] at hg
 obtain ⟨hv, rfl⟩ := hg
 obtain ⟨h1, h2, h3, h4⟩ := zc5 hv
 have hz : D.a [.i 0, .i 0] = eC ⟨0, 0⟩ := rfl
 have hR : ql9 s t l = true → q2w t = true → vvP s l = true → z1s s l t (-1) = true := fun a b c => z11 hv b c a
 have hgr : q2w t = true → vvP s l = true → z58 [eS s, eT t, .r (l.map eV)] = some [.b (ql9 s t l)] := fun a b => by
  simp only [q2w, Bool.and_eq_true, decide_eq_true_eq] at a
  simp only [z58, zk, q1w, q4z]
  rw [if_pos ⟨a.2, a.1, (z57.1 b).1, by omega, by omega, h4⟩]
 simp only [q8n, gnZ, gnT, gTb, gVV, gCl, z3o, hl, hz, q4z, z03]
 cases hvt : q2w t
 ·simp
 cases hvl : vvP s l
 ·simp
 simp only [hgr hvt hvl]
 cases hrm : ql9 s t l
 ·simp [D.tt]
 simp [zg9, zk, q1w, q4z, D.int, D.tt, hR hrm hvt hvl]
theorem zcx {s : So} {n : Int} (h : 0 ≤ q2e s n) : inS s n = true := by
 cases hi : inS s n with
 | true => rfl
 | false => rw [qaf hi] at h; omega
def z2h (s : So) : Nat → Ce → Ce
 | 0, c => c
 | k + 1, c => if c.t = 0 ∧ 0 ≤ q2e s c.n ∧ cellAt s c.n ≠ c then z2h s k (cellAt s c.n) else c
def q1o (s : So) (c : Ce) : Ce := if vcP s c then z2h s s.cs.length c else ⟨0, 0⟩
def qcq : List D → Option (List D)
 | [s, c] => some [eC (q1o (dS s) (dC c))]
 | _ => none
theorem q47 : FOk zb qcq := qby yy q80 fun ds outs hw hg => by
 obtain ⟨d, r, rfl, hd, e, r', rfl, he, rfl⟩ := hw
 obtain ⟨s, rfl, hs⟩ := wfS hd
 obtain ⟨c, rfl, hc⟩ := wfC he
 simp only [qcq, zk, yw, Option.some.injEq] at hg
 subst hg
 have hl := hs.cs.1
 simp only [q3h, gnZ, qb8, z8z]
 refine ⟨fun h => ?_, fun h => ?_⟩
 ·simp only [q1o, show vcP s c = false by simpa using h]
  rfl
 have hvc' : vcP s c = true := by simpa using h
 rw [jt]
 refine ⟨fun st => ∃ (k : Nat) (x : Ce), k ≤ s.cs.length ∧ st = [.i k, eC x] ∧ z2h s (s.cs.length - k) x = q1o s c, fun st => s.cs.length - (st.getD 0 .u).int.toNat, ⟨0, c, Nat.zero_le _, rfl, by rw [Nat.sub_zero, q1o, if_pos hvc']⟩, ?_⟩
 rintro st - ⟨k, x, hk, rfl, hP⟩
 rw [qj]
 refine ⟨fun hlt => ?_, fun hlt => ?_⟩
 ·simp only [gnZ] at hlt
  have hkl : k < s.cs.length := by omega
  obtain ⟨n, hn⟩ : ∃ n, s.cs.length - k = n + 1 := ⟨s.cs.length - k - 1, by omega⟩
  rw [hn] at hP
  unfold z2h at hP
  have hn2 : s.cs.length - (k + 1) = n := by omega
  by_cases h0 : x.t = 0
  ·by_cases ht : 0 ≤ q2e s x.n
   ·have hin := zcx ht
    have h3 := z5.1 hin
    have ht' : ¬ q2e s x.n < 0 := by omega
    simp only [gnZ, q82, ze hin, h0, ht', h3.1, h3.2]
    refine ⟨fun hx => ?_, fun hx => ?_⟩
    ·have hx' : cellAt s x.n = x := by simpa using hx
     rw [if_neg (fun q => q.2.2 hx')] at hP
     rw [hP]
    ·have hx' : cellAt s x.n ≠ x := by simpa using hx
     rw [if_pos ⟨h0, ht, hx'⟩] at hP
     refine ⟨⟨by omega, by omega⟩, ?_⟩
     rw [q2p, if_pos rfl]
     refine ⟨⟨k + 1, cellAt s x.n, by omega, by simp, by rw [hn2]; exact hP⟩, ?_⟩
     simp [D.int]
     omega
   ·have ht' : q2e s x.n < 0 := by omega
    rw [if_neg (fun q => ht q.2.1)] at hP
    simp only [gnZ, q82, h0, ht', ← hP]
    simp
  ·rw [if_neg (fun q => h0 q.1)] at hP
   simp only [gnZ, q82, h0, ← hP]
   simp
 ·simp only [gnZ] at hlt ⊢
  have : k = s.cs.length := by omega
  subst this
  rw [Nat.sub_self] at hP
  rw [← hP, z2h]
theorem qgk : FOk jm (qa7 inS) := z02 fun ds outs hw hg => by
 obtain ⟨d, r, rfl, hd, e, r', rfl, he, rfl⟩ := hw
 obtain ⟨s, rfl, hs⟩ := wfS hd
 obtain ⟨i, rfl, hi⟩ := wfI he
 simp only [qa7, zk, yv, Option.some.injEq] at hg
 subst hg
 simp only [qat, gnZ, inS]
theorem qbd : FOk q0b q4t := quc fun ds outs hw hg => by
 obtain ⟨d, r, rfl, hd, rfl⟩ := hw
 obtain ⟨c, rfl, hc⟩ := wfC hd
 simp only [q4t, yw, Option.some.injEq] at hg
 subst hg
 simp only [q92, gnZ, q3m, zhh]
 exact ⟨fun h => by rw [if_pos h], fun h => by rw [if_neg h]⟩
def qf9 (s : So) (c : Ce) (nm : ByteArray) : Bool := decide (c.t = 3) && (inS s c.n && (inS s (c.n + 2) && (decide ((cellAt s c.n).t = 4) && (decide (0 ≤ (cellAt s c.n).n) && (decide ((cellAt s c.n).n < s.ys.length) && decide (s.ys.getD (cellAt s c.n).n.toNat default = ⟨nm, 2⟩))))))
def z51 : List D → Option (List D)
 | [s, c, nm] => if qf9 (dS s) (dC c) nm.str then some [eC (cellAt (dS s) ((dC c).n + 1)), eC (cellAt (dS s) ((dC c).n + 2)), .b true] else some [eC ⟨0, 0⟩, eC ⟨0, 0⟩, .b false]
 | _ => none
theorem q28 {s : So} : qf9 s c nm = true ↔ c.t = 3 ∧ inS s c.n = true ∧ inS s (c.n + 2) = true ∧ (cellAt s c.n).t = 4 ∧ 0 ≤ (cellAt s c.n).n ∧ (cellAt s c.n).n < s.ys.length ∧ s.ys.getD (cellAt s c.n).n.toNat default = ⟨nm, 2⟩ := by
 simp only [qf9, Bool.and_eq_true, decide_eq_true_eq]
theorem zme {s : So} (h0 : inS s i = true) (h2 : inS s (i + 2) = true) : inS s (i + 1) = true := by
 have := z5.1 h0
 have := z5.1 h2
 exact z5.2 ⟨by omega, by omega⟩
theorem qxb : FOk q3j z51 := que qgk fun ds outs hw hg => by
 obtain ⟨d, r, rfl, hd, e, r', rfl, he, f, r2, rfl, hf, rfl⟩ := hw
 obtain ⟨s, rfl, hs⟩ := wfS hd
 obtain ⟨c, rfl, hc⟩ := wfC he
 obtain ⟨nm, rfl, hn⟩ := hf.str
 simp only [z51, zk, yw, q2s] at hg
 have ey : D.a [.s nm, .i 2] = eY ⟨nm, 2⟩ := rfl
 have hl := hs.cs.1
 have no : qf9 s c nm = false → outs = [eC ⟨0, 0⟩, eC ⟨0, 0⟩, .b false] := fun hb => by
  rw [if_neg (by rw [hb]; decide)] at hg
  exact (Option.some.inj hg).symm
 have no' : ¬ qf9 s c nm = true → outs = [eC ⟨0, 0⟩, eC ⟨0, 0⟩, .b false] := fun hb => no (Bool.eq_false_iff.2 hb)
 simp only [q98, gnZ, qa7, ey, qfd]
 by_cases h3 : c.t = 3
 ·cases h0 : inS s c.n with
  | false =>
   rw [no' fun q => by have := (q28.1 q).2.1; rw [h0] at this; cases this]
   simp [h3]
  | true =>
   have i0 := z5.1 h0
   have hr : i64 (c.n + 2) := ⟨by omega, by omega⟩
   have hrb := q52.2 hr
   cases h2 : inS s (c.n + 2) with
   | false =>
    rw [no' fun q => by have := (q28.1 q).2.2.1; rw [h2] at this; cases this]
    simp [h3, hr.1, hr.2, hrb]
   | true =>
    have i2 := z5.1 h2
    have h1 := zme h0 h2
    have i1 := z5.1 h1
    have hr1 : i64 (c.n + 1) := ⟨by omega, by omega⟩
    have hrb1 := q52.2 hr1
    by_cases h4 : (cellAt s c.n).t = 4
    ·by_cases hy : 0 ≤ (cellAt s c.n).n ∧ (cellAt s c.n).n < s.ys.length
     ·have ha := qwo hy
      have hy' : ¬ (cellAt s c.n).n < 0 := by omega
      have hy2 : ¬ (s.ys.length : Int) ≤ (cellAt s c.n).n := by omega
      by_cases hq : s.ys.getD (cellAt s c.n).n.toNat default = ⟨nm, 2⟩
      ·rw [if_pos (q28.2 ⟨h3, h0, h2, h4, hy.1, hy.2, hq⟩)] at hg
       have := Option.some.inj hg
       subst this
       simp only [ze h0, ze h1, ze h2, qnd, qtt, ha, qv4, h3, h4, hq, yv]
       simp [hr.1, hr.2, hr1.1, hr1.2, i0, i1, i2, hy, hrb, hrb1, hy', hy2]
      ·rw [no' fun q => hq (q28.1 q).2.2.2.2.2.2]
       simp only [ze h0, ze h1, ze h2, qnd, qtt, ha, qv4, h3, h4, hq, yv]
       simp [hr.1, hr.2, hr1.1, hr1.2, i0, i1, i2, hy, hrb, hrb1, hy', hy2]
     ·rw [no' fun q => hy ⟨(q28.1 q).2.2.2.2.1, (q28.1 q).2.2.2.2.2.1⟩]
      have hy' : ((cellAt s c.n).n < 0 ∨ (s.ys.length : Int) ≤ (cellAt s c.n).n) = True := eq_true (by omega)
      simp only [ze h0, qnd, qtt, h3, h4, yv]
      simp [hr.1, hr.2, i0, hrb]
      omega
    ·rw [no' fun q => h4 (q28.1 q).2.2.2.1]
     simp only [ze h0, qnd, qtt, h3, h4, yv]
     simp [hr.1, hr.2, i0, h4, hrb]
 ·rw [no' fun q => h3 (q28.1 q).1]
  simp [h3]
def qdb (s : So) (c : Ce) : Bool := decide (c.t = 2) && (decide (0 ≤ c.n) && decide (c.n < s.ys.length))
def qwy : List D → Option (List D)
 | [s, c] => if qdb (dS s) (dC c) then some [.s ((dS s).ys.getD (dC c).n.toNat default).name, .b true] else some [.s ⟨#[]⟩, .b false]
 | _ => none
theorem qxj : FOk q3i qwy := qtx fun ds outs hw hg => by
 obtain ⟨d, r, rfl, hd, e, r', rfl, he, rfl⟩ := hw
 obtain ⟨s, rfl, hs⟩ := wfS hd
 obtain ⟨c, rfl, hc⟩ := wfC he
 simp only [qwy, zk, yw] at hg
 simp only [q8c, gnZ]
 by_cases h2 : c.t = 2
 ·by_cases hy : 0 ≤ c.n ∧ c.n < s.ys.length
  ·have hb : qdb s c = true := by simp [qdb, h2, hy]
   rw [if_pos hb] at hg
   have := Option.some.inj hg
   subst this
   have hy' : ¬ c.n < 0 := by omega
   have hy2 : ¬ (s.ys.length : Int) ≤ c.n := by omega
   simp [h2, qwo hy, z88, hy, hy', hy2]
  ·have hb : qdb s c = false := by
    simp only [qdb, Bool.and_eq_false_iff, decide_eq_false_iff_not]
    by_cases h5 : 0 ≤ c.n
    ·exact .inr (.inr fun q => hy ⟨h5, q⟩)
    ·exact .inr (.inl h5)
   rw [if_neg (by rw [hb]; decide)] at hg
   have := Option.some.inj hg
   subst this
   have hy' : c.n < 0 ∨ (s.ys.length : Int) ≤ c.n := by omega
   simp [h2, hy']
   omega
 ·have hb : qdb s c = false := by simp [qdb, h2]
  rw [if_neg (by rw [hb]; decide)] at hg
  have := Option.some.inj hg
  subst this
  simp [h2]
def q50 (s : So) (v : Ce) : Ce × Bool := if vcP s v then (if (q1o s v).t = 0 then (q1o s v, inS s (q1o s v).n) else if (q1o s v).t = 5 then (q1o s v, inS s (q1o s v).n && inS s ((q1o s v).n + 2)) else (⟨0, 0⟩, false)) else (⟨0, 0⟩, false)
def qf8 : List D → Option (List D)
 | [s, v] => some [eC (q50 (dS s) (dC v)).1, .b (q50 (dS s) (dC v)).2]
 | _ => none
theorem q1i : FOk qs qf8 := qij yy q47 qgk fun ds outs hw hg => by
 obtain ⟨d, r, rfl, hd, e, r', rfl, he, rfl⟩ := hw
 obtain ⟨s, rfl, hs⟩ := wfS hd
 obtain ⟨v, rfl, hv⟩ := wfC he
 simp only [qf8, zk, yw, Option.some.injEq] at hg
 subst hg
 have hl := hs.cs.1
 have ez : D.a [.i 0, .i 0] = eC ⟨0, 0⟩ := rfl
 simp only [q4c, gnZ, qb8, qcq, qa7, ez, q50]
 cases hb : vcP s v with
 | false => simp
 | true =>
  by_cases h0 : (q1o s v).t = 0
  ·simp [h0]
  ·by_cases h5 : (q1o s v).t = 5
   ·cases hi : inS s (q1o s v).n with
    | false => simp [h5]
    | true =>
     have := z5.1 hi
     have hrb : yz .i64 ((q1o s v).n + 2) = true := q52.2 ⟨by omega, by omega⟩
     simp [h5, hrb]
   ·simp [h0, h5]
def zm5 (s : So) (a : Int) : Bool := decide ((cellAt s (a + 2)).t = 1) || (decide ((cellAt s (a + 2)).t = 2) || (decide ((cellAt s (a + 2)).t = 3) || decide (cellAt s (a + 2) = ⟨0, a + 2⟩)))
def z62 : List D → Option (List D)
 | [s, d] => if inS (dS s) ((dC d).n + 2) then some [.b (zm5 (dS s) (dC d).n)] else none
 | _ => none
theorem qaa : FOk zp z62 := qif fun ds outs hw hg => by
 obtain ⟨d, r, rfl, hd, e, r', rfl, he, rfl⟩ := hw
 obtain ⟨s, rfl, hs⟩ := wfS hd
 obtain ⟨c, rfl, hc⟩ := wfC he
 simp only [z62, zk, yw, Option.ite_none_right_eq_some, Option.some.injEq] at hg
 obtain ⟨hin, rfl⟩ := hg
 have h1 := z5.1 hin
 have hl := hs.cs.1
 have hr : i64 (c.n + 2) := ⟨by omega, by omega⟩
 have e0 : D.a [.i 0, .i (c.n + 2)] = eC ⟨0, c.n + 2⟩ := rfl
 simp only [q4h, gnZ, ze hin, h1, hr, e0, z4e, zm5]
 by_cases c1 : (cellAt s (c.n + 2)).t = 1
 ·simp [c1]
 ·by_cases c2 : (cellAt s (c.n + 2)).t = 2
  ·simp [c2]
  ·by_cases c3 : (cellAt s (c.n + 2)).t = 3
   ·simp [c3]
   ·simp [c1, c2, c3]
structure At where
 name : ByteArray
 val : Ce
instance : Inhabited At := ⟨⟨⟨#[]⟩, default⟩⟩
def eA (a : At) : D := .a [.s a.name, eC a.val]
def dA (d : D) : At := ⟨(d.fld 0).str, dC (d.fld 1)⟩
theorem z8q (a : At) : dA (eA a) = a := rfl
theorem znl (a : At) : (eA a).fld 0 = .s a.name := rfl
theorem zod (a : At) : (eA a).fld 1 = eC a.val := rfl
def At.ok (a : At) : Prop := a.name.size ≤ LIM ∧ a.val.ok
def stN (T : TypeId) : TypeId := match qo T with
 | some (.st S) => S
 | _ => 0
abbrev aS : TypeId := stN 66
theorem tyA : qo 66 = some (.st aS) := by kernel_rfl
theorem flA : flds aS = some [.str, qn] := by kernel_rfl
theorem lmA : LM (.st aS) = 4398046510976 := by kernel_rfl
theorem wfA (h : Wf d (.st aS)) : ∃ a, d = eA a ∧ a.ok := by
 obtain ⟨ds, rfl, hl⟩ := h.st_of flA
 obtain ⟨a, b, rfl, ha, hb⟩ := qzw hl
 obtain ⟨x, rfl, hx⟩ := ha.str
 obtain ⟨y, rfl, hy⟩ := wfC hb
 exact ⟨⟨x, y⟩, rfl, hx, hy⟩
theorem zlc (h : Wf d (.row 66)) : ∃ l : List At, d = .r (l.map eA) ∧ l.length ≤ 4398046510976 ∧ ∀ a ∈ l, a.ok := by
 obtain ⟨l, rfl, h1, h2⟩ := h.row_of tyA
 obtain ⟨m, rfl, h3⟩ := qb7 (e := eA) (P := At.ok) fun x hx => wfA (h2 x hx)
 rw [lmA, List.length_map] at h1
 exact ⟨m, rfl, h1, h3⟩
def dAs (d : D) : List At := d.rs.map dA
theorem qoe (l : List At) : dAs (.r (l.map eA)) = l := map_id' z8q l
def qay (l : List At) (nm : ByteArray) : Int := match l.findIdx? fun a => decide (a.name = nm) with
 | some i => i
 | none => -1
def zit : List D → Option (List D)
 | [a, nm] => some [.b (decide ((dA a).name = nm.str))]
 | _ => none
theorem qrh : FOk q0g zit := qnm fun ds outs hw hg => by
 obtain ⟨d, r, rfl, hd, e, r', rfl, he, rfl⟩ := hw
 obtain ⟨a, rfl, ha⟩ := wfA hd
 obtain ⟨nm, rfl, hn⟩ := he.str
 simp only [zit, z8q, q2s, Option.some.injEq] at hg
 subst hg
 simp only [q5r, gnZ, znl]
 congr 2
def qho : List D → Option (List D)
 | [l, nm] => some [.i (qay (dAs l) nm.str)]
 | _ => none
theorem q71 : FOk z6 qho := q6b qrh fun ds outs hw hg => by
 obtain ⟨d, r, rfl, hd, e, r', rfl, he, rfl⟩ := hw
 obtain ⟨l, rfl, hl, hlo⟩ := zlc hd
 obtain ⟨nm, rfl, hn⟩ := he.str
 simp only [qho, qoe, q2s, Option.some.injEq] at hg
 subst hg
 rw [q01, jt]
 refine ⟨fun st => ∃ k : Nat, k ≤ l.length ∧ st = [.i 0, .i k] ∧ ∀ j, j < k → (l.getD j default).name ≠ nm, fun st => l.length - (st.getD 1 .u).int.toNat, ⟨0, Nat.zero_le _, rfl, fun j hj => absurd hj (Nat.not_lt_zero _)⟩, ?_⟩
 rintro st - ⟨k, hk, rfl, hP⟩
 rw [qj]
 refine ⟨fun hlt => ?_, fun hlt => ?_⟩
 ·simp only [gnZ] at hlt
  have hkl : k < l.length := by omega
  simp only [gnZ, q7o eA hkl, zit, z8q]
  refine ⟨⟨by omega, by omega⟩, fun hx => ?_, fun hx => ⟨⟨by omega, by omega⟩, ?_⟩⟩
  ·have hf : (l.findIdx? fun a => decide (a.name = nm)) = some k := by
    rw [List.findIdx?_eq_some_iff_getElem]
    refine ⟨hkl, ?_, fun j hj => ?_⟩
    ·have e : l.getD k default = l[k] := by rw [List.getD_eq_getElem?_getD, List.getElem?_eq_getElem hkl]; rfl
     rw [e] at hx
     simpa using hx
    ·have := hP j hj
     rw [List.getD_eq_getElem?_getD, List.getElem?_eq_getElem (by omega)] at this
     simpa using this
   rw [qay, hf]
  ·rw [q2p, if_pos rfl]
   refine ⟨⟨k + 1, by omega, by simp, q2i hP (by simpa using hx)⟩, ?_⟩
   simp [D.int]
   omega
 ·simp only [gnZ] at hlt ⊢
  have : k = l.length := by omega
  subst this
  have hf : (l.findIdx? fun a => decide (a.name = nm)) = none := by
   rw [List.findIdx?_eq_none_iff]
   intro a ha
   obtain ⟨j, hj, rfl⟩ := List.getElem_of_mem ha
   have := hP j hj
   rw [List.getD_eq_getElem?_getD, List.getElem?_eq_getElem hj] at this
   simpa using this
  rw [qay, hf]
theorem q7v : FOk y7 qho := qsu q71 fun ds outs hw hg => by
 obtain ⟨d, r, rfl, hd, e, r', rfl, he, rfl⟩ := hw
 obtain ⟨l, rfl, hl, hlo⟩ := zlc hd
 obtain ⟨nm, rfl, hn⟩ := he.str
 simp only [qho, qoe, q2s, Option.some.injEq] at hg
 subst hg
 simp only [q8w, gnZ, qho, qoe]
def qso (s : So) (a : Int) (c : Ce) : Int × So := if qbs vcP q8x s a c then (0, zds s a c) else (1, s)
def z4y (s : So) : Bool := decide (s.tr.length < 5864062014634) && decide (s.wk.length < 3518437208780)
theorem zdi {s : So} (hr : z4y s = true) (a : Int) (c : Ce) : z1p vcP q8x [eS s, .i a, eC c] = some [.i (qso s a c).1, eS (qso s a c).2] := by
 simp only [z4y, Bool.and_eq_true, decide_eq_true_eq] at hr
 simp only [z1p, zk, yw, yv, qso, decide_eq_true hr.1, if_true]
 split <;> rfl
theorem zfo (s : So) (a : Int) (c : Ce) : (qso s a c).2.wk = s.wk := by
 unfold qso
 split <;> rfl
def z6k (s : So) (x c : Ce) : Int × So := if (qso s x.n c).1 = 0 then (0, { (qso s x.n c).2 with wk := s.wk ++ [⟨(cellAt s (x.n + 1)).n, cellAt s (x.n + 2), q3m c⟩] }) else qso s x.n c
def zhg (s : So) (x : Ce) : Bool := inS s (x.n + 1) && (inS s (x.n + 2) && z4y s)
def zct : List D → Option (List D)
 | [s, x, c] => if zhg (dS s) (dC x) then some [.i (z6k (dS s) (dC x) (dC c)).1, eS (z6k (dS s) (dC x) (dC c)).2] else none
 | _ => none
theorem zix (s : So) (l : List Wk) (w : Wk) : D.a ((eS s).fs.set 3 (.r (l.map eW ++ [eW w]))) = eS { s with wk := l ++ [w] } := by simp [eS, D.fs]
theorem zf1 : FOk q08 zct := qf1 qbd q59 fun ds outs hw hg => by
 obtain ⟨d, r, rfl, hd, e, r', rfl, he, f, r2, rfl, hf, rfl⟩ := hw
 obtain ⟨s, rfl, hs⟩ := wfS hd
 obtain ⟨x, rfl, hx⟩ := wfC he
 obtain ⟨c, rfl, hc⟩ := wfC hf
 simp only [zct, zk, yw, Option.ite_none_right_eq_some, Option.some.injEq] at hg
 obtain ⟨hq, rfl⟩ := hg
 simp only [zhg, Bool.and_eq_true] at hq
 obtain ⟨h1, h2, hr⟩ := hq
 have i1 := z5.1 h1
 have i2 := z5.1 h2
 have hl := hs.cs.1
 have rb1 : yz .i64 (x.n + 1) = true := q52.2 ⟨by omega, by omega⟩
 have rb2 : yz .i64 (x.n + 2) = true := q52.2 ⟨by omega, by omega⟩
 have hr' := hr
 simp only [z4y, Bool.and_eq_true, decide_eq_true_eq] at hr'
 have hwk := zfo s x.n c
 have hle : s.wk.length + 1 ≤ 3518437208780 := by omega
 have ew : D.a [.i (cellAt s (x.n + 1)).n, eC (cellAt s (x.n + 2)), eC (q3m c)] = eW ⟨(cellAt s (x.n + 1)).n, cellAt s (x.n + 2), q3m c⟩ := rfl
 have b1 : -9223372036854775808 ≤ x.n + 1 ∧ x.n + 1 ≤ 9223372036854775807 := ⟨by omega, by omega⟩
 have b2 : -9223372036854775808 ≤ x.n + 2 ∧ x.n + 2 ≤ 9223372036854775807 := ⟨by omega, by omega⟩
 simp only [q51, gnZ, q4t, zdi hr, ze h1, ze h2, ew, b1, b2, i1, i2, hwk, zix]
 refine ⟨fun h => ?_, fun h => ?_⟩
 ·have h0 : ¬ (qso s x.n c).1 = 0 := by simpa using h
  rw [z6k, if_neg h0]
 ·have h0 : (qso s x.n c).1 = 0 := by simpa using h
  rw [z6k, if_pos h0]
  exact ⟨by omega, rfl⟩
def orI : List Int → Int
 | [] => 0
 | x :: l => if x = 0 then orI l else x
def gOr : List D → Option (List D)
 | [l] => some [.i (orI (l.rs.map D.int))]
 | _ => none
theorem z0n : ∀ {l : List Int} {k : Nat}, k < l.length → (∀ j, j < k → l.getD j 0 = 0) → orI l = orI (l.drop k)
 | [], k, h, _ => by simp at h
 | x :: l, 0, h, _ => rfl
 | x :: l, k + 1, h, hz => by
  have h0 : x = 0 := by simpa using hz 0 (by omega)
  rw [orI, if_pos h0, List.drop_succ_cons]
  exact z0n (by simpa using h) fun j hj => by simpa using hz (j + 1) (by omega)
theorem qzn : ∀ {l : List Int}, (∀ j, j < l.length → l.getD j 0 = 0) → orI l = 0
 | [], _ => rfl
 | x :: l, h => by
  have h0 : x = 0 := by simpa using h 0 (by simp)
  rw [orI, if_pos h0]
  exact qzn fun j hj => by simpa using h (j + 1) (by simpa using hj)
theorem zoi {E : TypeId} (hE : qo E = some (.int .i64)) (h : Wf d (.row E)) : ∃ l : List Int, d = .r (l.map D.i) ∧ l.length ≤ LM (.int .i64) ∧ ∀ x ∈ l, i64 x := by
 obtain ⟨l, rfl, h1, h2⟩ := h.row_of hE
 obtain ⟨m, rfl, h3⟩ := qb7 (e := D.i) (P := i64) fun x hx => wfI (h2 x hx)
 rw [List.length_map] at h1
 exact ⟨m, rfl, h1, h3⟩
theorem lmI : LM (.int .i64) = 17592186043904 := by kernel_rfl
theorem zn0 {l : List Int} {k : Nat} (h : k < l.length) : (D.r (l.map D.i)).get (k : Int) = .i (l.getD k 0) := by
 show (l.map D.i).getD (k : Int).toNat .u = _
 simp [List.getD_eq_getElem?_getD, h]
theorem qsx : FOk q0d gOr := qov fun ds outs hw hg => by
 obtain ⟨d, r, rfl, hd, rfl⟩ := hw
 obtain ⟨l, rfl, hl, hlo⟩ := zoi rfl hd
 rw [lmI] at hl
 have hm : (l.map D.i).map D.int = l := by
  rw [List.map_map]
  have : D.int ∘ D.i = id := funext fun _ => rfl
  rw [this, List.map_id]
 simp only [gOr, q6i, hm, Option.some.injEq] at hg
 subst hg
 rw [q7f, jt]
 refine ⟨fun st => ∃ k : Nat, k ≤ l.length ∧ st = [.i 0, .i k] ∧ ∀ j, j < k → l.getD j 0 = 0, fun st => l.length - (st.getD 1 .u).int.toNat, ⟨0, Nat.zero_le _, rfl, fun j hj => absurd hj (Nat.not_lt_zero _)⟩, ?_⟩
 rintro st - ⟨k, hk, rfl, hP⟩
 rw [qj]
 refine ⟨fun hlt => ?_, fun hlt => ?_⟩
 ·simp only [gnZ] at hlt
  have hkl : k < l.length := by omega
  have hd : orI l = orI (l.drop k) := z0n hkl hP
  have he : l.drop k = l.getD k 0 :: l.drop (k + 1) := by
   rw [List.drop_eq_getElem_cons hkl]
   simp [List.getD_eq_getElem?_getD, hkl]
  simp only [gnZ, zn0 hkl]
  refine ⟨⟨by omega, by omega⟩, fun hx => ?_, fun hx => ⟨⟨by omega, by omega⟩, ?_⟩⟩
  ·have hx' : ¬ l.getD k 0 = 0 := by simpa using hx
   rw [hd, he, orI, if_neg hx']
  ·have hx' : l.getD k 0 = 0 := by simpa using hx
   rw [q2p, if_pos rfl]
   refine ⟨⟨k + 1, by omega, by simp, q2i hP hx'⟩, ?_⟩
   simp [D.int]
   omega
 ·simp only [gnZ] at hlt ⊢
  have : k = l.length := by omega
  subst this
  rw [qzn hP]
variable {P : Program} {Q : Exit → Act → World → Prop} {ann : Ann} {R : List D → Prop} {K : Act → World → Prop} {kill : List Nat}
section
theorem z1i {F : Fence} {n : Nat} {o : Oper} {a : Act} {next next' : Act → World → Prop} {Q' : Exit → Act → World → Prop} {r : Result Next} (hn : ∀ a w, next a w → next' a w) (hp : ∀ ch a w, Q (.panic ch) a w → Q' (.panic ch) a w) (ho : LetsOut Q → LetsOut Q') (h : o.uponIn F n P a next Q r) : o.uponIn F n P a next' Q' r := by
 cases r with
 | ok x w' =>
  cases x with
  | value v => exact hn _ _ h
  | skip => exact hn _ _ h
  | defer d => exact hn _ _ h
  | enter f args =>
   refine ⟨h.1, h.2.1, fun cs hr => ?_⟩
   obtain ⟨e, w2, fr, hR, rest⟩ := h.2.2 cs hr
   refine ⟨e, w2, fr, ?_, rest⟩
   cases e with
   | returned v => exact hn _ _ hR
   | panicked ch => exact hp _ _ _ hR
   | outgrown => exact ho hR
  | row row args => exact ⟨h.1, h.2.mono fun v w2 hR => hn _ _ hR⟩
  | round l f tmps assign body =>
   refine ⟨h.1, h.2.mono fun e w2 hR => ?_⟩
   cases e with
   | returned v => exact hn _ _ hR
   | panicked ch => exact hp _ _ _ hR
   | outgrown => exact ho hR
  | _ => exact h.elim
 | halt x w' =>
  cases x with
  | panic v => exact hp _ _ _ h
  | _ => exact h.elim
theorem qb2 {F : Fence} {n : Nat} {ops : Array Oper} : ∀ (l m : List Oper) {a : Act} {w : World}, wpListIn F n P ops (Exit.then (wpListIn F n P ops Q m) Q) l a w → wpListIn F n P ops Q (l ++ m) a w
 | [], m, a, w, h => h
 | o :: l, m, a, w, h => by
  show wpListIn F n P ops Q (o :: (l ++ m)) a w
  unfold wpListIn at h ⊢
  split
  ·rename_i hw
   rw [if_pos hw] at h
   exact ⟨h.1, z1i (fun a w h => qb2 l m h) (fun ch a w h => h) (fun h => h) h.2⟩
  ·rename_i hw
   rw [if_neg hw] at h
   exact ⟨h.1, qb2 l m h.2⟩
def q9r (F : Fence) (n : Nat) (P : Program) (Q : Exit → Act → World → Prop) : List Code → (Act → World → Prop) → Act → World → Prop
 | [], K => K
 | x :: xs, K => fun a w => x.wpIn F n P (Exit.then (q9r F n P Q xs K) Q) a w
def seqs : List Code → Code → Code
 | [], y => y
 | x :: xs, y => .seq x (seqs xs y)
theorem q1j {F : Fence} {n : Nat} : ∀ (xs : List Code) {y : Code} {a : Act} {w : World}, q9r F n P Q xs (fun a w => y.wpIn F n P Q a w) a w → (seqs xs y).wpIn F n P Q a w
 | [], y, a, w, h => h
 | x :: xs, y, a, w, h => wpIn_seq (wpIn_mono h fun e a w hq => by
   cases e with
   | normal => exact q1j xs hq
   | _ => exact hq)
theorem qah {F : Fence} {n : Nat} : ∀ (xs ys : List Code) {K : Act → World → Prop} {a : Act} {w : World}, q9r F n P Q (xs ++ ys) K a w → q9r F n P Q xs (q9r F n P Q ys K) a w
 | [], ys, K, a, w, h => h
 | x :: xs, ys, K, a, w, h => wpIn_mono h fun e a w hq => by
   cases e with
   | normal => exact qah xs ys hq
   | _ => exact hq
theorem q5v {F : Fence} {n : Nat} {Q' : Exit → Act → World → Prop} (hQ : ∀ e a w, e ≠ .normal → Q e a w → Q' e a w) : ∀ (xs : List Code) {K K' : Act → World → Prop} (hK : ∀ a w, K a w → K' a w) {a : Act} {w : World}, q9r F n P Q xs K a w → q9r F n P Q' xs K' a w
 | [], K, K', hK, a, w, h => hK _ _ h
 | x :: xs, K, K', hK, a, w, h => wpIn_mono h fun e a w hq => by
   cases e with
   | normal => exact q5v hQ xs hK hq
   | exit i => exact hQ _ _ _ (by simp) hq
   | ret => exact hQ _ _ _ (by simp) hq
   | goto i => exact hQ _ _ _ (by simp) hq
   | panic ch => exact hQ _ _ _ (by simp) hq
   | outgrown => exact hQ _ _ _ (by simp) hq
section
variable {c : Cx} {p : qm} {w w0 : World} {S0 : Nat → Prop} {a : Act} {σ σ' : St} {d : List Deferred} {z : Nat} {tbl : Tbl}
theorem q90 (ro : Option Nat) (nn : Nat) (htb : q02 tbl) (hfm : ∀ te, c.F.mx te ≤ flM tbl te) (hnp : q7q tbl = true) : ∀ (xs : List Code) {n : Nat} {σ : St} {k : Nat → ResD → St → Tree} {l : List D} {B : Nat → List D → Prop} {p : qm} {w : World} {a : Act},
  (q4q Tryz.prog tbl ann c.lo z xs n σ k).go (qb tbl) R l B → l.length = n → Bs c.A c.F w0 S0 p w → SF (c.at (qb tbl) l) σ p w a → a.defers = d → a.tmps.size = z →
  (∀ n' r σ' l' B' p' w' a', l'.length = n' → l'.take n = l → (k n' r σ').go (qb tbl) R l' B' → Bs c.A c.F w0 S0 p' w' → SF (c.at (qb tbl) l') σ' p' w' a' → a'.defers = d → a'.tmps.size = z → Exit.then K Q r.exit' a' w') → q9r (FR ro) nn Tryz.prog Q xs K a w
 | [], n, σ, k, l, B, p, w, a, h, hl, hb, hf, hd, hz, hk => hk n .normal σ l B p w a hl (by rw [← hl]; exact List.take_length) h hb hf hd hz
 | x :: xs, n, σ, k, l, B, p, w, a, h, hl, hb, hf, hd, hz, hk => by
  refine qkt ro nn htb hfm x h hl hb hf hd hz (q49 hnp) (qgu hnp) fun n' r σ' l' B' p' w' a' hl' hpre _ hgo hb' hf' hd' hz' => ?_
  have hnn : n ≤ n' := by
   have := congrArg List.length hpre
   simp at this
   omega
  cases r with
  | normal => exact q90 ro nn htb hfm hnp xs hgo hl' hb' hf' hd' hz' fun n2 r2 σ2 l2 B2 p2 w2 a2 h1 h2 => hk n2 r2 σ2 l2 B2 p2 w2 a2 h1 (by rw [← hpre, ← h2, List.take_take, Nat.min_eq_left hnn])
  | ret => exact hk n' .ret σ' l' B' p' w' a' hl' hpre hgo hb' hf' hd' hz'
  | exit i => exact hk n' (.exit i) σ' l' B' p' w' a' hl' hpre hgo hb' hf' hd' hz'
def qn8 (ts ms : List Item) (kill : List Nat) (σk : St) : Nat → ResD → St → Tree := fun _ r σ => match r with
 | .normal => (match conv ts ms (σ.drop kill) with
  | some (σc, va, vb) => if covers σc σk then .leaf (va ++ vb) else .bad 1
  | none => .need (z5p (σ.drop kill) ts ms) (.bad 2))
 | .ret => .leaf []
 | .exit i => .leaf [.lit (.i (Int.ofNat i))]
theorem z5o {ts ms : List Item} {σk σc : St} {va vb : List X} {l : List D} (h : conv ts ms (σ.drop kill) = some (σc, va, vb)) (hcov : covers σc σk = true) (hb : Bs c.A c.F w0 S0 p w) (hf : SF (c.at (qb tbl) l) σ p w a) :
  ∃ p', Bs c.A c.F w0 S0 p' w ∧ SF (c.at (qb tbl) l) σk p' w a ∧ ItT c.snap c.A p' w a ts (X.evs (evl (qb tbl) l) va) ∧ ItM c.A p' w ms (X.evs (evl (qb tbl) l) vb) := by
 have hf2 := SF.un (c := c.at (qb tbl) l) (q := qcf kill σ) hb.inj hb.pa hf
 have hb2 := hb.un (qcf kill σ)
 change SF _ (σ.drop kill) _ _ _ at hf2
 unfold conv at h
 split at h
 ·rename_i hrb
  split at h
  ·rename_i wa wb hwa hwb
   simp only [gnS] at h
   obtain ⟨rfl, rfl, rfl⟩ := h
   obtain ⟨p3, hb3, hf3⟩ := qkw (c := c.at (qb tbl) l) hrb hb2 hf2
   exact ⟨p3, hb3, q24 hcov hf3, z0d hf3 hwa, z1a hf3 hwb⟩
  ·cases h
 ·cases h
theorem z22 {ts ms : List Item} {σ σc : St} {va vb : List X} (h : conv ts ms σ = some (σc, va, vb)) : va.length = ts.length ∧ vb.length = ms.length := by
 unfold conv at h
 split at h
 ·split at h
  ·rename_i wa wb hwa hwb
   simp only [gnS] at h
   obtain ⟨-, rfl, rfl⟩ := h
   exact ⟨qhb hwa, qhb hwb⟩
  ·cases h
 ·cases h
theorem qq4 (ro : Option Nat) (nn : Nat) (htb : q02 tbl) (hfm : ∀ te, c.F.mx te ≤ flM tbl te) (hnp : q7q tbl = true) (xs : List Code) {n : Nat} {ts ms : List Item} {σk : St} {l : List D} {B : Nat → List D → Prop}
  (h : (q4q Tryz.prog tbl ann c.lo z xs n σ (qn8 ts ms kill σk)).go (qb tbl) R l B) (hl : l.length = n) (hb : Bs c.A c.F w0 S0 p w) (hf : SF (c.at (qb tbl) l) σ p w a) (hd : a.defers = d) (hz : a.tmps.size = z)
  (hk : ∀ st p' w' a', R st → st.length = ts.length + ms.length → Bs c.A c.F w0 S0 p' w' → SF (c.at (qb tbl) (l ++ st)) (q2a ts ms n (q1p ts ms kill n σk)) p' w' a' → a'.defers = d → a'.tmps.size = z → K a' w')
  (ho : ∀ p' w' a', R [] → Bs c.A c.F w0 S0 p' w' → a'.defers = d → a'.tmps.size = z → Q .ret a' w')
  (he : ∀ i p' w' a', R [.i (Int.ofNat i)] → Bs c.A c.F w0 S0 p' w' → a'.defers = d → a'.tmps.size = z → Q (.exit i) a' w') : q9r (FR ro) nn Tryz.prog Q xs K a w := by
 refine q90 ro nn htb hfm hnp xs h hl hb hf hd hz fun n' r σ' l' B' p' w' a' hl' hpre hgo hb' hf' hd' hz' => ?_
 cases r with
 | ret => exact ho p' w' a' hgo hb' hd' hz'
 | exit i => exact he i p' w' a' hgo hb' hd' hz'
 | normal =>
  simp only [qn8] at hgo
  split at hgo
  ·rename_i σc va vb hcv
   split at hgo
   ·rename_i hcov
    obtain ⟨p2, hb2, hf2, h1, h2⟩ := z5o (c := c) hcv hcov hb' hf'
    obtain ⟨q1, q2⟩ := z22 hcv
    have hR : R (X.evs (evl (qb tbl) l') (va ++ vb)) := hgo
    rw [qb5] at hR
    have hnl : n ≤ l'.length := by
     have := congrArg List.length hpre
     simp at this
     omega
    refine hk _ p2 w' a' hR (by simp [qe2, q1, q2]) hb2 ?_ hd' hz'
    refine qnx (c := c.at (qb tbl) l') (c' := c.at (qb tbl) (l ++ _)) rfl rfl ⟨rfl, rfl, rfl⟩ (fun k hk => ?_) (fun i hi => ?_) (qh1 hf2) h1 h2
    ·show l'.getD k .u = (l ++ _).getD k .u
     simp only [List.getD_eq_getElem?_getD]
     rw [List.getElem?_append_left (by omega), ← hpre, List.getElem?_take_of_lt hk]
    ·show (l ++ _).getD (n + i) .u = _
     simp only [List.getD_eq_getElem?_getD]
     rw [List.getElem?_append_right (by omega)]
     congr 2
     omega
   ·exact hgo.elim
  ·exact hgo.2.elim
end
end
def q42 (s : So) (c : Ce) : Option (ByteArray × Ce × Ce) :=
 if qf9 s (q1o s c) ⟨#[46]⟩ then
  (if qf9 s (q1o s (cellAt s ((q1o s c).n + 1))) ⟨#[45]⟩ then
   (if qdb s (q1o s (cellAt s ((q1o s (cellAt s ((q1o s c).n + 1))).n + 1))) then
    some ((s.ys.getD (q1o s (cellAt s ((q1o s (cellAt s ((q1o s c).n + 1))).n + 1))).n.toNat default).name, cellAt s ((q1o s c).n + 2), cellAt s ((q1o s (cellAt s ((q1o s c).n + 1))).n + 2))
    else none) else none) else none
def hasB (met : List ByteArray) (nm : ByteArray) : Bool := met.any fun x => decide (x = nm)
def q7b (s : So) : Nat → Ce → List ByteArray → List At
 | 0, _, _ => []
 | k + 1, c, met => match q42 s c with
  | none => []
  | some (nm, tl, vl) => (if hasB met nm then [] else [⟨nm, q3m (q1o s vl)⟩]) ++ q7b s k tl (nm :: met)
def yf (s : So) (c : Ce) : List At := q7b s s.cs.length c []
def sqL : Code → Code
 | .seq x _ => x
 | c => c
def sqR : Code → Code
 | .seq _ y => y
 | c => c
def bkC : Code → Code
 | .block _ c => c
 | c => c
def lpC : Code → Code
 | .loop c => c
 | c => c
noncomputable def itC : Code := match Tryz.f94.body with
 | some c => c
 | none => .skip
noncomputable def itR : Code := lpC (bkC (sqR (sqR itC)))
noncomputable def itB : Code := bkC (sqL (sqR (sqR itR)))
noncomputable def it1 : List Code := [sqL itC, sqL (sqR itC)]
noncomputable def qzk : List Code := [sqL itR, sqL (sqR itR)]
noncomputable def z3v : List Code := [sqL itB, sqL (sqR itB), sqL (sqR (sqR itB)), sqL (sqR (sqR (sqR itB))), sqL (sqR (sqR (sqR (sqR itB)))), sqL (sqR (sqR (sqR (sqR (sqR itB)))))]
noncomputable def itY : Code := sqL (sqR (sqR (sqR (sqR (sqR (sqR itB))))))
noncomputable def it3 : List Code := [sqL (sqR (sqR (sqR (sqR (sqR (sqR (sqR itB))))))), sqR (sqR (sqR (sqR (sqR (sqR (sqR (sqR itB)))))))]
noncomputable def it4 : List Code := [sqR (sqR (sqR itR))]
noncomputable def itO : List Oper := match sqL itY with
 | .region _ ops _ => ops.toList
 | _ => []
abbrev mpT : Ty := .map 9 4
abbrev q1v : Tbl := [(zb, qcq), (q3j, z51), (q3i, qwy), (q0b, q4t)]
theorem q9s : q02 q1v := .cons q47 (.cons qxb (.cons qxj (.cons qbd .nil)))
def qy3 : Ann := ⟨[0, 1, 2, 4, 5, 6, 7, 8, 9, 10, 14, 15, 16, 27, 38, 48, 62], []⟩
def sA : St := ⟨[(0, .sn 0 .any), (1, .sn 1 (.rd (.tok 0) qi [] none)), (2, .sn 2 .any)], []⟩
def sA' : St := ⟨[(0, .sn 0 .any), (1, .sn 1 (.rd (.tok 0) qi [] none)), (2, .sn 2 .any), (14, .v (.len (.fld (.tok 0) 0)) (.int .i64) [] [])], []⟩
abbrev iA : List Item := [(4, mpT, [(0, 65)], []), (15, .int .i64, [], [])]
def sH : St := ⟨[(0, .sn 0 .any), (1, .sn 1 (.rd (.tok 0) qi [] none)), (2, .ref 2 [] 0 qn), (4, .sn 4 (.v (.tok 2) mpT [(0, 65)] [])), (14, .v (.len (.fld (.tok 0) 0)) (.int .i64) [] []), (15, .v (.tok 3) (.int .i64) [] [])], [(2, ⟨.tok 1, qn, [], []⟩)]⟩
def sB : St := ⟨[(0, .sn 0 .any), (1, .sn 1 (.rd (.tok 0) qi [] none)), (2, .ref 2 [] 0 qn), (4, .sn 4 (.v (.tok 2) mpT [(0, 65)] [])), (6, .ref 6 [] 0 qn), (9, .ref 9 [] 0 qn), (14, .v (.len (.fld (.tok 0) 0)) (.int .i64) [] []), (15, .v (.tok 3) (.int .i64) [] [])], [(2, ⟨.tok 1, qn, [], []⟩)]⟩
abbrev iBt : List Item := [(10, .str, [], [])]
abbrev iBm : List Item := [(6, qn, [], []), (9, qn, [], [])]
def sY : St := ⟨[(10, .v (.tok 4) .str [] []), (0, .sn 0 .any), (1, .sn 1 (.rd (.tok 0) qi [] none)), (2, .ref 2 [] 0 qn), (4, .sn 4 (.v (.tok 2) mpT [(0, 65)] [])), (6, .ref 6 [] 0 qn), (9, .ref 9 [] 0 qn), (14, .v (.len (.fld (.tok 0) 0)) (.int .i64) [] []), (15, .v (.tok 3) (.int .i64) [] [])], [(6, ⟨.tok 5, qn, [], []⟩), (9, ⟨.tok 6, qn, [], []⟩), (2, ⟨.tok 1, qn, [], []⟩)]⟩
def sP : St := ⟨[(0, .sn 0 .any), (1, .sn 1 (.rd (.tok 0) qi [] none)), (2, .ref 2 [] 0 qn), (4, .sn 4 (.v (.tok 2) mpT [(0, 65)] [])), (6, .rd (.tok 5) qn [] none), (10, .v (.tok 4) .str [] []), (14, .v (.len (.fld (.tok 0) 0)) (.int .i64) [] []), (15, .v (.tok 3) (.int .i64) [] [])], [(2, ⟨.tok 1, qn, [], []⟩)]⟩
def sP' : St := ⟨[(0, .sn 0 .any), (1, .sn 1 (.rd (.tok 0) qi [] none)), (2, .ref 2 [] 0 qn), (14, .v (.len (.fld (.tok 0) 0)) (.int .i64) [] [])], []⟩
abbrev iPt : List Item := [(4, mpT, [(0, 65)], [SNK]), (15, .int .i64, [], [])]
abbrev iPm : List Item := [(2, qn, [], [])]
def sYt : St := ⟨(54, .sn 0 .any) :: (53, .v (.lit (.b true)) .bool [] []) :: sY.t, sY.m⟩
def sYf : St := ⟨(53, .v (.lit (.b false)) .bool [] []) :: sY.t, sY.m⟩
def sYz : St := ⟨(60, .v (.tok 6) .bool [] []) :: (53, .v (.lit (.b true)) .bool [] []) :: sP.t, sP.m⟩
def zmb : Tree := (.leaf [(.lit (.mp [])), (.lit (.i 0))])
theorem zf2 : q4q Tryz.prog q1v qy3 3 67 it1 1 sA (qn8 iA [] [] sA') = zmb := by kernel_rfl
def zkw : Tree :=
 let b : X := .tok 0
 let e : X := .lit (.s ⟨#[46]⟩)
 let f : X := .lit (.s ⟨#[45]⟩)
 let d : X := .call 0 0 [b, (.tok 1)]
 let h : X := .ok 0 [b, (.tok 1)]
 let a : X := .call 1 0 [b, d, e]
 let g : X := .call 0 0 [b, a]
 let j : X := .ok 0 [b, a]
 let c : X := .call 1 0 [b, g, f]
 let i : X := .call 0 0 [b, c]
 (.br (.lt (.tok 3) (.len (.fld b 0))) (.need [(.ok 1 [b, d, e]), (.ok 1 [b, d, e]), h, h, h] (.br (.not (.call 1 2 [b, d, e])) (.leaf []) (.need [(.ok 1 [b, g, f]), (.ok 1 [b, g, f]), j, j, j] (.br (.not (.call 1 2 [b, g, f])) (.leaf []) (.need [(.ok 2 [b, i]), (.ok 0 [b, c])] (.br (.not (.call 2 1 [b, i])) (.leaf []) (.leaf [(.call 2 0 [b, i]), (.call 1 1 [b, d, e]), (.call 1 1 [b, g, f])]))))))) (.leaf [(.lit (.i 0))]))
theorem zf9 : q4q Tryz.prog q1v qy3 3 67 (qzk ++ z3v) 4 sH (qn8 iBt iBm [] sB) = zkw := by kernel_rfl
def zic : Tree := (.need [(.rng .i64 (.add (.tok 3) (.lit (.i 1))))] (.leaf [(.fn 2 [(.tok 2), (.tok 4), (.lit (.b .true))]), (.add (.tok 3) (.lit (.i 1))), (.tok 5)]))
theorem zgp : q4q Tryz.prog q1v qy3 3 67 (it3 ++ it4) 6 sP (qn8 iPt iPm [] sP') = zic := by kernel_rfl
def zns : List X := []
def zjs : St := (.mk [(53, (.v (.not (.fn 0 [(.tok 2), (.tok 4), (.lit (.b .false))])) .bool [] [])), (52, (.v (.not (.fn 0 [(.tok 2), (.tok 4), (.lit (.b .false))])) .bool [] [])), (51, (.v (.fn 0 [(.tok 2), (.tok 4), (.lit (.b .false))]) .bool [] [])), (50, (.v (.tok 4) .str [] [])), (49, (.v (.tok 2) (.map 9 4) [(0, 65)] [])), (10, (.v (.tok 4) .str [] [])), (0, (.sn 0 .any)), (1, (.sn 1 (.rd (.tok 0) (.st 26) [] .none))), (2, (.ref 2 [] 0 (.st 28))), (4, (.sn 4 (.v (.tok 2) (.map 9 4) [(0, 65)] []))), (6, (.ref 6 [] 0 (.st 28))), (9, (.ref 9 [] 0 (.st 28))), (14, (.v (.len (.fld (.tok 0) 0)) (.int .i64) [] [])), (15, (.v (.tok 3) (.int .i64) [] []))] [(6, (.mk (.tok 5) (.st 28) [] [])), (9, (.mk (.tok 6) (.st 28) [] [])), (2, (.mk (.tok 1) (.st 28) [] []))])
theorem zdb : qou Tryz.prog q1v (dsts itO) sY (itO.take 5) = some (zns, zjs) := by kernel_rfl
def zin : List X := [(.ok 0 [(.tok 0), (.tok 6)]), (.ok 3 [(.call 0 0 [(.tok 0), (.tok 6)])])]
def z7z : St := (.mk [(59, (.v (.call 3 0 [(.call 0 0 [(.tok 0), (.tok 6)])]) (.st 28) [] [])), (58, (.v (.call 0 0 [(.tok 0), (.tok 6)]) (.st 28) [] [])), (57, (.v (.tok 6) (.st 28) [] [])), (56, (.v (.tok 0) (.st 26) [] [])), (55, (.v (.tok 4) .str [] [])), (54, (.sn 0 .any)), (53, (.v (.lit (.b .true)) .bool [] [])), (10, (.v (.tok 4) .str [] [])), (0, (.sn 0 .any)), (1, (.sn 1 (.rd (.tok 0) (.st 26) [] .none))), (2, (.ref 2 [] 0 (.st 28))), (4, (.sn 4 (.v (.tok 2) (.map 9 4) [(0, 65)] []))), (6, (.ref 6 [] 0 (.st 28))), (9, (.ref 9 [] 0 (.st 28))), (14, (.v (.len (.fld (.tok 0) 0)) (.int .i64) [] [])), (15, (.v (.tok 3) (.int .i64) [] []))] [(6, (.mk (.tok 5) (.st 28) [] [])), (9, (.mk (.tok 6) (.st 28) [] [])), (2, (.mk (.tok 1) (.st 28) [] []))])
theorem zg3 : qou Tryz.prog q1v (dsts itO) sYt ((itO.drop 6).take 5) = some (zin, z7z) := by kernel_rfl
def zo6 : List X := []
def zib : St := (.mk [(62, (.v (.lit (.b .false)) .bool [] [])), (61, .undef), (60, .undef), (59, .undef), (58, .undef), (57, .undef), (56, .undef), (55, .undef), (54, .undef), (53, (.v (.lit (.b .false)) .bool [] [])), (10, (.v (.tok 4) .str [] [])), (0, (.sn 0 .any)), (1, (.sn 1 (.rd (.tok 0) (.st 26) [] .none))), (2, (.ref 2 [] 0 (.st 28))), (4, (.sn 4 (.v (.tok 2) (.map 9 4) [(0, 65)] []))), (6, (.ref 6 [] 0 (.st 28))), (9, (.ref 9 [] 0 (.st 28))), (14, (.v (.len (.fld (.tok 0) 0)) (.int .i64) [] [])), (15, (.v (.tok 3) (.int .i64) [] []))] [(6, (.mk (.tok 5) (.st 28) [] [])), (9, (.mk (.tok 6) (.st 28) [] [])), (2, (.mk (.tok 1) (.st 28) [] []))])
theorem zfz : qou Tryz.prog q1v (dsts itO) sYf (itO.drop 5) = some (zo6, zib) := by kernel_rfl
def zo4 : List X := []
def zio : St := (.mk [(62, (.v (.not (.tok 6)) .bool [] [])), (61, (.v (.not (.tok 6)) .bool [] [])), (60, (.v (.tok 6) .bool [] [])), (53, (.v (.lit (.b .true)) .bool [] [])), (0, (.sn 0 .any)), (1, (.sn 1 (.rd (.tok 0) (.st 26) [] .none))), (2, (.ref 2 [] 0 (.st 28))), (4, (.sn 4 (.v (.tok 2) (.map 9 4) [(0, 65)] []))), (6, (.rd (.tok 5) (.st 28) [] .none)), (10, (.v (.tok 4) .str [] [])), (14, (.v (.len (.fld (.tok 0) 0)) (.int .i64) [] [])), (15, (.v (.tok 3) (.int .i64) [] []))] [(2, (.mk (.tok 1) (.st 28) [] []))])
theorem zg1 : qou Tryz.prog q1v (dsts itO) sYz (itO.drop 12) = some (zo4, zio) := by kernel_rfl
def zmi (s : So) (c : Ce) (i : Int) (o : List D) : Prop := (o = [] ∧ q42 s c = none) ∨ (o = [.i 0] ∧ (s.cs.length : Int) ≤ i) ∨ ∃ nm tl vl, i < s.cs.length ∧ q42 s c = some (nm, tl, vl) ∧ o = [.s nm, eC tl, eC vl]
theorem znz {s : So} {M : D} (B : Nat → List D → Prop) : zkw.go (qb q1v) (zmi s c i) [eS s, eC c, M, .i i] B := by
 unfold zkw
 rw [qj]
 refine ⟨fun h => ?_, fun h => ?_⟩
 ·have hi : i < s.cs.length := by simpa [X.ev, evl, qer, D.int, D.rs, D.tt] using h
  simp only [gnZ, qcq, z51, q2s]
  by_cases h1 : qf9 s (q1o s c) ⟨#[46]⟩ = true
  ·simp only [h1, if_true, Option.isSome_some, Option.getD_some, List.getD_cons_zero, List.getD_cons_succ, q5i, yw]
   by_cases h2 : qf9 s (q1o s (cellAt s ((q1o s c).n + 1))) ⟨#[45]⟩ = true
   ·simp only [h2, if_true, Option.isSome_some, Option.getD_some, List.getD_cons_zero, List.getD_cons_succ, q5i, yw, qwy, zk]
    by_cases h3 : qdb s (q1o s (cellAt s ((q1o s (cellAt s ((q1o s c).n + 1))).n + 1))) = true
    ·simp only [h3, if_true, Option.isSome_some, Option.getD_some, List.getD_cons_zero, List.getD_cons_succ, q5i, Bool.not_true, Bool.false_eq_true, false_implies, true_and, true_implies, and_true]
     exact .inr (.inr ⟨_, _, _, hi, by rw [q42, if_pos h1, if_pos h2, if_pos h3], rfl⟩)
    ·have hn : q42 s c = none := by rw [q42, if_pos h1, if_pos h2, if_neg h3]
     simp only [if_neg h3, Option.isSome_some, Option.getD_some, List.getD_cons_zero, List.getD_cons_succ, q5i, Bool.not_true, Bool.not_false, Bool.false_eq_true, Bool.true_eq_false, false_implies, true_and, true_implies, and_true]
     exact .inl ⟨rfl, hn⟩
   ·have hn : q42 s c = none := by rw [q42, if_pos h1, if_neg h2]
    simp only [if_neg h2, Option.isSome_some, Option.getD_some, List.getD_cons_zero, List.getD_cons_succ, q5i, Bool.not_true, Bool.not_false, Bool.false_eq_true, Bool.true_eq_false, false_implies, true_and, true_implies, and_true]
    exact .inl ⟨rfl, hn⟩
  ·have hn : q42 s c = none := by rw [q42, if_neg h1]
   simp only [if_neg h1, Option.isSome_some, Option.getD_some, List.getD_cons_zero, List.getD_cons_succ, q5i, Bool.not_true, Bool.not_false, Bool.false_eq_true, Bool.true_eq_false, false_implies, true_and, true_implies, and_true]
   exact .inl ⟨rfl, hn⟩
 ·have hi : (s.cs.length : Int) ≤ i := by simpa [X.ev, evl, qer, D.int, D.rs, D.tt] using h
  exact .inr (.inl ⟨rfl, hi⟩)
def zmn (c : Ce) (M nm : D) (i : Int) (o : List D) : Prop := o = [.mp (mset nm (.b true) M.ms), .i (i + 1), eC c]
theorem znv {s : So} {tl : Ce} {M nm : D} (hi : i64 (i + 1)) (B : Nat → List D → Prop) : zic.go (qb q1v) (zmn tl M nm i) [eS s, eC c, M, .i i, nm, eC tl] B := by
 unfold zic
 rw [qa]
 refine ⟨⟨?_, trivial⟩, ?_⟩
 ·show (D.b (yz .i64 (i + 1))).tt = true
  rw [q52.2 hi]
  rfl
 ·rfl
theorem zon {s : So} (B : Nat → List D → Prop) : zmb.go (qb q1v) (fun o => o = [.mp [], .i 0]) [eS s] B := rfl
variable {cx : Cx} {x : X}
section
open Go.RowKit Go.Shelf
abbrev yvV (l : Nat) : Value := .func (.yield l) #[] #[]
abbrev ptV (b : Nat) : Value := .pointer (some ⟨b, 0, none⟩)
def ceL (c : Ce) : List Value := [.int .i64 c.t, .int .i64 c.n]
theorem quu {w : World} (h : Rd w F (eC c) qn cs) : cs = ceL c := by
 obtain ⟨l, e, hF⟩ := Ins.of_rdS Ins.flC h
 injection e with e
 subst e
 obtain ⟨d, l', c1, c2, e1, rfl, h1, hG⟩ := Ins.of_rdF hF
 obtain ⟨d2, l2, c3, c4, e2, rfl, h2, hH⟩ := Ins.of_rdF hG
 obtain ⟨rfl, rfl⟩ := Ins.of_rdN hH
 injection e1 with e1 e1'
 subst e1 e1'
 injection e2 with e2 _
 subst e2
 obtain ⟨n1, -, q1, rfl⟩ := Ins.of_rdI h1
 obtain ⟨n2, -, q2, rfl⟩ := Ins.of_rdI h2
 injection q1 with q1
 injection q2 with q2
 subst q1 q2
 rfl
theorem qvt {w : World} (h : c.ok) : Rd w F (eC c) qn (ceL c) :=
 ⟨_, _, rfl, Ins.flC, .int .i64, [.int .i64], [.int .i64 c.t], [.int .i64 c.n], rfl, rfl, ⟨.i64, rfl, rfl, q52.2 h.1⟩, .int .i64, [], [.int .i64 c.n], [], rfl, rfl, ⟨.i64, rfl, rfl, q52.2 h.2⟩, rfl, rfl⟩
theorem z4t {w : World} (h : Rd w F (eC c) qn cs) : c.ok := by
 obtain ⟨c', e, hc⟩ := wfC ⟨w, F, cs, h⟩
 rw [z2d e]
 exact hc
def itP (bc m : Nat) : qm := fun x => if x = 32 then some bc else if x = 65 then some m else none
theorem q6r {bc m x b : Nat} (h : itP bc m x = some b) : (x = 32 ∧ b = bc) ∨ (x = 65 ∧ b = m) := by
 unfold itP at h
 split at h
 ·rename_i e
  exact .inl ⟨e, (Option.some.inj h).symm⟩
 ·split at h
  ·rename_i e
   exact .inr ⟨e, (Option.some.inj h).symm⟩
  ·cases h
theorem z5a {bc m b : Nat} : pinned (itP bc m) b ↔ b = bc ∨ b = m := by
 constructor
 ·rintro ⟨x, hx⟩
  exact (q6r hx).imp (·.2) (·.2)
 ·rintro (rfl | rfl)
  ·exact ⟨32, rfl⟩
  ·exact ⟨65, rfl⟩
def itX (l bs bc m : Nat) : Cx := ⟨evl (qb q1v) [], fun _ => True, .no, 3, fun k g => (k < 3 ∨ VB ≤ k) → itP bc m (k * 16) = some g, fun k g hk h2 h => absurd h (by omega), fun t => if t = 0 then yvV l else if t = 1 then ptV bs else if t = 4 then .map (some m) else ptV bc⟩
theorem qpi (l bs bc m : Nat) : ∀ te, (itX l bs bc m).F.mx te ≤ flM q1v te := fun _ => Nat.zero_le _
structure HdOk (NB l bs bc m : Nat) (css : List Value) (s : So) (c : Ce) (M : List D) (i : Int) (a : Act) (W : World) : Prop where
 z : a.tmps.size = 67
 d : a.defers = []
 t0 : a.tmps[0]? = some (yvV l)
 t1 : a.tmps[1]? = some (ptV bs)
 t2 : a.tmps[2]? = some (ptV bc)
 t4 : a.tmps[4]? = some (.map (some m))
 t14 : a.tmps[14]? = some (.int .i64 (s.cs.length : Nat))
 t15 : a.tmps[15]? = some (.int .i64 i)
 hs : ∃ T, W.heap[bs]? = some (.cells css.toArray T (0, 0))
 rd : Rd W (fun b => b < NB ∧ b ≠ bc) (eS s) qi css
 hc : ∃ T, qo T = some qn ∧ W.heap[bc]? = some (.cells (ceL c).toArray T (0, 0))
 hm : ∃ es clock, W.heap[m]? = some (.map es clock) ∧ q6a .str .bool M es.toList
 so : s.ok
 co : c.ok
 ir : i64 i
section
variable {NB l bs bc m : Nat} {css : List Value} {s : So} {c : Ce} {M : List D} {i : Int} {a : Act} {W : World}
theorem zbt (h1 : bc < NB) (h2 : NB ≤ m) (hc : ∃ T, qo T = some qn ∧ W.heap[bc]? = some (.cells (ceL c).toArray T (0, 0))) (hm : ∃ es clock, W.heap[m]? = some (.map es clock)) : Bs (itX l bs bc m).A (itX l bs bc m).F W (pinned (itP bc m)) (itP bc m) W := by
 obtain ⟨T, -, hc⟩ := hc
 obtain ⟨es, clock, hm⟩ := hm
 refine ⟨fun x y b hx hy => ?_, fun x b hx => ?_, But.refl _ _, fun x b hx => .inl ⟨x, hx⟩, fun _ _ => ⟨trivial, trivial⟩, fun _ _ _ => trivial, fun x b hx => ?_, Flo.no⟩
 ·rcases q6r hx with ⟨rfl, rfl⟩ | ⟨rfl, rfl⟩ <;> rcases q6r hy with ⟨rfl, e⟩ | ⟨rfl, e⟩ <;> first | rfl | omega
 ·rcases q6r hx with ⟨rfl, rfl⟩ | ⟨rfl, rfl⟩
  ·exact qu hc
  ·exact (Array.getElem?_eq_some_iff.1 hm).1
 ·rcases q6r hx with ⟨rfl, rfl⟩ | ⟨rfl, rfl⟩
  ·exact .inl ⟨_, _, hc⟩
  ·exact .inr ⟨_, _, hm⟩
theorem zku {w : World} {n : Int} (h : i64 n) : Rd w F (.i n) (.int .i64) [.int .i64 n] := ⟨.i64, rfl, rfl, q52.2 h⟩
theorem qx6 (h : s.ok) : i64 (s.cs.length : Nat) := by
 have := h.cs.1
 exact ⟨by omega, by omega⟩
theorem z90 (hA : cx.A = fun _ => True) (hsn : cx.snap 1 = ptV bs) (hE : cx.v.E 0 = eS s) (hp : ∀ x b, p x = some b → b = bc ∨ NB ≤ b) (hbs : bs < NB) (hbc : bs ≠ bc) (hs : ∃ T, W.heap[bs]? = some (.cells css.toArray T (0, 0))) (rd : Rd W (fun b => b < NB ∧ b ≠ bc) (eS s) qi css) : (AV.sn 1 (.rd (.tok 0) qi [] none)).pd cx p W (ptV bs) := by
 obtain ⟨T, hs⟩ := hs
 have hfr : ∀ b, b < NB ∧ b ≠ bc → FFD cx.A p [] b := fun b hb => .inl ⟨by rw [hA]; trivial, fun x hx => by
  rcases hp x b hx with h | h <;> omega⟩
 have hl := (Rd.len _ rd).1
 refine ⟨hsn.symm, bs, 0, css, rfl, hfr bs ⟨hbs, hbc⟩, fun j v hj => ?_, ?_, ?_, trivial⟩
 ·rw [cell_of_row W bs _ _ T (0, 0) hs, Nat.zero_add]
  simpa using hj
 ·rw [hl]
  show 0 < (Ty.st _).w
  exact q26 (E := 27) (by kernel_rfl)
 ·show Rd W _ (cx.v.E 0) qi css
  rw [hE]
  exact rd.mono fun b _ hb => hfr b hb
theorem zbn (hsn : cx.snap 4 = .map (some m)) (hE : x.ev cx.v = .mp M) (hp : p 65 = some m) (hm : ∃ es clock, W.heap[m]? = some (.map es clock) ∧ q6a .str .bool M es.toList) : (AV.sn 4 (.v x mpT [(0, 65)] [])).pd cx p W (.map (some m)) := by
 obtain ⟨es, clock, hm, hl⟩ := hm
 refine ⟨hsn.symm, [.map (some m)], rfl, ?_⟩
 rw [hE]
 exact .inr ⟨_, _, .str, .bool, M, m, es, clock, rfl, by kernel_rfl, by kernel_rfl, rfl, rfl, hp, hm, hl⟩
theorem qxv {n : Int} (hE : x.ev cx.v = .i n) (h : i64 n) : (AV.v x (.int .i64) [] []).pd cx p W (.int .i64 n) := ⟨[.int .i64 n], rfl, by rw [hE]; exact Con.of_rd (zku h)⟩
theorem zlp (h : HdOk NB l bs bc m css s c M i a W) (hbs : bs < NB) (hbc : bs ≠ bc) (hcb : bc < NB) (hmb : NB ≤ m) : SF ((itX l bs bc m).at (qb q1v) [eS s, eC c, .mp M, .i i]) sH (itP bc m) W a := by
 have hp : ∀ x b, itP bc m x = some b → b = bc ∨ NB ≤ b := fun x b hx => (q6r hx).imp (·.2) fun e => by omega
 refine ⟨fun t x hx => ?_, fun k e he => ?_⟩
 ·have hx := qx hx
  simp only [sH, gnM] at hx
  rcases hx with ⟨rfl, rfl⟩ | ⟨rfl, rfl⟩ | ⟨rfl, rfl⟩ | ⟨rfl, rfl⟩ | ⟨rfl, rfl⟩ | ⟨rfl, rfl⟩
  ·exact ⟨_, h.t0, rfl, trivial⟩
  ·exact ⟨_, h.t1, z90 rfl rfl rfl hp hbs hbc h.hs h.rd⟩
  ·exact ⟨_, h.t2, bc, rfl, rfl, fun _ => rfl⟩
  ·exact ⟨_, h.t4, zbn rfl rfl rfl h.hm⟩
  ·refine ⟨_, h.t14, qxv ?_ (qx6 h.so)⟩
   show D.i (((eS s).fld 0).rs.length : Nat) = _
   rw [qer, q6i, List.length_map]
  ·exact ⟨_, h.t15, qxv rfl h.ir⟩
 ·have he := qx he
  simp only [sH, gnM] at he
  obtain ⟨rfl, rfl⟩ := he
  obtain ⟨T, hT, hc⟩ := h.hc
  exact ⟨bc, _, T, rfl, hc, hT, Con.of_rd (show Rd W _ (eC c) qn (ceL c).toArray.toList from qvt h.co)⟩
theorem z3i {v : Value} (h : (AV.v x mpT [(0, 65)] dep).pd cx p W v) : ∃ b, p 65 = some b ∧ v = .map (some b) ∧ ∃ l es clock, x.ev cx.v = .mp l ∧ W.heap[b]? = some (.map es clock) ∧ q6a .str .bool l es.toList := by
 obtain ⟨cs, hpk, hc⟩ := h
 rcases hc with ⟨E, te, l, v', e1, -⟩ | ⟨K, V, kt, vt, l, g, es, clock, e1, hK, hV, e2, rfl, hg, hh, hl⟩
 ·cases e1
 ·have hpk : [Value.map (some g)] = [v] := hpk
  injection hpk with hpk
  subst hpk
  injection e1 with e1 e1'
  subst e1 e1'
  have h1 : qo 9 = some .str := by kernel_rfl
  have h2 : qo 4 = some .bool := by kernel_rfl
  rw [h1] at hK
  rw [h2] at hV
  injection hK with hK
  injection hV with hV
  subst hK hV
  exact ⟨g, hg, rfl, l, es, clock, e2, hh, hl⟩
theorem qdx {n : Int} {v : Value} (hE : x.ev cx.v = .i n) (h : (AV.v x (.int .i64) [] []).pd cx p W v) : v = .int .i64 n ∧ i64 n := by
 obtain ⟨m, e, rfl, hr⟩ := jz h
 rw [hE] at e
 injection e with e
 subst e
 exact ⟨rfl, q52.1 hr⟩
theorem z46 {k : Nat} (hE : x.ev cx.v = eC c) (h : q0p cx p W k ⟨x, qn, [], []⟩) : ∃ g, p (k * 16) = some g ∧ c.ok ∧ ∃ T, qo T = some qn ∧ W.heap[g]? = some (.cells (ceL c).toArray T (0, 0)) := by
 obtain ⟨g, cs, T, hg, hh, hT, hc⟩ := h
 rw [hE] at hc
 obtain ⟨cs⟩ := cs
 have hr : Rd W (FFD cx.A p []) (eC c) qn cs := Con.rd hc (fun _ h => h) (fun _ h => h)
 obtain rfl := quu hr
 exact ⟨g, hg, z4t hr, T, hT, hh⟩
end
end
section
open Go.RowKit Go.Shelf
structure KOk (l n bs bc m NB : Nat) (css : List Value) (s : So) (c0 : Ce) (K : Nat → Nat → World → Prop) (J : World → Prop) : Prop where
 rd : ∀ k N W, K k N W → N ≤ W.heap.size ∧ (∃ T, W.heap[bs]? = some (.cells css.toArray T (0, 0))) ∧ Rd W (fun b => b < NB ∧ b ≠ bc) (eS s) qi css
 step : ∀ k N W W', K k N W → But (fun b => b = bc ∨ b = m) W W' → K k N W'
 yield : ∀ k N W a, K k N W → (yf s c0)[k]? = some a → a.ok → YieldAt (FR none) (n - 1) Tryz.prog l #[.string a.name, .agg (ceL a.val).toArray] W fun e W' =>
  W.heap.size ≤ W'.heap.size ∧ (∀ b, b < W.heap.size → N ≤ b ∨ b = bc ∨ b = m → W'.heap[b]? = W.heap[b]?) ∧ (e = .returned (.bool true) ∧ K (k + 1) W'.heap.size W' ∨ e = .returned (.bool false) ∧ J W')
 stop : ∀ W W', J W → But Nil W W' → J W'
structure MidOk (l bs bc m : Nat) (s : So) (c : Ce) (M : List D) (i : Int) (nm : ByteArray) (tl : Ce) (b6 : Nat) (a : Act) (W : World) : Prop where
 z : a.tmps.size = 67
 d : a.defers = []
 t0 : a.tmps[0]? = some (yvV l)
 t1 : a.tmps[1]? = some (ptV bs)
 t2 : a.tmps[2]? = some (ptV bc)
 t4 : a.tmps[4]? = some (.map (some m))
 t6 : a.tmps[6]? = some (ptV b6)
 t10 : a.tmps[10]? = some (.string nm)
 t14 : a.tmps[14]? = some (.int .i64 (s.cs.length : Nat))
 t15 : a.tmps[15]? = some (.int .i64 i)
 hc : ∃ T, qo T = some qn ∧ W.heap[bc]? = some (.cells (ceL c).toArray T (0, 0))
 hm : ∃ es clock, W.heap[m]? = some (.map es clock) ∧ q6a .str .bool M es.toList
 h6 : ∃ T, W.heap[b6]? = some (.cells (ceL tl).toArray T (0, 0))
 co : c.ok
 tlo : tl.ok
 ir : i64 i
 nml : nm.size ≤ LIM
def sYm : St := ⟨[(10, .v (.tok 4) .str [] []), (0, .sn 0 .any), (1, .sn 1 (.rd (.tok 0) qi [] none)), (2, .ref 2 [] 0 qn), (4, .sn 4 (.v (.tok 2) mpT [(0, 65)] [])), (6, .ref 6 [] 0 qn), (14, .v (.len (.fld (.tok 0) 0)) (.int .i64) [] []), (15, .v (.tok 3) (.int .i64) [] [])], [(6, ⟨.tok 5, qn, [], []⟩), (2, ⟨.tok 1, qn, [], []⟩)]⟩
section
variable {NB n l bs bc m : Nat} {css : List Value} {s : So} {c tl vl : Ce} {M : List D} {i : Int} {nm : ByteArray} {a : Act} {W W0 : World} {p : qm} {r : List D} {b6 : Nat}
abbrev qh0 (s : So) (c : Ce) (M : List D) (i : Int) (nm : ByteArray) (tl : Ce) (r : List D) : List D := eS s :: eC c :: .mp M :: .i i :: .s nm :: eC tl :: r
theorem zbq (hm : bc ≠ m) (hb : Bs (itX l bs bc m).A (itX l bs bc m).F W0 (pinned (itP bc m)) p W) (hf : SF ((itX l bs bc m).at (qb q1v) (qh0 s c M i nm tl r)) sYm p W a) (hd : a.defers = []) (hz : a.tmps.size = 67) : ∃ b6, W0.heap.size ≤ b6 ∧ b6 < W.heap.size ∧ b6 ≠ bc ∧ b6 ≠ m ∧ MidOk l bs bc m s c M i nm tl b6 a W := by
 obtain ⟨v0, t0, e0, -⟩ := hf.t 0 _ (by kernel_rfl : lkA sYm.t 0 = some (.sn 0 .any))
 obtain ⟨v1, t1, e1, -⟩ := hf.t 1 _ (by kernel_rfl : lkA sYm.t 1 = some (.sn 1 (.rd (.tok 0) qi [] none)))
 obtain ⟨v2, t2, g2, q2, e2, hat⟩ := hf.t 2 _ (by kernel_rfl : lkA sYm.t 2 = some (.ref 2 [] 0 qn))
 obtain ⟨v4, t4, e4, h4⟩ := hf.t 4 _ (by kernel_rfl : lkA sYm.t 4 = some (.sn 4 (.v (.tok 2) mpT [(0, 65)] [])))
 obtain ⟨v6, t6, g6, q6, e6, -⟩ := hf.t 6 _ (by kernel_rfl : lkA sYm.t 6 = some (.ref 6 [] 0 qn))
 obtain ⟨v10, t10, h10⟩ := hf.t 10 _ (by kernel_rfl : lkA sYm.t 10 = some (.v (.tok 4) .str [] []))
 obtain ⟨v14, t14, h14⟩ := hf.t 14 _ (by kernel_rfl : lkA sYm.t 14 = some (.v (.len (.fld (.tok 0) 0)) (.int .i64) [] []))
 obtain ⟨v15, t15, h15⟩ := hf.t 15 _ (by kernel_rfl : lkA sYm.t 15 = some (.v (.tok 3) (.int .i64) [] []))
 have hat : itP bc m 32 = some g2 := hat (.inl (by omega))
 have hg2 : bc = g2 := Option.some.inj hat
 subst hg2
 subst e0 e1 e2 e6
 obtain ⟨g4, q4, e4', l4, es, clock, h4e, h4h, h4l⟩ := z3i h4
 have e4 : v4 = .map (some m) := e4
 rw [e4] at e4'
 injection e4' with e4'
 injection e4' with e4'
 subst e4' e4
 have h4e : D.mp M = D.mp l4 := h4e
 injection h4e with h4e
 subst h4e
 obtain ⟨s10, e10, rfl, hl10⟩ := qfs h10
 have e10 : D.s nm = D.s s10 := e10
 injection e10 with e10
 subst e10
 obtain ⟨rfl, -⟩ := qdx (n := (s.cs.length : Nat)) (by
  show D.i (((eS s).fld 0).rs.length : Nat) = _
  rw [qer, q6i, List.length_map]) h14
 obtain ⟨rfl, hi⟩ := qdx (n := i) rfl h15
 obtain ⟨g6', q6', tlo, T6, -, h6⟩ := z46 (c := tl) rfl (hf.m 6 _ (by kernel_rfl : lkA sYm.m 6 = some ⟨.tok 5, qn, [], []⟩))
 obtain ⟨gc, qc, co, Tc, hTc, hc⟩ := z46 (c := c) rfl (hf.m 2 _ (by kernel_rfl : lkA sYm.m 2 = some ⟨.tok 1, qn, [], []⟩))
 have q6 : p (6 * 16) = some g6 := q6
 rw [q6] at q6'
 injection q6' with q6'
 subst q6'
 have q2 : p (2 * 16) = some bc := q2
 rw [q2] at qc
 injection qc with qc
 subst qc
 have n1 : g6 ≠ bc := fun e => by
  have := hb.inj _ _ _ q6 (e ▸ q2)
  omega
 have n2 : g6 ≠ m := fun e => by
  have := hb.inj _ _ _ q6 (e ▸ q4)
  omega
 refine ⟨g6, ?_, hb.bd _ _ q6, n1, n2, ⟨hz, hd, t0, t1, t2, t4, t6, t10, t14, t15, ⟨Tc, hTc, hc⟩, ⟨es, clock, h4h, h4l⟩, ⟨T6, h6⟩, co, tlo, hi, hl10⟩⟩
 rcases hb.pin _ _ q6 with h | h
 ·rcases z5a.1 h with h | h
  ·exact absurd h n1
  ·exact absurd h n2
 ·exact h
theorem zb6 (h : MidOk l bs bc m s c M i nm tl b6 a W) (hs : ∃ T, W.heap[bs]? = some (.cells css.toArray T (0, 0))) (rd : Rd W (fun b => b < NB ∧ b ≠ bc) (eS s) qi css) (so : s.ok) (hbs : bs < NB) (hbc : bs ≠ bc) (hcb : bc < NB) (hmb : NB ≤ m) (h6c : b6 ≠ bc) (h6m : b6 ≠ m) : SF ((itX l bs bc m).at (qb q1v) (qh0 s c M i nm tl r)) sP (itP bc m) W a := by
 have hp : ∀ x b, itP bc m x = some b → b = bc ∨ NB ≤ b := fun x b hx => (q6r hx).imp (·.2) fun e => by omega
 refine ⟨fun t x hx => ?_, fun k e he => ?_⟩
 ·have hx := qx hx
  simp only [sP, gnM] at hx
  rcases hx with ⟨rfl, rfl⟩ | ⟨rfl, rfl⟩ | ⟨rfl, rfl⟩ | ⟨rfl, rfl⟩ | ⟨rfl, rfl⟩ | ⟨rfl, rfl⟩ | ⟨rfl, rfl⟩ | ⟨rfl, rfl⟩
  ·exact ⟨_, h.t0, rfl, trivial⟩
  ·exact ⟨_, h.t1, z90 rfl rfl rfl hp hbs hbc hs rd⟩
  ·exact ⟨_, h.t2, bc, rfl, rfl, fun _ => rfl⟩
  ·exact ⟨_, h.t4, zbn rfl rfl rfl h.hm⟩
  ·obtain ⟨T, h6⟩ := h.h6
   refine ⟨_, h.t6, b6, 0, ceL tl, rfl, .inl ⟨trivial, fun x hx => ?_⟩, fun j v hj => ?_, Nat.zero_lt_succ _, qvt h.tlo, trivial⟩
   ·rcases q6r hx with ⟨-, e⟩ | ⟨-, e⟩
    ·exact h6c e
    ·exact h6m e
   ·rw [cell_of_row W b6 _ _ T (0, 0) h6, Nat.zero_add]
    simpa using hj
  ·exact ⟨_, h.t10, [.string nm], rfl, Con.of_rd (show Rd W _ (.s nm) .str _ from ⟨rfl, rfl, h.nml⟩)⟩
  ·refine ⟨_, h.t14, qxv ?_ (qx6 so)⟩
   show D.i (((eS s).fld 0).rs.length : Nat) = _
   rw [qer, q6i, List.length_map]
  ·exact ⟨_, h.t15, qxv rfl h.ir⟩
 ·have he := qx he
  simp only [sP, gnM] at he
  obtain ⟨rfl, rfl⟩ := he
  obtain ⟨T, hT, hc⟩ := h.hc
  exact ⟨bc, _, T, rfl, hc, hT, Con.of_rd (show Rd W _ (eC c) qn (ceL c).toArray.toList from qvt h.co)⟩
theorem SF.cons {σ : St} {k : Nat} {x : AV} {v : Value} (hf : SF cx σ p W a) (hv : a.tmps[k]? = some v) (hx : x.pd cx p W v) : SF cx ⟨(k, x) :: σ.t, σ.m⟩ p W a := by
 refine ⟨fun t y hy => ?_, hf.m⟩
 by_cases e : k = t
 ·subst e
  have hy : lkA ((k, x) :: σ.t) k = some y := hy
  rw [qf] at hy
  injection hy with hy
  subst hy
  exact ⟨v, hv, hx⟩
 ·exact hf.t t y (by rw [← qh e]; exact hy)
theorem SF.forget {l6 r' : List D} (hr : l6.length = 6) (hf : SF (cx.at (qb q1v) (l6 ++ r')) sP p W a) : SF (cx.at (qb q1v) l6) sP p W a := by
 have e : q2a [] [] 6 (q1p [] [] [] 6 sP) = sP := by kernel_rfl
 rw [← e]
 exact qnx (c := cx.at (qb q1v) (l6 ++ r')) (c' := cx.at (qb q1v) l6) (da := []) (db := []) rfl rfl ⟨rfl, rfl, rfl⟩ (fun k hk => by
  show (l6 ++ r').getD k .u = l6.getD k .u
  simp only [List.getD_eq_getElem?_getD]
  rw [List.getElem?_append_left (by omega)]) (fun i hi => absurd hi (Nat.not_lt_zero _)) (qh1 hf) rfl rfl
end
end
end Go.Proofs.YtdaadonfbnedaaaGreat
