/-
 Lemmas of the walk and plain laws, put together. No condition.
-/
import Derived.Deep.RegionLaw
import Derived.Lib.AppendZerosOnto
import Derived.Shelf.Spec.SlicesInsert
import Derived.StillTailTactics
import Derived.TacticsInMore
import Derived.Test.YtdaadonfbnedaaaGreatLe
namespace Go.Proofs.YtdaadonfbnedaaaGreat
open Go.RowKit
set_option linter.unusedVariables false
set_option linter.unusedSimpArgs false
set_option maxRecDepth 100000
theorem rows_eq {l m : List D} (hl : l.length = m.length) (h : ∀ j, j < l.length → l.getD j .u = m.getD j .u) : l = m := by
 refine List.ext_getElem hl fun j h1 h2 => ?_
 have := h j h1
 simpa [gnG, h1, h2] using this
theorem get_k (l : List D) (k : Nat) : (D.r l).get (k : Int) = l.getD k .u := rfl
def eqT : Tree := (.br (.not (.eq (.len (.tok 0)) (.len (.tok 1)))) (.leaf [(.lit (.b .false))]) (.loop 4 2 [(.lit (.b .false)), (.lit (.i 0))] (.br (.lt (.tok 3) (.len (.tok 0))) (.need [(.le (.lit (.i 0)) (.tok 3)), (.lt (.tok 3) (.len (.tok 1))), (.le (.lit (.i 0)) (.tok 3)), (.lt (.tok 3) (.len (.tok 0)))] (.br (.not (.eq (.get (.tok 0) (.tok 3)) (.get (.tok 1) (.tok 3)))) (.leaf [(.lit (.b .false))]) (.need [(.rng .i64 (.add (.tok 3) (.lit (.i 1))))] (.back 4 [(.tok 2), (.add (.tok 3) (.lit (.i 1)))])))) (.leaf [(.lit (.b .true))]))))
variable {S : Nat → List D → Option (List D)} {R : List D → Prop} {B : Nat → List D → Prop}
theorem eqT_ok {l m : List D} (hl : l.length ≤ LIM) (hR : R [.b (decide (l = m))]) : eqT.go S R [.r l, .r m] B := by
 simp only [LIM] at hl
 rw [eqT, qj]
 refine ⟨fun hx => ?_, fun hx => ?_⟩
 ·have : ¬ l = m := fun e => by subst e; simp [X.ev, evl, D.rs, D.tt] at hx
  rw [decide_eq_false this] at hR
  exact hR
 have hlen : l.length = m.length := by
  simp [X.ev, evl, D.rs, D.tt] at hx
  omega
 refine qws l.length (fun j => decide (l.getD j .u = m.getD j .u)) (v0 := .b false) rfl fun k B' hk hP hB _ => ?_
 rw [qj]
 refine ⟨fun hlt => ?_, fun hlt => ?_⟩
 ·have hkl : k < l.length := by simpa [X.ev, evl, D.int, D.rs, D.tt] using hlt
  simp only [gnZ, get_k]
  refine ⟨⟨by omega, by omega, by omega, by omega⟩, fun hb => ?_, fun hb => ⟨⟨by omega, by omega⟩, ?_⟩⟩
  ·have : ¬ l = m := fun e => by subst e; simp at hb
   rw [decide_eq_false this] at hR
   exact hR
  ·exact hB hkl (by simpa using hb)
 ·have : k = l.length := by
   have : ¬ (k < l.length) := by simpa [X.ev, evl, D.int, D.rs, D.tt] using hlt
   omega
  subst this
  have : l = m := rows_eq hlen fun j hj => by simpa using hP j hj
  rw [decide_eq_true this] at hR
  exact hR
def gEq : List D → Option (List D)
 | [a, b] => some [.b (decide (a = b))]
 | _ => none
def zc0 (n : Nat) (d : D) : Bool := decide (d.rs.length ≤ n)
theorem z3o (n : Nat) (l : List D) : (zc0 n (.r l) = true) = (l.length ≤ n) := by simp only [zc0, gnD]; rfl
def gCl (n : Nat) : List D → Option (List D)
 | [a] => if zc0 n a then some [a] else none
 | _ => none
def clT (n : Nat) : Tree := (.amb (.tok 0) .false (.leaf [(.lit (.r []))]) (.need [(.le (.add (.lit (.i 0)) (.len (.tok 0))) (.lit (.i (n : Nat))))] (.leaf [(.app (.row []) (.tok 0))])))
theorem zb8 {l : List D} {n : Nat} (hl : l.length ≤ n) (hR : R [.r l]) : (clT n).go S R [.r l] B := by
 refine ⟨fun h => ?_, fun _ => ?_⟩
 ·have : l = [] := h rfl
  subst this
  exact hR
 ·rw [qa]
  refine ⟨by simp only [gnZ]; omega, ?_⟩
  simpa [qd, X.evs, X.ev, evl, D.rs] using hR
theorem qdk : FOk jn (gCl 3518437208780) := qc8 fun ds outs hw hg => by
 obtain ⟨d, r, rfl, hd, rfl⟩ := hw
 obtain ⟨l, te, rfl, -⟩ := hd.row
 simp only [gCl, z3o, Option.ite_none_right_eq_some, Option.some.injEq] at hg
 obtain ⟨h1, rfl⟩ := hg
 exact zb8 h1 rfl
def clQ (s : So) : Bool := decide (s.cs.length ≤ 8796093021952) && (decide (s.ys.length ≤ 5864062014634) && (decide (s.tr.length ≤ 5864062014634) && decide (s.wk.length ≤ 3518437208780)))
def gClone : List D → Option (List D)
 | [s] => if clQ (dS s) then some [eS (dS s)] else none
 | _ => none
theorem clQ_of {s : So} (hs : s.ok) : clQ s = true := by
 simp only [clQ, gnB, gnD]
 exact ⟨hs.cs.1, hs.ys.1, hs.tr.1, hs.wk.1⟩
theorem ok_ref30_Clone : FOk ct_ref30_Clone gClone := fok_ref30_Clone fun ds outs hw hg => by
 obtain ⟨d, r, rfl, hd, rfl⟩ := hw
 obtain ⟨s, rfl, hs⟩ := wfS hd
 simp only [gClone, zk, Option.ite_none_right_eq_some, Option.some.injEq] at hg
 obtain ⟨hq, rfl⟩ := hg
 simp only [clQ, gnB, gnD] at hq
 simp only [tree_ref30_Clone, gnZ, eS, D.fs, D.fld]
 simp
 omega
def gSame : List D → Option (List D)
 | [a, b] => some [.b (decide (a = b))]
 | _ => none
theorem ok_ref30_Same : FOk ct_ref30_Same gSame := fok_ref30_Same fun ds outs hw hg => by
 obtain ⟨d, r, rfl, hd, e, r', rfl, he, rfl⟩ := hw
 obtain ⟨s, rfl, hs⟩ := wfS hd
 obtain ⟨t, rfl, ht⟩ := wfS he
 simp only [gSame, Option.some.injEq] at hg
 subst hg
 have hl := hs.cs.1
 have hl1 := hs.ys.1
 have hl2 := hs.tr.1
 have hl3 := hs.wk.1
 have e0 : decide (eS s = eS t) = decide (s = t) := by simp [zhf]
 rw [e0]
 have no : ¬ s = t → [D.b false] = [D.b (decide (s = t))] := fun h => by rw [decide_eq_false h]
 rw [tree_ref30_Same, qj]
 refine ⟨fun hx => ?_, fun hx => ?_⟩
 ·refine no fun e => ?_
  subst e
  simp [X.ev, evl, D.tt] at hx
 simp only [gnZ] at hx
 have hx' : s.cs.length = t.cs.length ∧ s.ys.length = t.ys.length ∧ s.tr.length = t.tr.length ∧ s.wk.length = t.wk.length ∧ s.ser = t.ser ∧ s.mx = t.mx := by
  simp at hx
  omega
 obtain ⟨q1, q2, q3, q4, q5, q6⟩ := hx'
 refine qws s.cs.length (fun j => decide ((s.cs.map eC).getD j .u = (t.cs.map eC).getD j .u)) (v0 := .b false) rfl fun k B' hk hP hB _ => ?_
 rw [qj]
 refine ⟨fun hlt => ?_, fun hlt => ?_⟩
 ·have hkl : k < s.cs.length := by simpa [X.ev, evl, qer, D.int, D.rs, D.tt] using hlt
  simp only [gnZ, get_k]
  refine ⟨⟨by omega, by omega, by omega, by omega⟩, fun hb => ?_, fun hb => ⟨⟨by omega, by omega⟩, ?_⟩⟩
  ·refine no fun e => ?_
   subst e
   simp at hb
  ·exact hB hkl (by simpa only [Bool.not_eq_false'] using hb)
 have hc0 : ∀ j, j < (s.cs.map eC).length → (s.cs.map eC).getD j .u = (t.cs.map eC).getD j .u := by
  have : k = s.cs.length := by
   have : ¬ (k < s.cs.length) := by simpa [X.ev, evl, qer, D.int, D.rs, D.tt] using hlt
   omega
  subst this
  exact fun j hj => by simpa only [gnD] using hP j (by simpa using hj)
 refine qws s.ys.length (fun j => decide ((s.ys.map eY).getD j .u = (t.ys.map eY).getD j .u)) (v0 := .b false) rfl fun k B' hk hP hB _ => ?_
 rw [qj]
 refine ⟨fun hlt => ?_, fun hlt => ?_⟩
 ·have hkl : k < s.ys.length := by simpa [X.ev, evl, zcg, D.int, D.rs, D.tt] using hlt
  simp only [gnZ, get_k]
  refine ⟨⟨by omega, by omega, by omega, by omega⟩, fun hb => ?_, fun hb => ⟨⟨by omega, by omega⟩, ?_⟩⟩
  ·refine no fun e => ?_
   subst e
   simp at hb
  ·exact hB hkl (by simpa only [Bool.not_eq_false'] using hb)
 have hc1 : ∀ j, j < (s.ys.map eY).length → (s.ys.map eY).getD j .u = (t.ys.map eY).getD j .u := by
  have : k = s.ys.length := by
   have : ¬ (k < s.ys.length) := by simpa [X.ev, evl, zcg, D.int, D.rs, D.tt] using hlt
   omega
  subst this
  exact fun j hj => by simpa only [gnD] using hP j (by simpa using hj)
 refine qws s.tr.length (fun j => decide ((s.tr.map eU).getD j .u = (t.tr.map eU).getD j .u)) (v0 := .b false) rfl fun k B' hk hP hB _ => ?_
 rw [qj]
 refine ⟨fun hlt => ?_, fun hlt => ?_⟩
 ·have hkl : k < s.tr.length := by simpa [X.ev, evl, z45, D.int, D.rs, D.tt] using hlt
  simp only [gnZ, get_k]
  refine ⟨⟨by omega, by omega, by omega, by omega⟩, fun hb => ?_, fun hb => ⟨⟨by omega, by omega⟩, ?_⟩⟩
  ·refine no fun e => ?_
   subst e
   simp at hb
  ·exact hB hkl (by simpa only [Bool.not_eq_false'] using hb)
 have hc2 : ∀ j, j < (s.tr.map eU).length → (s.tr.map eU).getD j .u = (t.tr.map eU).getD j .u := by
  have : k = s.tr.length := by
   have : ¬ (k < s.tr.length) := by simpa [X.ev, evl, z45, D.int, D.rs, D.tt] using hlt
   omega
  subst this
  exact fun j hj => by simpa only [gnD] using hP j (by simpa using hj)
 refine qws s.wk.length (fun j => decide ((s.wk.map eW).getD j .u = (t.wk.map eW).getD j .u)) (v0 := .b false) rfl fun k B' hk hP hB _ => ?_
 rw [qj]
 refine ⟨fun hlt => ?_, fun hlt => ?_⟩
 ·have hkl : k < s.wk.length := by simpa [X.ev, evl, z24, D.int, D.rs, D.tt] using hlt
  simp only [gnZ, get_k]
  refine ⟨⟨by omega, by omega, by omega, by omega⟩, fun hb => ?_, fun hb => ⟨⟨by omega, by omega⟩, ?_⟩⟩
  ·refine no fun e => ?_
   subst e
   simp at hb
  ·exact hB hkl (by simpa only [Bool.not_eq_false'] using hb)
 have hc3 : ∀ j, j < (s.wk.map eW).length → (s.wk.map eW).getD j .u = (t.wk.map eW).getD j .u := by
  have : k = s.wk.length := by
   have : ¬ (k < s.wk.length) := by simpa [X.ev, evl, z24, D.int, D.rs, D.tt] using hlt
   omega
  subst this
  exact fun j hj => by simpa only [gnD] using hP j (by simpa using hj)
 have e1 := map_inj (fun _ _ => z2d) (rows_eq (by simpa using q1) hc0)
 have e2 := map_inj (fun _ _ => qy2) (rows_eq (by simpa using q2) hc1)
 have e3 := map_inj (fun _ _ => zbd) (rows_eq (by simpa using q3) hc2)
 have e4 := map_inj (fun _ _ => zbh) (rows_eq (by simpa using q4) hc3)
 have : s = t := by cases s; cases t; simp_all
 subst this
 simp [qd, X.evs, X.ev]
def fnd (nm : ByteArray) (ar : Int) : Nat → List Sy → Int
 | _, [] => -1
 | k, y :: l => if y.name = nm ∧ y.ar = ar then (k : Int) else fnd nm ar (k + 1) l
def qd1 (s : So) (nm : ByteArray) (ar : Int) : Int := fnd nm ar 0 s.ys
theorem qup {α : Type} [Inhabited α] {l : List α} {k : Nat} (h : k < l.length) : l.drop k = l.getD k default :: l.drop (k + 1) := by
 rw [List.drop_eq_getElem_cons h]
 simp [gnG, h]
variable {nm : ByteArray} {ar : Int}
theorem zc9 {l : List Sy} {k : Nat} (h : k < l.length) : fnd nm ar k (l.drop k) = if (l.getD k default).name = nm ∧ (l.getD k default).ar = ar then (k : Int) else fnd nm ar (k + 1) (l.drop (k + 1)) := by
 rw [qup h]
 rfl
def qb1 : List D → Option (List D)
 | [s, y] => some [.i (qd1 (dS s) (y.fld 0).str (y.fld 1).int)]
 | _ => none
def zoc : List D → Option (List D)
 | [s, nm, ar] => some [.i (qd1 (dS s) nm.str ar.int)]
 | _ => none
theorem qfa : FOk zx qb1 := qoq fun ds outs hw hg => by
 obtain ⟨d, r, rfl, hd, e, r', rfl, he, rfl⟩ := hw
 obtain ⟨s, rfl, hs⟩ := wfS hd
 obtain ⟨y, rfl, hy⟩ := wfY he
 simp only [qb1, zk, z88, z7h, q2s, yv, Option.some.injEq] at hg
 subst hg
 have hl := hs.ys.1
 rw [q7d, jt]
 refine ⟨fun st => ∃ k : Nat, k ≤ s.ys.length ∧ st = [.i 0, .i k] ∧ fnd y.name y.ar k (s.ys.drop k) = qd1 s y.name y.ar, fun st => s.ys.length - (st.getD 1 .u).int.toNat, ⟨0, Nat.zero_le _, rfl, rfl⟩, ?_⟩
 rintro st - ⟨k, hk, rfl, hf⟩
 simp only [gnZ]
 refine ⟨fun hlt => ?_, fun hlt => ?_⟩
 ·have hkn : k < s.ys.length := by omega
  rw [zc9 hkn] at hf
  simp only [q7o eY hkn, qv4]
  generalize s.ys.getD k default = z at hf
  refine ⟨⟨by omega, by omega⟩, fun he => ?_, fun he => ⟨⟨by omega, by omega⟩, ?_⟩⟩
  ·have he' : z = y := by simpa using he
   subst he'
   rw [if_pos ⟨rfl, rfl⟩] at hf
   rw [← hf]
  ·have he' : ¬ z = y := by simpa using he
   have hne : ¬ (z.name = y.name ∧ z.ar = y.ar) := fun h => he' (by cases z; cases y; simp_all)
   rw [if_neg hne] at hf
   rw [q2p, if_pos rfl]
   refine ⟨⟨k + 1, hkn, by simp, hf⟩, ?_⟩
   simp [D.int]
   omega
 ·have : k = s.ys.length := by omega
  subst this
  rw [List.drop_length] at hf
  rw [← hf]
  rfl
def qfk (nm : ByteArray) (ar : Int) : Bool := decide (100 < (nm.size : Int)) || (decide (ar < 0) || decide (8 < ar))
def zcv : List D → Option (List D)
 | [s, nm, ar] => if qfk nm.str ar.int then some [.i 0, .i 1, eS (dS s)] else if decide (0 ≤ qd1 (dS s) nm.str ar.int) then some [.i (qd1 (dS s) nm.str ar.int), .i 0, eS (dS s)]
   else if decide (1048576 ≤ (dS s).ys.length) then some [.i 0, .i 13, eS (dS s)] else some [.i (dS s).ys.length, .i 0, eS { dS s with ys := (dS s).ys ++ [⟨nm.str, ar.int⟩] }]
 | _ => none
theorem zkr (s : So) (y : Sy) : D.a ((eS s).fs.set 1 (.r (s.ys.map eY ++ [eY y]))) = eS { s with ys := s.ys ++ [y] } := by simp [eS, D.fs]
theorem qm4 : FOk z9 zcv := qkm qfa fun ds outs hw hg => by
 obtain ⟨d, r, rfl, hd, e, r', rfl, he, f, r2, rfl, hf', rfl⟩ := hw
 obtain ⟨s, rfl, hs⟩ := wfS hd
 obtain ⟨nm, rfl, hn⟩ := he.str
 obtain ⟨ar, rfl, ha⟩ := wfI hf'
 simp only [zcv, zk, q2s, yv] at hg
 have ey : D.a [.s nm, .i ar] = eY ⟨nm, ar⟩ := rfl
 simp only [q5a, gnZ, qb1, ey, zkr]
 cases hb : qfk nm ar with
 | true =>
  simp only [hb, if_true, Option.some.injEq] at hg
  subst hg
  have hb' : (decide (100 < (nm.size : Int)) || decide (ar < 0) || decide (8 < ar)) = true := by rw [Bool.or_assoc]; exact hb
  rw [hb']
  exact ⟨fun _ => rfl, fun h => (by cases h)⟩
 | false =>
  simp only [hb, gnF, if_false] at hg
  have hb' : (decide (100 < (nm.size : Int)) || decide (ar < 0) || decide (8 < ar)) = false := by rw [Bool.or_assoc]; exact hb
  rw [hb']
  refine ⟨fun h => (by cases h), fun _ => ⟨fun h0 => ?_, fun h0 => ⟨fun h1 => ?_, fun h1 => ?_⟩⟩⟩
  ·rw [if_pos (decide_eq_true h0)] at hg
   exact gnI hg
  ·have h1' : 1048576 ≤ s.ys.length := by omega
   rw [if_neg (by simpa using h0), if_pos (decide_eq_true h1')] at hg
   exact gnI hg
  ·have h1' : ¬ 1048576 ≤ s.ys.length := by omega
   rw [if_neg (by simpa using h0), if_neg (by simpa using h1')] at hg
   have := gnI hg
   subst this
   simp [eS, D.fld, D.fs, D.rs]
   omega
def qz3 : List D → Option (List D)
 | [s] => if decide ((dS s).mx ≤ (dS s).cs.length) then some [eC ⟨0, 0⟩, .i 13, eS (dS s)] else if decide ((dS s).cs.length < 8796093021952) then some [eC ⟨0, (dS s).cs.length⟩, .i 0, eS { dS s with cs := (dS s).cs ++ [⟨0, (dS s).cs.length⟩] }] else none
 | _ => none
theorem z35 (s : So) (y : Ce) : D.a ((eS s).fs.set 0 (.r (s.cs.map eC ++ [eC y]))) = eS { s with cs := s.cs ++ [y] } := by simp [eS, D.fs]
theorem qcm : FOk qz qz3 := qlo fun ds outs hw hg => by
 obtain ⟨d, r, rfl, hd, rfl⟩ := hw
 obtain ⟨s, rfl, hs⟩ := wfS hd
 simp only [qz3, zk] at hg
 simp only [q64, gnZ, qfd, z35]
 refine ⟨fun h0 => ?_, fun h0 => ?_⟩
 ·rw [if_pos (decide_eq_true h0)] at hg
  exact gnI hg
 ·rw [if_neg (by simpa using h0)] at hg
  split at hg
  ·rename_i h1
   have h1 := of_decide_eq_true h1
   have := gnI hg
   exact ⟨by omega, this⟩
  ·cases hg
structure VS (s : So) : Prop where
 tag : ∀ i : Int, inS s i = true → 0 ≤ (cellAt s i).t ∧ (cellAt s i).t ≤ 5
variable {c : Ce}
theorem zfh {s : So} (h : vcR s c = true) : c.t = 0 ∨ c.t = 1 ∨ c.t = 2 ∨ c.t = 3 ∨ c.t = 5 := by
 unfold vcR at h
 by_cases h0 : c.t = 0
 ·exact .inl h0
 ·by_cases h1 : c.t = 1
  ·exact .inr (.inl h1)
  ·by_cases h2 : c.t = 2
   ·exact .inr (.inr (.inl h2))
   ·by_cases h3 : c.t = 3
    ·exact .inr (.inr (.inr (.inl h3)))
    ·by_cases h5 : c.t = 5
     ·exact .inr (.inr (.inr (.inr h5)))
     ·simp [h0, h1, h2, h3, h5] at h
theorem qk5 {s : So} (h : y9 s = true) : VS s := by
 simp only [y9, gnB] at h
 refine ⟨fun i hi => ?_⟩
 have h1 := z5.1 hi
 have hk := z2z h.2.1 (k := i.toNat) (by omega)
 rw [show ((i.toNat : Nat) : Int) = i by omega] at hk
 unfold q9p at hk
 by_cases h4 : (cellAt s i).t = 4
 ·omega
 ·rw [if_neg h4] at hk
  simp only [gnB] at hk
  have := zfh hk.1
  omega
theorem VS.tag_in {s : So} (h : VS s) (n : Int) : decide (0 ≤ q2e s n) = inS s n := by
 cases hi : inS s n with
 | true =>
  rw [q5c hi]
  exact decide_eq_true (h.tag n hi).1
 | false =>
  rw [qaf hi]
  decide
theorem VS.vc {s : So} (h : VS s) (c : Ce) : vcP s c = vcR s c := by
 unfold vcP vcR
 rw [h.tag_in]
inductive Te where
 | mk (k n : Int) (s : ByteArray) (l : List Te)
instance : Inhabited Te := ⟨.mk 0 0 ⟨#[]⟩ []⟩
def Te.k : Te → Int | .mk k _ _ _ => k
def Te.n : Te → Int | .mk _ n _ _ => n
def Te.s : Te → ByteArray | .mk _ _ s _ => s
def Te.l : Te → List Te | .mk _ _ _ l => l
variable {P : Te → Prop}
mutual
theorem Te.ind0 (h : ∀ k n s l, (∀ t ∈ l, P t) → P (.mk k n s l)) : ∀ t, P t
 | .mk k n s l => h k n s l (Te.inds h l)
theorem Te.inds (h : ∀ k n s l, (∀ t ∈ l, P t) → P (.mk k n s l)) : ∀ (l : List Te), ∀ t ∈ l, P t
 | [], _, ht => by cases ht
 | u :: l, t, ht => by
  exact (List.mem_cons.1 ht).elim (fun e => e ▸ Te.ind0 h u) fun h' => Te.inds h l t h'
end
mutual
def eT : Te → D
 | .mk k n s l => .a [.i k, .i n, .s s, .r (eTs l)]
def eTs : List Te → List D
 | [] => []
 | t :: l => eT t :: eTs l
end
theorem z4r : ∀ l, eTs l = l.map eT
 | [] => rfl
 | t :: l => by rw [eTs, z4r l, List.map_cons]
theorem qlk (k n : Int) (s : ByteArray) (l : List Te) : eT (.mk k n s l) = .a [.i k, .i n, .s s, .r (l.map eT)] := by rw [eT, z4r]
mutual
def dT : D → Te
 | .a [.i k, .i n, .s s, .r l] => .mk k n s (dTs l)
 | _ => .mk 0 0 ⟨#[]⟩ []
def dTs : List D → List Te
 | [] => []
 | d :: l => dT d :: dTs l
end
mutual
theorem q1w : ∀ t, dT (eT t) = t
 | .mk k n s l => by simp only [eT, dT, z6j l]
theorem z6j : ∀ l, dTs (eTs l) = l
 | [] => rfl
 | t :: l => by simp only [eTs, dTs, q1w t, z6j l]
end
variable {t : Te}
theorem zi7 {u : Te} (h : eT t = eT u) : t = u := by rw [← q1w t, h, q1w u]
theorem zhd (t u : Te) : (eT t = eT u) = (t = u) := propext ⟨zi7, fun h => h ▸ rfl⟩
theorem zjh (t : Te) : (eT t).fld 0 = .i t.k := by cases t; rfl
theorem zj1 (t : Te) : (eT t).fld 1 = .i t.n := by cases t; rfl
theorem zkl (t : Te) : (eT t).fld 2 = .s t.s := by cases t; rfl
theorem zl1 (t : Te) : (eT t).fld 3 = .r (t.l.map eT) := by cases t; rw [qlk]; rfl
theorem zdn (k n : Int) (s : ByteArray) (l : List Te) (x : Te) : D.a ((eT (.mk k n s l)).fs.set 3 (.r (l.map eT ++ [eT x]))) = eT (.mk k n s (l ++ [x])) := by
 rw [qlk, qlk]
 simp [D.fs]
def zT : Te := .mk 0 0 ⟨#[]⟩ []
theorem zlr : D.a [.i 0, .i 0, .s ⟨#[]⟩, .r []] = eT zT := rfl
theorem gnT : type_of% (And.intro @q1w (And.intro @zjh (And.intro @zj1 (And.intro @zkl (And.intro @zl1 (And.intro @zhd @zlr)))))) := And.intro @q1w (And.intro @zjh (And.intro @zj1 (And.intro @zkl (And.intro @zl1 (And.intro @zhd @zlr)))))
mutual
def szT : Te → Nat
 | .mk _ _ _ l => q4g l + 1
def q4g : List Te → Nat
 | [] => 0
 | t :: l => szT t + q4g l
end
theorem zg7 (t : Te) : 1 ≤ szT t := by cases t; rw [szT]; omega
theorem z1o : ∀ {l : List Te}, t ∈ l → szT t ≤ q4g l
 | u :: l, h => by
  rcases List.mem_cons.1 h with rfl | h
  ·rw [q4g]; omega
  ·have := z1o h; rw [q4g]; omega
theorem zgf {u : Te} (h : u ∈ t.l) : szT u < szT t := by
 cases t
 have := z1o h
 rw [szT]
 exact Nat.lt_succ_of_le this
theorem qhe : ∀ (l m : List Te), q4g (l ++ m) = q4g l + q4g m
 | [], m => by simp [q4g]
 | t :: l, m => by rw [List.cons_append, q4g, q4g, qhe l m]; omega
theorem qvb {l : List Te} {k : Nat} (h : k < l.length) : q4g (l.take (k + 1)) = q4g (l.take k) + szT (l.getD k default) := by
 rw [qae h, qhe]
 simp [q4g]
theorem z1t : ∀ (l : List Te), l.length ≤ q4g l
 | [] => Nat.le_refl _
 | t :: l => by have := z1t l; have := zg7 t; rw [q4g, List.length_cons]; omega
theorem zh4 (t : Te) : szT t = q4g t.l + 1 := by cases t; rw [szT]; rfl
mutual
def okT : Te → Prop
 | .mk k n s l => i64 k ∧ i64 n ∧ s.size ≤ LIM ∧ l.length ≤ 2513169434843 ∧ ze5 l
def ze5 : List Te → Prop
 | [] => True
 | t :: l => okT t ∧ ze5 l
end
theorem z0x : ∀ {l : List Te}, ze5 l ↔ ∀ t ∈ l, okT t
 | [] => ⟨fun _ t h => (by cases h), fun _ => trivial⟩
 | t :: l => by rw [ze5, z0x]; simp
theorem z87 {k n : Int} {s : ByteArray} {l : List Te} : okT (.mk k n s l) ↔ i64 k ∧ i64 n ∧ s.size ≤ LIM ∧ l.length ≤ 2513169434843 ∧ ∀ t ∈ l, okT t := by rw [okT, z0x]
theorem okT.l (h : okT t) : t.l.length ≤ 2513169434843 := by cases t; exact (z87.1 h).2.2.2.1
theorem z4d (d : D) : (Wf d qki → ∃ t, d = eT t ∧ okT t) ∧ (Wf d qin → ∃ l : List Te, d = .r (l.map eT) ∧ l.length ≤ 2513169434843 ∧ ∀ t ∈ l, okT t) := by
 have noS : ∀ {d : D}, Wf d qki → ∃ l, d = .a l := fun h => let ⟨l, e, _⟩ := h.st_of (fs := [.int .i64, .int .i64, .str, qin]) rfl; ⟨l, e⟩
 have noR : ∀ {d : D}, Wf d qin → ∃ l, d = .r l := fun h => let ⟨l, e, _⟩ := h.row_of (te := qki) rfl; ⟨l, e⟩
 induction d using D.ind with
 | hu => exact ⟨fun h => (by obtain ⟨_, e⟩ := noS h; cases e), fun h => (by obtain ⟨_, e⟩ := noR h; cases e)⟩
 | hi n => exact ⟨fun h => (by obtain ⟨_, e⟩ := noS h; cases e), fun h => (by obtain ⟨_, e⟩ := noR h; cases e)⟩
 | hb n => exact ⟨fun h => (by obtain ⟨_, e⟩ := noS h; cases e), fun h => (by obtain ⟨_, e⟩ := noR h; cases e)⟩
 | hs n => exact ⟨fun h => (by obtain ⟨_, e⟩ := noS h; cases e), fun h => (by obtain ⟨_, e⟩ := noR h; cases e)⟩
 | hm n => exact ⟨fun h => (by obtain ⟨_, e⟩ := noS h; cases e), fun h => (by obtain ⟨_, e⟩ := noR h; cases e)⟩
 | ha l ih =>
  refine ⟨fun h => ?_, fun h => (by obtain ⟨_, e⟩ := noR h; cases e)⟩
  obtain ⟨ds, e, hl⟩ := h.st_of (fs := [.int .i64, .int .i64, .str, qin]) rfl
  injection e with e
  subst e
  obtain ⟨d0, r, rfl, h0, hl⟩ := q96 hl
  obtain ⟨d1, r, rfl, h1, hl⟩ := q96 hl
  obtain ⟨d2, d3, rfl, h2, h3⟩ := qzw hl
  obtain ⟨k, rfl, hk⟩ := wfI h0
  obtain ⟨n, rfl, hn⟩ := wfI h1
  obtain ⟨s, rfl, hs⟩ := h2.str
  obtain ⟨ts, rfl, h4, h5⟩ := (ih d3 (by simp)).2 h3
  exact ⟨.mk k n s ts, (qlk _ _ _ _).symm, z87.2 ⟨hk, hn, hs, h4, h5⟩⟩
 | hr l ih =>
  refine ⟨fun h => (by obtain ⟨_, e⟩ := noS h; cases e), fun h => ?_⟩
  obtain ⟨l', e, h1, h2⟩ := h.row_of (te := qki) rfl
  injection e with e
  subst e
  obtain ⟨m, rfl, h3⟩ := qb7 (e := eT) (P := okT) fun x hx => (ih x hx).1 (h2 x hx)
  have e : LM qki = 2513169434843 := by kernel_rfl
  rw [e, List.length_map] at h1
  exact ⟨m, rfl, h1, h3⟩
variable {d : D}
theorem wfT (h : Wf d qki) : ∃ t, d = eT t ∧ okT t := (z4d d).1 h
theorem zo5 (h : Wf d qin) : ∃ l : List Te, d = .r (l.map eT) ∧ l.length ≤ 2513169434843 ∧ ∀ t ∈ l, okT t := (z4d d).2 h
def q8v (t : Te) : Bool :=
 if t.k = 0 then decide (0 ≤ t.n) && (decide (t.n ≤ 1099511627776) && (decide (t.s = ⟨#[]⟩) && decide ((t.l.length : Int) = 0)))
 else if t.k = 1 then decide (t.s = ⟨#[]⟩) && decide ((t.l.length : Int) = 0)
 else if t.k = 2 then decide (t.n = 0) && (decide ((t.s.size : Int) ≤ 100) && decide ((t.l.length : Int) = 0))
 else if t.k = 3 then decide (t.n = 0) && (decide ((t.s.size : Int) ≤ 100) && (decide (1 ≤ (t.l.length : Int)) && decide ((t.l.length : Int) ≤ 8)))
 else false
mutual
def jv : Te → Bool
 | .mk k n s l => q8v (.mk k n s l) && qb6 l
def qb6 : List Te → Bool
 | [] => true
 | t :: l => jv t && qb6 l
end
theorem ql5 : ∀ {l : List Te}, qb6 l = true ↔ ∀ t ∈ l, jv t = true
 | [] => ⟨fun _ t h => (by cases h), fun _ => rfl⟩
 | t :: l => by rw [qb6, gnB, ql5]; simp
theorem qri (t : Te) : jv t = (q8v t && (List.range t.l.length).all fun i => jv (t.l.getD i default)) := by
 cases t with
 | mk k n s l =>
  rw [jv]
  congr 1
  rw [Bool.eq_iff_iff, ql5, List.all_eq_true]
  refine ⟨fun h i hi => h _ (qik (List.mem_range.1 hi)), fun h t ht => ?_⟩
  obtain ⟨i, hi, rfl⟩ := List.getElem_of_mem ht
  have := h i (List.mem_range.2 hi)
  rwa [show (Te.mk k n s l).l.getD i default = l[i] by simp [Te.l, gnG, gnK hi]] at this
def q2w (t : Te) : Bool := decide (szT t ≤ 2000) && jv t
mutual
def idT : Te → Te → Bool
 | .mk k n s l, .mk k' n' s' l' => decide (k = k') && (decide (n = n') && (decide (s = s') && z2m l l'))
def z2m : List Te → List Te → Bool
 | [], [] => true
 | t :: l, u :: m => idT t u && z2m l m
 | _, _ => false
end
mutual
theorem qxq : ∀ (t u : Te), idT t u = true ↔ t = u
 | .mk k n s l, .mk k' n' s' l' => by simp [idT, qzp l l']
theorem qzp : ∀ (l m : List Te), z2m l m = true ↔ l = m
 | [], [] => by simp [z2m]
 | t :: l, u :: m => by simp [z2m, qxq t u, qzp l m]
 | [], _ :: _ => by simp [z2m]
 | _ :: _, [] => by simp [z2m]
end
instance : DecidableEq Te := fun t u => if h : idT t u = true then .isTrue ((qxq t u).1 h) else .isFalse fun e => h ((qxq t u).2 e)
def mT (ds : List D) : Nat := szT (dT (ds.getD 0 .u))
def zfm : List D → Option (List D)
 | [t, m] => if 1 ≤ m.int then some [.i (min (szT (dT t) : Int) m.int)] else none
 | _ => none
def gTi (f : Te → Int) : List D → Option (List D)
 | [t] => some [.i (f (dT t))]
 | _ => none
def gTb (f : Te → Bool) : List D → Option (List D)
 | [t] => some [.b (f (dT t))]
 | _ => none
def gTT (f : Te → Te) : List D → Option (List D)
 | [t] => some [eT (f (dT t))]
 | _ => none
theorem zo7 (k n : Int) (s : ByteArray) (l : List Te) : (Te.mk k n s l).l = l := rfl
theorem qr5 {l : List Te} {k : Nat} (h : k < l.length) : (D.r (l.map eT)).get (k : Int) = eT (l.getD k default) := q7o eT h
theorem qgb {k : Nat} (h : k < t.l.length) : szT (t.l.getD k default) < szT t := zgf (qik h)
theorem qq7 : FOk yd zfm := qb3 (m := mT) q58 fun N ih => qbq ih fun ds outs hw hg => by
 obtain ⟨d, r, rfl, hd, e, r', rfl, he, rfl⟩ := hw
 obtain ⟨t, rfl, ht⟩ := wfT hd
 obtain ⟨m, rfl, hm⟩ := wfI he
 simp only [q5l, mT, zfm, List.getD_cons_zero, q1w, yv, Option.ite_none_right_eq_some, Option.some.injEq] at hg
 obtain ⟨hsz, h1, rfl⟩ := hg
 have hl := ht.l
 rw [q3a, jt]
 refine ⟨fun st => ∃ k : Nat, k ≤ t.l.length ∧ st = [.i (min ((q4g (t.l.take k) : Int) + 1) m), .i k], fun st => t.l.length - (st.getD 1 .u).int.toNat, ⟨0, Nat.zero_le _, by simp [X.evs, X.ev, q4g]; omega⟩, ?_⟩
 rintro st - ⟨k, hk, rfl⟩
 rw [qj]
 refine ⟨fun hlt => ?_, fun hlt => ?_⟩
 ·simp only [gnZ, gnT, gnB] at hlt
  obtain ⟨hkl, hlm⟩ := hlt
  have hkl' : k < t.l.length := by omega
  have ha := qgb hkl'
  have hs := qvb hkl'
  have hmn : 1 ≤ m - min ((q4g (t.l.take k) : Int) + 1) m := by omega
  simp only [gnZ, gnT, qr5 hkl', q5l, mT, zfm, if_pos hmn, if_pos (show szT (t.l.getD k default) < N by omega)]
  refine ⟨⟨by omega, by omega, by omega, by omega⟩, ⟨by omega, by omega⟩, ?_⟩
  rw [q2p, if_pos rfl]
  refine ⟨⟨k + 1, by omega, ?_⟩, ?_⟩
  ·rw [hs]
   simp
   omega
  ·simp [D.int]
   omega
 ·simp only [gnZ, gnT, Bool.and_eq_false_iff] at hlt
  simp only [gnZ, gnT]
  have hz := zh4 t
  have : min ((q4g (t.l.take k) : Int) + 1) m = min (szT t : Int) m := by
   rcases hlt with h | h
   ·have : k = t.l.length := by omega
    subst this
    rw [List.take_length]
    omega
   ·have h2 := qhe (t.l.take k) (t.l.drop k)
    rw [List.take_append_drop] at h2
    omega
  rw [this]
theorem qud : FOk jw (gTi fun t => min (szT t : Int) 2001) := qcl qq7 fun ds outs hw hg => by
 obtain ⟨d, r, rfl, hd, rfl⟩ := hw
 obtain ⟨t, rfl, ht⟩ := wfT hd
 simp only [gTi, q1w, Option.some.injEq] at hg
 subst hg
 simp [q45, gnZ, gnT, zfm]
theorem qsz : FOk jx (gTb q8v) := qcz fun ds outs hw hg => by
 obtain ⟨d, r, rfl, hd, rfl⟩ := hw
 obtain ⟨t, rfl, ht⟩ := wfT hd
 simp only [gTb, q1w, Option.some.injEq] at hg
 subst hg
 simp only [q48, gnZ, gnT, q8v]
 by_cases h0 : t.k = 0
 ·simp [h0, Bool.and_assoc]
 ·by_cases h1 : t.k = 1
  ·simp [h1]
  ·by_cases h2 : t.k = 2
   ·simp [h2, Bool.and_assoc]
   ·by_cases h3 : t.k = 3
    ·simp [h3, Bool.and_assoc]
    ·simp [h0, h1, h2, h3]
theorem q87 (t : Te) : jv t = true ↔ q8v t = true ∧ ∀ j, j < t.l.length → jv (t.l.getD j default) = true := by
 rw [qri, gnB, List.all_eq_true]
 simp
theorem qsk : FOk zz (gTb jv) := qb3 (m := mT) q5f fun N ih => qbl qsz ih fun ds outs hw hg => by
 obtain ⟨d, r, rfl, hd, rfl⟩ := hw
 obtain ⟨t, rfl, ht⟩ := wfT hd
 simp only [q5l, mT, gTb, List.getD_cons_zero, q1w, yv, Option.ite_none_right_eq_some, Option.some.injEq] at hg
 obtain ⟨hsz, rfl⟩ := hg
 have hl := ht.l
 simp only [q3b, gnZ, gnT, gTb]
 refine ⟨fun hn => ?_, fun hn => ?_⟩
 ·rw [qri, show q8v t = false by simpa using hn]
  rfl
 have hn : q8v t = true := by simpa using hn
 rw [jt]
 refine ⟨fun st => ∃ k : Nat, k ≤ t.l.length ∧ st = [.b false, .i k] ∧ ∀ j, j < k → jv (t.l.getD j default) = true, fun st => t.l.length - (st.getD 1 .u).int.toNat, ⟨0, Nat.zero_le _, rfl, fun j hj => absurd hj (Nat.not_lt_zero _)⟩, ?_⟩
 rintro st - ⟨k, hk, rfl, hP⟩
 rw [qj]
 refine ⟨fun hlt => ?_, fun hlt => ?_⟩
 ·simp only [gnZ, gnT] at hlt
  have hkl' : k < t.l.length := by omega
  have ha := qgb hkl'
  simp only [gnZ, gnT, qr5 hkl', q5l, mT, gTb, if_pos (show szT (t.l.getD k default) < N by omega)]
  refine ⟨⟨by omega, by omega⟩, fun hx => ?_, fun hx => ⟨⟨by omega, by omega⟩, ?_⟩⟩
  ·have : jv t = false := by
    cases hh : jv t with
    | false => rfl
    | true => rw [((q87 t).1 hh).2 k hkl'] at hx; cases hx
   rw [this]
  ·rw [q2p, if_pos rfl]
   refine ⟨⟨k + 1, by omega, by simp, q2i hP (by simpa using hx)⟩, ?_⟩
   simp [D.int]
   omega
 ·simp only [gnZ, gnT] at hlt ⊢
  have : k = t.l.length := by omega
  subst this
  rw [(q87 t).2 ⟨hn, hP⟩]
theorem zc7 : FOk ji (gTb q2w) := qbr qud qsk fun ds outs hw hg => by
 obtain ⟨d, r, rfl, hd, rfl⟩ := hw
 obtain ⟨t, rfl, ht⟩ := wfT hd
 simp only [gTb, q1w, Option.some.injEq] at hg
 subst hg
 have e : decide (min (szT t : Int) 2001 ≤ 2000) = decide (szT t ≤ 2000) := by rw [decide_eq_decide]; omega
 simp [q37, gnZ, gnT, gTi, gTb, q2w, e]
def zgu : List D → Option (List D)
 | [t, m] => if 1 ≤ m.int then some [.i (m.int - min (szT (dT t) : Int) m.int)] else none
 | _ => none
theorem qqr : FOk j4 zgu := qb3 (m := mT) q9m fun N ih => qmm ih fun ds outs hw hg => by
 obtain ⟨d, r, rfl, hd, e, r', rfl, he, rfl⟩ := hw
 obtain ⟨t, rfl, ht⟩ := wfT hd
 obtain ⟨m, rfl, hm⟩ := wfI he
 simp only [q5l, mT, zgu, List.getD_cons_zero, q1w, yv, Option.ite_none_right_eq_some, Option.some.injEq] at hg
 obtain ⟨hsz, h1, rfl⟩ := hg
 have hl := ht.l
 rw [q66, qa]
 refine ⟨by simp only [gnZ, gnT]; omega, ?_⟩
 rw [jt]
 refine ⟨fun st => ∃ k : Nat, k ≤ t.l.length ∧ st = [.i k, .i (m - min ((q4g (t.l.take k) : Int) + 1) m)], fun st => t.l.length - (st.getD 0 .u).int.toNat, ⟨0, Nat.zero_le _, by simp [X.evs, X.ev, q4g, evl, D.int]; omega⟩, ?_⟩
 rintro st - ⟨k, hk, rfl⟩
 rw [qj]
 refine ⟨fun hlt => ?_, fun hlt => ?_⟩
 ·simp only [gnZ, gnT, gnB] at hlt
  obtain ⟨hkl, hlm⟩ := hlt
  have hkl' : k < t.l.length := by omega
  have ha := qgb hkl'
  have hs := qvb hkl'
  have hmn : 1 ≤ m - min ((q4g (t.l.take k) : Int) + 1) m := by omega
  simp only [gnZ, gnT, qr5 hkl', q5l, mT, zgu, if_pos hmn, if_pos (show szT (t.l.getD k default) < N by omega)]
  refine ⟨⟨by omega, by omega⟩, ⟨by omega, by omega⟩, ?_⟩
  rw [q2p, if_pos rfl]
  refine ⟨⟨k + 1, by omega, ?_⟩, ?_⟩
  ·rw [hs]
   simp
   omega
  ·simp [D.int]
   omega
 ·simp only [gnZ, gnT, Bool.and_eq_false_iff] at hlt
  simp only [gnZ, gnT]
  have hz := zh4 t
  have : m - min ((q4g (t.l.take k) : Int) + 1) m = m - min (szT t : Int) m := by
   rcases hlt with h | h
   ·have : k = t.l.length := by omega
    subst this
    rw [List.take_length]
    omega
   ·have h2 := qhe (t.l.take k) (t.l.drop k)
    rw [List.take_append_drop] at h2
    omega
  rw [this]
theorem qhj : FOk jk (gTi fun t => min (szT t : Int) 2001) := quh qqr fun ds outs hw hg => by
 obtain ⟨d, r, rfl, hd, rfl⟩ := hw
 obtain ⟨t, rfl, ht⟩ := wfT hd
 simp only [gTi, q1w, Option.some.injEq] at hg
 subst hg
 simp [q8o, gnZ, gnT, zgu]
 omega
theorem qid : FOk zr (gTb jv) := qb3 (m := mT) qbk fun N ih => qt9 ih fun ds outs hw hg => by
 obtain ⟨d, r, rfl, hd, rfl⟩ := hw
 obtain ⟨t, rfl, ht⟩ := wfT hd
 simp only [q5l, mT, gTb, List.getD_cons_zero, q1w, yv, Option.ite_none_right_eq_some, Option.some.injEq] at hg
 obtain ⟨hsz, rfl⟩ := hg
 have hl := ht.l
 have key : ∀ (x : X), x.ev (evl (qb [(zr, q5l mT N (gTb jv))]) [eT t]) = .b (q8v t) → Tree.go (qb [(zr, q5l mT N (gTb jv))]) (fun o => o = [D.b (jv t)]) (.loop 12 1 [x, (.lit (.i 0))] (.br (.and (.lt (.tok 2) (.len (.fld (.tok 0) 3))) (.tok 1)) (.need [(.le (.lit (.i 0)) (.tok 2)), (.lt (.tok 2) (.len (.fld (.tok 0) 3))), (.ok 0 [(.get (.fld (.tok 0) 3) (.tok 2))])] (.need [(.rng .i64 (.add (.tok 2) (.lit (.i 1))))] (.back 12 [(.call 0 0 [(.get (.fld (.tok 0) 3) (.tok 2))]), (.add (.tok 2) (.lit (.i 1)))]))) (.leaf [(.tok 1)]))) [eT t] fun _ _ => False := by
  intro x hx
  rw [jt]
  refine ⟨fun st => ∃ (k : Nat) (v : Bool), k ≤ t.l.length ∧ st = [.b v, .i k] ∧ (v = true ↔ q8v t = true ∧ ∀ j, j < k → jv (t.l.getD j default) = true), fun st => t.l.length - (st.getD 1 .u).int.toNat, ⟨0, q8v t, Nat.zero_le _, by simp only [X.evs, hx, X.ev]; rfl, by simp⟩, ?_⟩
  rintro st - ⟨k, v, hk, rfl, hv⟩
  rw [qj]
  refine ⟨fun hlt => ?_, fun hlt => ?_⟩
  ·simp only [gnZ, gnT, gnB] at hlt
   obtain ⟨hlt, rfl⟩ := hlt
   have hkl' : k < t.l.length := by omega
   have ha := qgb hkl'
   simp only [gnZ, gnT, qr5 hkl', q5l, mT, gTb, if_pos (show szT (t.l.getD k default) < N by omega)]
   refine ⟨⟨by omega, by omega⟩, ⟨by omega, by omega⟩, ?_⟩
   rw [q2p, if_pos rfl]
   have hv' := hv.1 rfl
   refine ⟨⟨k + 1, _, by omega, rfl, ⟨fun h => ⟨hv'.1, q2i hv'.2 h⟩, fun h => h.2 k (Nat.lt_succ_self _)⟩⟩, ?_⟩
   simp [D.int]
   omega
  ·simp only [gnZ, gnT, Bool.and_eq_false_iff] at hlt
   simp only [gnZ, gnT]
   rw [show v = jv t from ?_]
   cases hvv : v with
   | false =>
    cases hh : jv t with
    | false => rfl
    | true =>
     have h2 := (q87 t).1 hh
     rw [hv.2 ⟨h2.1, fun j hj => h2.2 j (by omega)⟩] at hvv
     cases hvv
   | true =>
    have : k = t.l.length := by
     rcases hlt with h | h
     ·omega
     ·rw [hvv] at h; cases h
    subst this
    exact ((q87 t).2 (hv.1 hvv)).symm
 rw [q8p]
 simp only [qj]
 have e0 : ∀ z : Int, (X.eq (.fld (.tok 0) 0) (.lit (.i z))).ev (evl (qb [(zr, q5l mT N (gTb jv))]) [eT t]) = .b (decide (t.k = z)) := fun z => by
  simp only [gnZ, gnT]
 simp only [e0, q5i, gnD, decide_eq_false_iff_not]
 refine ⟨fun h => key _ ?_, fun h0 => ⟨fun h => key _ ?_, fun h1 => ⟨fun h => key _ ?_, fun h2 => ⟨fun h => key _ ?_, fun h3 => key _ ?_⟩⟩⟩⟩
 all_goals simp only [gnZ, gnT, q8v]
 ·simp [h, Bool.and_assoc]
 ·simp [h, Bool.and_assoc]
 ·simp [h, Bool.and_assoc]
 ·have e8 : decide (0 < (t.l.length : Int)) = decide (1 ≤ (t.l.length : Int)) := rfl
  rw [e8]
  simp [h, Bool.and_assoc]
 ·simp [h0, h1, h2, h3]
theorem qa4 : FOk yg (gTb q2w) := qqx qhj qid fun ds outs hw hg => by
 obtain ⟨d, r, rfl, hd, rfl⟩ := hw
 obtain ⟨t, rfl, ht⟩ := wfT hd
 simp only [gTb, q1w, Option.some.injEq] at hg
 subst hg
 have e : decide (min (szT t : Int) 2001 ≤ 2000) = decide (szT t ≤ 2000) := by rw [decide_eq_decide]; omega
 simp [q77, gnZ, gnT, gTi, gTb, q2w, e]
theorem qnb : FOk jy (gTT id) := qks fun ds outs hw hg => by
 obtain ⟨d, r, rfl, hd, rfl⟩ := hw
 obtain ⟨t, rfl, ht⟩ := wfT hd
 simp only [gTT, q1w, Option.some.injEq] at hg
 subst hg
 simp only [q5b, gnZ, gnT, id]
theorem qu2 : FOk jg (gTT id) := qb3 (m := mT) qa8 fun N ih => qom qnb ih fun ds outs hw hg => by
 obtain ⟨d, r, rfl, hd, rfl⟩ := hw
 obtain ⟨t, rfl, ht⟩ := wfT hd
 simp only [q5l, mT, gTT, List.getD_cons_zero, q1w, yv, Option.ite_none_right_eq_some, Option.some.injEq] at hg
 obtain ⟨hsz, rfl⟩ := hg
 have hl := ht.l
 rw [q7a, qj]
 refine ⟨fun h => ?_, fun h => ?_⟩
 ·simp only [gnZ, gnT, gTT, id]
 rw [jt]
 refine ⟨fun st => ∃ k : Nat, k ≤ t.l.length ∧ st = [.i k, eT (.mk t.k t.n t.s (t.l.take k))], fun st => t.l.length - (st.getD 0 .u).int.toNat, ⟨0, Nat.zero_le _, by simp only [X.evs, X.ev, evl, List.getD_cons_zero, zjh, zj1, zkl, qlk]; rfl⟩, ?_⟩
 rintro st - ⟨k, hk, rfl⟩
 rw [qj]
 refine ⟨fun hlt => ?_, fun hlt => ?_⟩
 ·simp only [gnZ, gnT] at hlt
  have hkl' : k < t.l.length := by omega
  have ha := qgb hkl'
  simp only [gnZ, gnT, qr5 hkl', q5l, mT, gTT, if_pos (show szT (t.l.getD k default) < N by omega), id, zo7, List.length_take]
  refine ⟨⟨by omega, by omega⟩, by omega, ⟨by omega, by omega⟩, ?_⟩
  rw [q2p, if_pos rfl]
  refine ⟨⟨k + 1, by omega, ?_⟩, ?_⟩
  ·rw [qae hkl', zdn]
   rfl
  ·simp [D.int]
   omega
 ·simp only [gnZ, gnT] at hlt ⊢
  have : k = t.l.length := by omega
  subst this
  rw [List.take_length]
  cases t
  rfl
theorem qf2 : FOk zw (gTT fun t => if q2w t then t else zT) := qs5 qa4 qu2 fun ds outs hw hg => by
 obtain ⟨d, r, rfl, hd, rfl⟩ := hw
 obtain ⟨t, rfl, ht⟩ := wfT hd
 simp only [gTT, q1w, Option.some.injEq] at hg
 subst hg
 simp only [q79, gnZ, gnT, gTb, gTT, id]
 cases q2w t <;> simp
def gSt (f : ByteArray → Te) : List D → Option (List D)
 | [s] => some [eT (f s.str)]
 | _ => none
def qbm (s : ByteArray) : Te := if s.size ≤ 100 then .mk 2 0 s [] else zT
theorem q57 : FOk zq (gSt qbm) := qu3 qf2 fun ds outs hw hg => by
 obtain ⟨d, r, rfl, hd, rfl⟩ := hw
 obtain ⟨s, rfl, hs⟩ := hd.str
 simp only [gSt, q2s, Option.some.injEq] at hg
 subst hg
 have e : D.a ((D.a ([D.i 0, .i 0, .s ⟨#[]⟩, .r []].set 0 (.i 2))).fs.set 2 (.s s)) = eT (.mk 2 0 s []) := rfl
 simp only [q8g, gnZ, gnT, gTT, zm6]
 have e2 : D.a (((eT zT).fs.set 0 (.i 2)).set 2 (.s s)) = eT (.mk 2 0 s []) := rfl
 simp only [e2]
 have : q2w (.mk 2 0 s []) = decide (s.size ≤ 100) := by
  rw [Bool.eq_iff_iff]
  simp [q2w, szT, q4g, jv, qb6, q8v, Te.k, Te.n, Te.s, Te.l]
  exact Iff.trans decide_eq_true_iff (Int.ofNat_le (n := 100))
 simp only [q1w, this, qbm, gnD]
theorem qyl {s : So} (h : y9 s = true) : qf5 s = true := by
 simp only [y9, gnB] at h
 exact h.1
theorem zel {s : So} (h : y9 s = true) : qbv s.ys = true := by
 have := qyl h
 simp only [qf5, gnB] at this
 exact this.2.2.2.2
theorem qxg {s : So} (h : y9 s = true) : s.cs.length ≤ 1048576 := by
 have := qyl h
 simp only [qf5, gnB, gnD] at this
 omega
variable {i : Int}
theorem qob {s : So} (h : y9 s = true) (hi : inS s i = true) : q9p s i = true := by
 simp only [y9, gnB] at h
 have h1 := z5.1 hi
 have hk := z2z h.2.1 (k := i.toNat) (by omega)
 rwa [show ((i.toNat : Nat) : Int) = i by omega] at hk
theorem z6o {s : So} (h : y9 s = true) (hi : inS s i = true) (ht : (cellAt s i).t ≠ 4) : vcR s (cellAt s i) = true := by
 have := qob h hi
 unfold q9p at this
 rw [if_neg ht] at this
 simp only [gnB] at this
 exact this.1
theorem zgj {s : So} (h : y9 s = true) (hi : inS s i = true) : qs4 s i = true := by
 by_cases ht : (cellAt s i).t = 4
 ·exact (En.st (fun hn => by have := hn.1; rw [q5c hi] at this; omega)).ends
 ·have := qob h hi
  unfold q9p at this
  rw [if_neg ht] at this
  simp only [gnB] at this
  exact this.2.1
theorem qxu {s : So} (h : vcR s c = true) (ht : c.t = 0) : inS s c.n = true ∧ (cellAt s c.n).t ≠ 4 := by
 unfold vcR at h
 rw [if_pos ht] at h
 simp only [gnB, Bool.not_eq_true', decide_eq_false_iff_not] at h
 rw [q5c h.1] at h
 exact h
theorem zl8 {s : So} (h : y9 s = true) {n : Int} (hn : Ns s n) : inS s (nx s n) = true := by
 have hi := hn.inS
 have ht : (cellAt s n).t = 0 := by have := hn.1; rwa [q5c hi] at this
 exact (qxu (z6o h hi (by omega)) ht).1
theorem zju {s : So} (h : y9 s = true) (hi : inS s i = true) (ht : (cellAt s i).t = 4) : 1 ≤ arS s (cellAt s i).n ∧ arS s (cellAt s i).n ≤ 8 ∧ ∀ j : Nat, (j : Int) < arS s (cellAt s i).n → inS s (i + 1 + j) = true ∧ vcR s (cellAt s (i + 1 + j)) = true := by
 have := qob h hi
 unfold q9p at this
 rw [if_pos ht] at this
 simp only [gnB, gnD, List.all_eq_true, List.mem_range, Bool.not_eq_true', decide_eq_false_iff_not] at this
 obtain ⟨h1, h2, h3⟩ := this
 refine ⟨h1, (z0y (zel h) _).2, fun j hj => ?_⟩
 have q := z5.1 h2
 have q1 := z5.1 hi
 have hin : inS s (i + 1 + j) = true := z5.2 ⟨by omega, by omega⟩
 refine ⟨hin, z6o h hin ?_⟩
 have := h3 j (by omega)
 rw [show i + ((j : Int) + 1) = i + 1 + j by omega, q5c hin] at this
 exact this
theorem z8r {s : So} {n : Int} (h : 0 ≤ arS s n) : 0 ≤ n ∧ n < s.ys.length ∧ arS s n = (s.ys.getD n.toNat default).ar := by
 unfold arS at h ⊢
 split at h
 ·rename_i hn
  rw [if_pos hn]
  exact ⟨hn.1, hn.2, rfl⟩
 ·omega
def qar (s : So) (n : Int) : Sy := s.ys.getD n.toNat default
theorem z1g {s : So} (hv : ∀ m, Ns s m → inS s (nx s m) = true) : ∀ (k : Nat) (n : Int), inS s n = true → q2y s (k + 1) n = true → q2y s k n = false → ∃ l : List Int, l.length = k + 1 ∧ l.Nodup ∧ (∀ x ∈ l, inS s x = true) ∧ ∀ x ∈ l, ∃ j, j ≤ k ∧ q2y s (j + 1) x = true
 | 0, n, hi, h1, _ => ⟨[n], rfl, by simp, (fun x hx => by rw [List.mem_singleton.1 hx]; exact hi), fun x hx => ⟨0, Nat.le_refl _, by rw [List.mem_singleton.1 hx]; exact h1⟩⟩
 | k + 1, n, hi, h1, h2 => by
  have hn : Ns s n := Classical.byContradiction fun hn => by rw [qhv hn] at h2; cases h2
  have h1' := h1
  rw [q91 hn] at h1 h2
  obtain ⟨l, e1, e2, e3, e4⟩ := z1g hv k _ (hv n hn) h1 h2
  refine ⟨n :: l, by simp [e1], ?_, fun x hx => ?_, fun x hx => ?_⟩
  ·refine List.nodup_cons.2 ⟨fun hm => ?_, e2⟩
   obtain ⟨j, hj, he⟩ := e4 n hm
   rw [q91 hn] at he
   rw [qrr hj he] at h2
   cases h2
  ·rcases List.mem_cons.1 hx with rfl | hx
   ·exact hi
   ·exact e3 x hx
  ·rcases List.mem_cons.1 hx with rfl | hx
   ·exact ⟨k + 1, Nat.le_refl _, h1'⟩
   ·obtain ⟨j, hj, he⟩ := e4 x hx
    exact ⟨j, by omega, he⟩
theorem z1x {s : So} (h : y9 s = true) {n : Int} (hi : inS s n = true) : q2y s s.cs.length n = true := by
 cases hk' : q2y s s.cs.length n with
 | true => rfl
 | false =>
  obtain ⟨l, e1, e2, e3, -⟩ := z1g (fun m hm => zl8 h hm) s.cs.length n hi (zgj h hi) hk'
  have h1 := qrv s.cs.length (l.map Int.toNat) ?_ ?_
  ·rw [List.length_map, e1] at h1
   omega
  ·refine List.Pairwise.map _ (fun a b h => h) ?_
   refine List.Pairwise.imp_of_mem (R := fun a b => a ≠ b) (fun {a b} ha hb hab e => hab ?_) e2
   have h1 := z5.1 (e3 a ha)
   have h2 := z5.1 (e3 b hb)
   omega
  ·intro x hx
   obtain ⟨a, ha, rfl⟩ := List.mem_map.1 hx
   have h1 := z5.1 (e3 a ha)
   omega
def qad (s : So) : Nat → Ce → Ce
 | 0, c => c
 | k + 1, c => if c.t = 0 ∧ inS s c.n = true ∧ cellAt s c.n ≠ c then qad s k (cellAt s c.n) else c
theorem qxz {s : So} (h : c.t ≠ 0) : ∀ k, qad s k c = c
 | 0 => rfl
 | k + 1 => if_neg fun q => h q.1
theorem qos {s : So} (j : Nat) : ∀ (k : Nat) (n : Int), q2y s k n = true → qad s (k + j) ⟨0, n⟩ = qad s k ⟨0, n⟩
 | 0, n, h => by cases h
 | k + 1, n, h => by
  rw [show k + 1 + j = (k + j) + 1 by omega]
  unfold qad
  split
  ·rename_i hc
   by_cases ht : (cellAt s n).t = 0
   ·have e : cellAt s n = ⟨0, nx s n⟩ := Ce.ext' ht rfl
    have hn : Ns s n := ⟨(q5c hc.2.1).trans ht, fun hn => hc.2.2 (Ce.ext' ht hn)⟩
    rw [q91 hn] at h
    show qad s (k + j) (cellAt s n) = qad s k (cellAt s n)
    rw [e]
    exact qos j k _ h
   ·rw [qxz ht, qxz ht]
  ·rfl
def q35 (s : So) (c : Ce) : Ce := if vcR s c then qad s (s.cs.length + 1) c else ⟨0, 0⟩
theorem z6e {s : So} (h : y9 s = true) (hc : vcR s c = true) : qad s s.cs.length c = qad s (s.cs.length + 1) c := by
 by_cases ht : c.t = 0
 ·have e : c = ⟨0, c.n⟩ := Ce.ext' ht rfl
  rw [e]
  exact (qos 1 _ _ (z1x h (qxu hc ht).1)).symm
 ·rw [qxz ht, qxz ht]
theorem z4z {s : So} (h : y9 s = true) : ∀ (k : Nat) {c : Ce}, vcR s c = true → vcR s (qad s k c) = true
 | 0, c, hc => hc
 | k + 1, c, hc => by
  unfold qad
  split
  ·rename_i q
   exact z4z h k (z6o h q.2.1 (qxu hc q.1).2)
  ·exact hc
theorem qhu {s : So} (h : y9 s = true) (hc : vcR s c = true) : vcR s (q35 s c) = true := by
 rw [q35, if_pos hc]
 exact z4z h _ hc
def z2u : List D → Option (List D)
 | [s, c] => if y9 (dS s) then some [eC (q35 (dS s) (dC c))] else none
 | _ => none
theorem z8z : D.a [.i 0, .i 0] = eC ⟨0, 0⟩ := rfl
theorem z94 : FOk zb z2u := qby yy q80 fun ds outs hw hg => by
 obtain ⟨d, r, rfl, hd, e, r', rfl, he, rfl⟩ := hw
 obtain ⟨s, rfl, hs⟩ := wfS hd
 obtain ⟨c, rfl, hc⟩ := wfC he
 simp only [z2u, zk, yw, Option.ite_none_right_eq_some, Option.some.injEq] at hg
 obtain ⟨hv, rfl⟩ := hg
 have hvs := qk5 hv
 have hl := qxg hv
 have hvc : ∀ c, vcP s c = vcR s c := hvs.vc
 simp only [q3h, gnZ, qb8, hvc, z8z]
 refine ⟨fun h => ?_, fun h => ?_⟩
 ·simp only [q35, show vcR s c = false by simpa using h]
  rfl
 have hvc' : vcR s c = true := by simpa using h
 rw [jt]
 refine ⟨fun st => ∃ (k : Nat) (x : Ce), k ≤ s.cs.length ∧ st = [.i k, eC x] ∧ qad s (s.cs.length - k) x = q35 s c, fun st => s.cs.length - (st.getD 0 .u).int.toNat, ⟨0, c, Nat.zero_le _, rfl, by rw [Nat.sub_zero, z6e hv hvc', q35, if_pos hvc']⟩, ?_⟩
 rintro st - ⟨k, x, hk, rfl, hP⟩
 rw [qj]
 refine ⟨fun hlt => ?_, fun hlt => ?_⟩
 ·simp only [gnZ] at hlt
  have hkl : k < s.cs.length := by omega
  obtain ⟨n, hn⟩ : ∃ n, s.cs.length - k = n + 1 := ⟨s.cs.length - k - 1, by omega⟩
  rw [hn] at hP
  unfold qad at hP
  have hn2 : s.cs.length - (k + 1) = n := by omega
  have ht := hvs.tag_in x.n
  by_cases h0 : x.t = 0
  ·cases hin : inS s x.n with
   | true =>
    have h3 := z5.1 hin
    rw [hin] at ht
    have ht' : ¬ q2e s x.n < 0 := by have := of_decide_eq_true ht; omega
    simp only [gnZ, q82, ze hin, h0, ht', h3.1, h3.2]
    refine ⟨fun hx => ?_, fun hx => ?_⟩
    ·have hx' : cellAt s x.n = x := by simpa using hx
     rw [if_neg (fun q => q.2.2 hx')] at hP
     rw [hP]
    ·have hx' : cellAt s x.n ≠ x := by simpa using hx
     rw [if_pos ⟨h0, hin, hx'⟩] at hP
     refine ⟨⟨by omega, by omega⟩, ?_⟩
     rw [q2p, if_pos rfl]
     refine ⟨⟨k + 1, cellAt s x.n, by omega, by simp, by rw [hn2]; exact hP⟩, ?_⟩
     simp [D.int]
     omega
   | false =>
    rw [hin] at ht
    have ht' : q2e s x.n < 0 := by have := of_decide_eq_false ht; omega
    rw [if_neg (fun q => by rw [hin] at q; cases q.2.1)] at hP
    simp only [gnZ, q82, h0, ht', ← hP]
    simp
  ·rw [if_neg (fun q => h0 q.1)] at hP
   simp only [gnZ, q82, h0, ← hP]
   simp
 ·simp only [gnZ] at hlt ⊢
  have : k = s.cs.length := by omega
  subst this
  rw [Nat.sub_self] at hP
  rw [← hP, qad]
theorem qcu : FOk j3 z2u := qmw q1n q2g fun ds outs hw hg => by
 obtain ⟨d, r, rfl, hd, e, r', rfl, he, rfl⟩ := hw
 obtain ⟨s, rfl, hs⟩ := wfS hd
 obtain ⟨c, rfl, hc⟩ := wfC he
 simp only [z2u, zk, yw, Option.ite_none_right_eq_some, Option.some.injEq] at hg
 obtain ⟨hv, rfl⟩ := hg
 have hl := qxg hv
 simp only [q63, gnZ, qb8, z8z]
 refine ⟨fun h => ?_, fun h => ?_⟩
 ·simp only [q35, show vcR s c = false by simpa using h]
  rfl
 have hvc' : vcR s c = true := by simpa using h
 rw [jt]
 refine ⟨fun st => ∃ (k : Nat) (x : Ce), k ≤ s.cs.length + 1 ∧ st = [.i k, eC x] ∧ qad s (s.cs.length + 1 - k) x = q35 s c, fun st => s.cs.length + 1 - (st.getD 0 .u).int.toNat, ⟨0, c, Nat.zero_le _, rfl, by rw [Nat.sub_zero, q35, if_pos hvc']⟩, ?_⟩
 rintro st - ⟨k, x, hk, rfl, hP⟩
 simp only [qa, qj, qd, qe]
 by_cases hkl : k ≤ s.cs.length
 ·obtain ⟨n, hn⟩ : ∃ n, s.cs.length + 1 - k = n + 1 := ⟨s.cs.length - k, by omega⟩
  rw [hn] at hP
  unfold qad at hP
  have hn2 : s.cs.length + 1 - (k + 1) = n := by omega
  have hk' : (k : Int) ≤ s.cs.length := by omega
  by_cases h0 : x.t = 0
  ·cases hin : inS s x.n with
   | true =>
    have h3 := z5.1 hin
    simp only [gnZ, qa7, ze hin, h0, h3.1, h3.2, hin, hk']
    refine ⟨fun hx => ?_, fun hx => ?_⟩
    ·have hx' : cellAt s x.n ≠ x := by simpa using hx
     rw [if_pos ⟨h0, hin, hx'⟩] at hP
     refine ⟨⟨by omega, by omega⟩, ?_⟩
     rw [q2p, if_pos rfl]
     refine ⟨⟨k + 1, cellAt s x.n, by omega, by simp, by rw [hn2]; exact hP⟩, ?_⟩
     simp [D.int]
     omega
    ·have hx' : cellAt s x.n = x := by simpa using hx
     rw [if_neg (fun q => q.2.2 hx')] at hP
     rw [hP]
   | false =>
    rw [if_neg (fun q => by rw [hin] at q; cases q.2.1)] at hP
    simp only [gnZ, qa7, h0, hin, ← hP]
    simp
  ·rw [if_neg (fun q => h0 q.1)] at hP
   simp only [gnZ, qa7, h0, ← hP]
   simp
 ·have : k = s.cs.length + 1 := by omega
  subst this
  rw [Nat.sub_self] at hP
  have hk' : ¬ ((s.cs.length + 1 : Nat) : Int) ≤ s.cs.length := by omega
  simp only [gnZ, hk', ← hP, qad]
  simp
theorem qlm : FOk q0l (qa7 inS) := qx1 fun ds outs hw hg => by
 obtain ⟨d, r, rfl, hd, e, r', rfl, he, rfl⟩ := hw
 obtain ⟨s, rfl, hs⟩ := wfS hd
 obtain ⟨i, rfl, hi⟩ := wfI he
 simp only [qa7, zk, yv, Option.some.injEq] at hg
 subst hg
 simp only [q9z, gnZ, inS]
def q3m (c : Ce) : Ce := if c.t = 5 then ⟨0, c.n⟩ else c
def q4t : List D → Option (List D)
 | [c] => some [eC (q3m (dC c))]
 | _ => none
theorem qu6 : FOk q1a q4t := qrm fun ds outs hw hg => by
 obtain ⟨d, r, rfl, hd, rfl⟩ := hw
 obtain ⟨c, rfl, hc⟩ := wfC hd
 simp only [q4t, yw, Option.some.injEq] at hg
 subst hg
 simp only [q7j, gnZ, q3m, zhh]
 exact ⟨fun h => by rw [if_pos h], fun h => by rw [if_neg h]⟩
theorem qu8 : FOk q0z q4t := qr8 fun ds outs hw hg => by
 obtain ⟨d, r, rfl, hd, rfl⟩ := hw
 obtain ⟨c, rfl, hc⟩ := wfC hd
 simp only [q4t, yw, Option.some.injEq] at hg
 subst hg
 simp only [q7c, gnZ, q3m, qfd]
 exact ⟨fun h => by rw [if_pos h], fun h => by rw [if_neg h]⟩
def behind (s : So) (a : Int) : Bool := decide (2 ≤ a) && decide ((cellAt s (a - 2)).t = 5)
def q8x (s : So) (a : Int) : Bool := if (cellAt s a).t = 0 then decide ((cellAt s a).n = a) else if (cellAt s a).t = 5 then true else if (cellAt s a).t = 1 ∨ (cellAt s a).t = 2 ∨ (cellAt s a).t = 3 then behind s a else false
def settR (s : So) (a : Int) : Bool := if (cellAt s a).t = 0 ∨ (cellAt s a).t = 5 then decide ((cellAt s a).n = a) else behind s a && !decide ((cellAt s a).t = 4)
theorem qgv : FOk je (qcw inS q8x) := qgj fun ds outs hw hg => by
 obtain ⟨d, r, rfl, hd, e, r', rfl, he, rfl⟩ := hw
 obtain ⟨s, rfl, hs⟩ := wfS hd
 obtain ⟨i, rfl, hi⟩ := wfI he
 simp only [qcw, zk, yv, Option.ite_none_right_eq_some, Option.some.injEq] at hg
 obtain ⟨hin, rfl⟩ := hg
 have h1 := z5.1 hin
 have hl := hs.cs.1
 have hr : i64 (i - 2) := ⟨by omega, by omega⟩
 have hr' := q52.2 hr
 simp only [q3v, gnZ, ze hin, h1, hr, q8x, behind, qfd]
 have e0 : (D.a [.i 0, .i i]) = eC ⟨0, i⟩ := rfl
 by_cases h2 : 2 ≤ i
 ·have hin2 : inS s (i - 2) = true := z5.2 ⟨by omega, by omega⟩
  have q1 : 0 ≤ i - 2 := by omega
  have q2 : i - 2 < s.cs.length := by omega
  simp only [ze hin2, h2, q1, q2, qnd, qp9, hr']
  by_cases c0 : (cellAt s i).t = 0
  ·have : (cellAt s i = ⟨0, i⟩) = ((cellAt s i).n = i) := propext ⟨fun e => by rw [e], fun e => Ce.ext' c0 e⟩
   simp [c0, this]
  ·by_cases c5 : (cellAt s i).t = 5
   ·simp [c5]
   ·by_cases c1 : (cellAt s i).t = 1
    ·simp [c1]
    ·by_cases c2 : (cellAt s i).t = 2
     ·simp [c2]
     ·by_cases c3 : (cellAt s i).t = 3
      ·simp [c3]
      ·simp [c0, c1, c2, c3, c5]
 ·simp only [h2]
  by_cases c0 : (cellAt s i).t = 0
  ·have : (cellAt s i = ⟨0, i⟩) = ((cellAt s i).n = i) := propext ⟨fun e => by rw [e], fun e => Ce.ext' c0 e⟩
   simp [c0, this]
  ·by_cases c5 : (cellAt s i).t = 5
   ·simp [c5]
   ·by_cases c1 : (cellAt s i).t = 1
    ·simp [c1]
    ·by_cases c2 : (cellAt s i).t = 2
     ·simp [c2]
     ·by_cases c3 : (cellAt s i).t = 3
      ·simp [c3]
      ·simp [c0, c1, c2, c3, c5]
theorem ok_ref31_Settable : FOk ct_ref31_Settable (qcw inS settR) := fok_ref31_Settable fun ds outs hw hg => by
 obtain ⟨d, r, rfl, hd, e, r', rfl, he, rfl⟩ := hw
 obtain ⟨s, rfl, hs⟩ := wfS hd
 obtain ⟨i, rfl, hi⟩ := wfI he
 simp only [qcw, zk, yv, Option.ite_none_right_eq_some, Option.some.injEq] at hg
 obtain ⟨hin, rfl⟩ := hg
 have h1 := z5.1 hin
 have hl := hs.cs.1
 have hr : i64 (i - 2) := ⟨by omega, by omega⟩
 have hr' := q52.2 hr
 simp only [tree_ref31_Settable, gnZ, ze hin, h1, hr, settR, behind]
 by_cases h2 : 2 ≤ i
 ·have hin2 : inS s (i - 2) = true := z5.2 ⟨by omega, by omega⟩
  have q1 : 0 ≤ i - 2 := by omega
  have q2 : i - 2 < s.cs.length := by omega
  simp only [ze hin2, h2, q1, q2, qnd, qp9, hr']
  by_cases c0 : (cellAt s i).t = 0
  ·simp [c0]
  ·by_cases c5 : (cellAt s i).t = 5
   ·simp [c5]
   ·simp [c0, c5]
 ·simp only [h2]
  by_cases c0 : (cellAt s i).t = 0
  ·simp [c0]
  ·by_cases c5 : (cellAt s i).t = 5
   ·simp [c5]
   ·simp [c0, c5]
def qkj (s : So) (a : Int) : Nat → Ce → Bool
 | 0, _ => false
 | k + 1, c => if c.t = 0 ∧ inS s c.n = true then (if c.n = a then true else qkj s a k (cellAt s c.n)) else false
def qz9 (s : So) (c : Ce) (a : Int) : Bool := qkj s a (s.cs.length + 1) c
theorem qli {s : So} {a : Int} (h : cellAt s c.n = c) (ha : ¬ c.n = a) : ∀ k, qkj s a k c = false
 | 0 => rfl
 | k + 1 => by
  unfold qkj
  by_cases hc : c.t = 0 ∧ inS s c.n = true
  ·rw [if_pos hc, if_neg ha, h]
   exact qli h ha k
  ·rw [if_neg hc]
def zb4 (f : So → Ce → Int → Bool) : List D → Option (List D)
 | [s, c, i] => some [.b (f (dS s) (dC c) i.int)]
 | _ => none
theorem ok_ref31_Comes : FOk ct_ref31_Comes (zb4 qz9) := fok_ref31_Comes fun ds outs hw hg => by
 obtain ⟨d, r, rfl, hd, e, r', rfl, he, f, r2, rfl, hf, rfl⟩ := hw
 obtain ⟨s, rfl, hs⟩ := wfS hd
 obtain ⟨c0, rfl, hc⟩ := wfC he
 obtain ⟨a, rfl, ha⟩ := wfI hf
 simp only [zb4, zk, yw, yv, Option.some.injEq] at hg
 subst hg
 have hl := hs.cs.1
 rw [tree_ref31_Comes, jt]
 refine ⟨fun st => ∃ (k : Nat) (c : Ce), k ≤ s.cs.length + 1 ∧ st = [.b false, .i k, eC c] ∧ qkj s a (s.cs.length + 1 - k) c = qz9 s c0 a, fun st => s.cs.length + 1 - (st.getD 1 .u).int.toNat, ⟨0, c0, Nat.zero_le _, rfl, rfl⟩, ?_⟩
 rintro st - ⟨k, c, hk, rfl, hP⟩
 simp only [gnZ]
 have hcond : (decide ((k : Int) ≤ s.cs.length) && decide (c.t = 0) && decide (0 ≤ c.n) && decide (c.n < s.cs.length)) = (decide (k ≤ s.cs.length) && (decide (c.t = 0) && inS s c.n)) := by
  have : decide ((k : Int) ≤ s.cs.length) = decide (k ≤ s.cs.length) := by simp
  rw [this, inS, Bool.and_assoc, Bool.and_assoc]
 rw [hcond]
 refine ⟨fun hx => ?_, fun hx => ?_⟩
 ·simp only [gnB, gnD] at hx
  obtain ⟨hkl, h0, hin⟩ := hx
  have h1 := z5.1 hin
  have hr : i64 ((k : Int) + 1) := ⟨by omega, by omega⟩
  obtain ⟨n, hn⟩ : ∃ n, s.cs.length + 1 - k = n + 1 := ⟨s.cs.length - k, by omega⟩
  rw [hn] at hP
  unfold qkj at hP
  rw [if_pos ⟨h0, hin⟩] at hP
  simp only [ze hin]
  refine ⟨fun hy => ?_, fun hy => ⟨h1, hr, ?_⟩⟩
  ·rw [if_pos hy] at hP
   rw [hP]
  ·rw [if_neg hy] at hP
   rw [q2p, if_pos rfl]
   refine ⟨⟨k + 1, cellAt s c.n, by omega, by simp, by rw [show s.cs.length + 1 - (k + 1) = n by omega]; exact hP⟩, ?_⟩
   simp [D.int]
   omega
 ·rw [← hP]
  by_cases hkl : k ≤ s.cs.length
  ·obtain ⟨n, hn⟩ : ∃ n, s.cs.length + 1 - k = n + 1 := ⟨s.cs.length - k, by omega⟩
   rw [hn]
   unfold qkj
   rw [if_neg]
   intro h
   simp [hkl, h.1, h.2] at hx
  ·rw [show s.cs.length + 1 - k = 0 by omega]
   rfl
theorem qpn : FOk q0f (zb4 qz9) := qnq qlm fun ds outs hw hg => by
 obtain ⟨d, r, rfl, hd, e, r', rfl, he, f, r2, rfl, hf, rfl⟩ := hw
 obtain ⟨s, rfl, hs⟩ := wfS hd
 obtain ⟨c0, rfl, hc⟩ := wfC he
 obtain ⟨a, rfl, ha⟩ := wfI hf
 simp only [zb4, zk, yw, yv, Option.some.injEq] at hg
 subst hg
 have hl := hs.cs.1
 rw [q6j, qa]
 refine ⟨by simp only [gnZ]; omega, ?_⟩
 rw [jt]
 refine ⟨fun st => ∃ (k : Nat) (c : Ce), k ≤ s.cs.length + 1 ∧ st = [.b false, .i k, eC c] ∧ qkj s a (s.cs.length + 1 - k) c = qz9 s c0 a, fun st => s.cs.length + 1 - (st.getD 1 .u).int.toNat, ⟨0, c0, Nat.zero_le _, rfl, rfl⟩, ?_⟩
 rintro st - ⟨k, c, hk, rfl, hP⟩
 simp only [gnZ, qa7]
 refine ⟨fun hlt => ?_, fun hlt => ?_⟩
 ·have hkl : k ≤ s.cs.length := by omega
  have hr : i64 ((k : Int) + 1) := ⟨by omega, by omega⟩
  obtain ⟨n, hn⟩ : ∃ n, s.cs.length + 1 - k = n + 1 := ⟨s.cs.length - k, by omega⟩
  rw [hn] at hP
  unfold qkj at hP
  refine ⟨fun hx => ?_, fun hx => ?_⟩
  ·rw [if_neg] at hP
   ·rw [← hP]
   ·intro h
    simp [h.1, h.2] at hx
  ·have hx' : c.t = 0 ∧ inS s c.n = true := by simpa using hx
   have h1 := z5.1 hx'.2
   rw [if_pos hx'] at hP
   simp only [ze hx'.2, z4e]
   refine ⟨fun hy => ?_, fun hy => ⟨h1, fun hz => ?_, fun hz => ⟨hr, ?_⟩⟩⟩
   ·rw [if_pos hy] at hP
    rw [hP]
   ·rw [if_neg hy, hz, qli hz hy] at hP
    rw [← hP]
   ·rw [if_neg hy] at hP
    rw [q2p, if_pos rfl]
    refine ⟨⟨k + 1, cellAt s c.n, by omega, by simp, by rw [show s.cs.length + 1 - (k + 1) = n by omega]; exact hP⟩, ?_⟩
    simp [D.int]
    omega
 ·rw [← hP, show s.cs.length + 1 - k = 0 by omega]
  rfl
def qbs (vc : So → Ce → Bool) (st : So → Int → Bool) (s : So) (a : Int) (c : Ce) : Bool := inS s a && (vc s c && (st s a && !qz9 s (q3m c) a))
def zds (s : So) (a : Int) (c : Ce) : So := { s with cs := s.cs.set a.toNat (q3m c), tr := s.tr ++ [⟨a, cellAt s a⟩] }
def z1p (vc : So → Ce → Bool) (st : So → Int → Bool) : List D → Option (List D)
 | [s, a, c] => if qbs vc st (dS s) a.int (dC c) then (if decide ((dS s).tr.length < 5864062014634) then some [.i 0, eS (zds (dS s) a.int (dC c))] else none) else some [.i 1, eS (dS s)]
 | _ => none
theorem zfp {s : So} {a : Int} : D.a ((D.a ((eS s).fs.set 2 (.r (s.tr.map eU ++ [.a [.i a, eC (cellAt s a)]])))).fs.set 0 (.r ((s.cs.map eC).set a.toNat (eC (q3m c))))) = eS (zds s a c) := by
 simp [zds, eS, D.fs, eU, List.map_set]
theorem zkm {s : So} {x : D} : (D.a ((eS s).fs.set 2 x)).fld 0 = .r (s.cs.map eC) := rfl
theorem q59 : FOk zg (z1p vcP q8x) := qst qlm yy qgv qu6 qpn fun ds outs hw hg => by
 obtain ⟨d, r, rfl, hd, e, r', rfl, he, f, r2, rfl, hf, rfl⟩ := hw
 obtain ⟨s, rfl, hs⟩ := wfS hd
 obtain ⟨a, rfl, ha⟩ := wfI he
 obtain ⟨c, rfl, hc⟩ := wfC hf
 simp only [z1p, zk, yw, yv] at hg
 simp only [q8i, gnZ, qa7, qb8, qcw, q4t, zb4, Option.isSome_some, Option.getD_some]
 cases hin : inS s a with
 | false =>
  have : qbs vcP q8x s a c = false := by simp [qbs, hin]
  simp only [this, gnF, if_false, Option.some.injEq] at hg
  subst hg
  simp
 | true =>
  have h1 := z5.1 hin
  cases hv : vcP s c with
  | false =>
   have : qbs vcP q8x s a c = false := by simp [qbs, hv]
   simp only [this, gnF, if_false, Option.some.injEq] at hg
   subst hg
   simp
  | true =>
   cases ht : q8x s a with
   | false =>
    have : qbs vcP q8x s a c = false := by simp [qbs, ht]
    simp only [this, gnF, if_false, Option.some.injEq] at hg
    subst hg
    simp [q5i, ht]
   | true =>
    cases hco : qz9 s (q3m c) a with
    | true =>
     have : qbs vcP q8x s a c = false := by simp [qbs, hco]
     simp only [this, gnF, if_false, Option.some.injEq] at hg
     subst hg
     simp [q5i, ht]
    | false =>
     have : qbs vcP q8x s a c = true := by simp [qbs, hin, hv, ht, hco]
     simp only [this, if_true, Option.ite_none_right_eq_some, Option.some.injEq, gnD] at hg
     obtain ⟨hlt, rfl⟩ := hg
     simp only [ze hin, zkm, q6i, List.length_map, zfp]
     simp [q5i, ht, h1]
     omega
theorem ok_ref31_Set : FOk ct_ref31_Set (z1p vcR settR) := fok_ref31_Set q1n ok_ref31_Settable qu8 ok_ref31_Comes fun ds outs hw hg => by
 obtain ⟨d, r, rfl, hd, e, r', rfl, he, f, r2, rfl, hf, rfl⟩ := hw
 obtain ⟨s, rfl, hs⟩ := wfS hd
 obtain ⟨a, rfl, ha⟩ := wfI he
 obtain ⟨c, rfl, hc⟩ := wfC hf
 simp only [z1p, zk, yw, yv] at hg
 have hcond : (decide (a < 0) || decide ((s.cs.length : Int) ≤ a)) = !inS s a := by
  cases hin : inS s a with
  | true =>
   have h1 := z5.1 hin
   have h2 : ¬ a < 0 := by omega
   have h3 : ¬ (s.cs.length : Int) ≤ a := by omega
   simp [h2, h3]
  | false =>
   have h1 : ¬ (0 ≤ a ∧ a < s.cs.length) := fun q => by rw [z5.2 q] at hin; cases hin
   simp
   omega
 simp only [tree_ref31_Set, gnZ, qa7, qb8, qcw, q4t, zb4, Option.isSome_some, Option.getD_some, hcond]
 cases hin : inS s a with
 | false =>
  have : qbs vcR settR s a c = false := by simp [qbs, hin]
  simp only [this, gnF, if_false, Option.some.injEq] at hg
  subst hg
  simp
 | true =>
  have h1 := z5.1 hin
  cases hv : vcR s c with
  | false =>
   have : qbs vcR settR s a c = false := by simp [qbs, hv]
   simp only [this, gnF, if_false, Option.some.injEq] at hg
   subst hg
   simp
  | true =>
   cases ht : settR s a with
   | false =>
    have : qbs vcR settR s a c = false := by simp [qbs, ht]
    simp only [this, gnF, if_false, Option.some.injEq] at hg
    subst hg
    simp [q5i, ht]
   | true =>
    cases hco : qz9 s (q3m c) a with
    | true =>
     have : qbs vcR settR s a c = false := by simp [qbs, hco]
     simp only [this, gnF, if_false, Option.some.injEq] at hg
     subst hg
     simp [q5i, ht]
    | false =>
     have : qbs vcR settR s a c = true := by simp [qbs, hin, hv, ht, hco]
     simp only [this, if_true, Option.ite_none_right_eq_some, Option.some.injEq, gnD] at hg
     obtain ⟨hlt, rfl⟩ := hg
     simp only [ze hin, zkm, q6i, List.length_map, zfp]
     simp [q5i, ht, h1]
     omega
structure Vc where
 v : Int
 c : Ce
instance : Inhabited Vc := ⟨⟨0, default⟩⟩
def eV (x : Vc) : D := .a [.i x.v, eC x.c]
def dV (d : D) : Vc := ⟨(d.fld 0).int, dC (d.fld 1)⟩
theorem qqg (x : Vc) : dV (eV x) = x := rfl
theorem zj4 {a b : Vc} (h : eV a = eV b) : a = b := by rw [← qqg a, h, qqg b]
instance : DecidableEq Vc := fun a b => if h : eV a = eV b then .isTrue (zj4 h) else .isFalse fun e => h (e ▸ rfl)
theorem zl0 (x : Vc) : (eV x).fld 0 = .i x.v := rfl
theorem zj0 (x : Vc) : (eV x).fld 1 = eC x.c := rfl
theorem zgx (n : Int) (c : Ce) : D.a [.i n, eC c] = eV ⟨n, c⟩ := rfl
def dVs (d : D) : List Vc := d.rs.map dV
theorem q4z (l : List Vc) : dVs (.r (l.map eV)) = l := by
 show (l.map eV).map dV = l
 rw [List.map_map]
 exact List.map_id'' (fun x => rfl) l
theorem wfV (h : Wf d qj9) : ∃ c, d = eV c ∧ i64 c.v ∧ c.c.ok := by
 obtain ⟨ds, rfl, hl⟩ := h.st_of (fs := [.int .i64, qn]) rfl
 obtain ⟨a, b, rfl, ha, hb⟩ := qzw hl
 obtain ⟨x, rfl, hx⟩ := wfI ha
 obtain ⟨y, rfl, hy⟩ := wfC hb
 exact ⟨⟨x, y⟩, rfl, hx, hy⟩
theorem zcp (h : Wf d z3b) : ∃ l : List Vc, d = .r (l.map eV) ∧ l.length ≤ 5864062014634 ∧ ∀ x ∈ l, i64 x.v ∧ x.c.ok := by
 obtain ⟨l, e, h1, h2⟩ := h.row_of (te := qj9) rfl
 subst e
 obtain ⟨m, rfl, h3⟩ := qb7 (e := eV) (P := fun x => i64 x.v ∧ x.c.ok) fun x hx => wfV (h2 x hx)
 have e : LM qj9 = 5864062014634 := by kernel_rfl
 rw [e, List.length_map] at h1
 exact ⟨m, rfl, h1, h3⟩
def ofV : List Vc → Int → Option Ce
 | [], _ => none
 | x :: l, v => if x.v = v then some x.c else ofV l v
def qlz : List Vc → Int → Ce → List Vc
 | [], v, c => [⟨v, c⟩]
 | x :: l, v, c => if x.v < v then x :: qlz l v c else ⟨v, c⟩ :: x :: l
def loV : List Vc → Int → Nat
 | [], _ => 0
 | x :: l, v => if x.v < v then loV l v + 1 else 0
def SV (l : List Vc) : Prop := l.Pairwise (fun a b => a.v < b.v) ∧ ∀ x ∈ l, 0 ≤ x.v ∧ x.v ≤ 1099511627776
instance (l : List Vc) : Decidable (SV l) := inferInstanceAs (Decidable (_ ∧ _))
theorem z2b (v : Int) : ∀ l, loV l v ≤ l.length
 | [] => Nat.le_refl _
 | x :: l => by
  unfold loV
  have := z2b v l
  split <;> simp <;> omega
variable {v : Int}
theorem z8p : ∀ {l : List Vc} {j : Nat}, j < loV l v → (l.getD j default).v < v
 | [], j, h => by simp [loV] at h
 | x :: l, j, h => by
  unfold loV at h
  split at h
  ·rename_i hx
   cases j with
   | zero => exact hx
   | succ j =>
    rw [List.getD_cons_succ]
    exact z8p (by omega)
  ·omega
theorem z1d : ∀ {l : List Vc}, loV l v < l.length → v ≤ (l.getD (loV l v) default).v
 | [], h => by simp [loV] at h
 | x :: l, h => by
  unfold loV at h ⊢
  split at h
  ·rename_i hx
   rw [if_pos hx, List.getD_cons_succ]
   exact z1d (by simpa using h)
  ·rename_i hx
   rw [if_neg hx, List.getD_cons_zero]
   omega
theorem z91 {l : List Vc} {i : Nat} (hi : i ≤ l.length) (h1 : ∀ j, j < i → (l.getD j default).v < v) (h2 : ∀ j, i ≤ j → j < l.length → v ≤ (l.getD j default).v) : loV l v = i := by
 rcases Nat.lt_trichotomy (loV l v) i with h | h | h
 ·have := h1 _ h
  have := z1d (v := v) (l := l) (by omega)
  omega
 ·exact h
 ·have := z8p h
  have h3 := z2b v l
  have := h2 i (Nat.le_refl _) (by omega)
  omega
theorem qz4 (v : Int) (c : Ce) : ∀ l, qlz l v c = l.take (loV l v) ++ ⟨v, c⟩ :: l.drop (loV l v)
 | [] => rfl
 | x :: l => by
  unfold qlz loV
  split
  ·rw [qz4 v c l]
   rfl
  ·rfl
theorem z14 : ∀ {l : List Vc}, (∀ y ∈ l, y.v ≠ v) → ofV l v = none
 | [], _ => rfl
 | x :: l, h => by
  unfold ofV
  rw [if_neg (h x (by simp)), z14 fun y hy => h y (by simp [hy])]
theorem z2v : ∀ {l : List Vc}, SV l → ofV l v = if loV l v < l.length ∧ (l.getD (loV l v) default).v = v then some (l.getD (loV l v) default).c else none
 | [], _ => rfl
 | x :: l, h => by
  have hp := List.pairwise_cons.1 h.1
  have hl : SV l := ⟨hp.2, fun y hy => h.2 y (by simp [hy])⟩
  unfold ofV loV
  by_cases hx : x.v < v
  ·rw [if_neg (by omega), if_pos hx, z2v hl]
   simp
  ·rw [if_neg hx]
   by_cases he : x.v = v
   ·simp [he]
   ·rw [if_neg he, z14 fun y hy => by have := hp.1 y hy; omega]
    simp [he]
theorem zas : ∀ {l : List Vc}, ofV l v = none → ∀ y ∈ l, y.v ≠ v
 | [], _, y, hy => by cases hy
 | x :: l, h, y, hy => by
  unfold ofV at h
  split at h
  ·cases h
  ·rename_i hx
   rcases List.mem_cons.1 hy with rfl | hy
   ·exact hx
   ·exact zas h y hy
theorem z1r {l : List Vc} {y : Vc} : y ∈ qlz l v c ↔ y = ⟨v, c⟩ ∨ y ∈ l := by
 rw [qz4, List.mem_append, List.mem_cons]
 conv => rhs; rw [← List.take_append_drop (loV l v) l, List.mem_append]
 constructor
 ·rintro (h | h | h)
  ·exact .inr (.inl h)
  ·exact .inl h
  ·exact .inr (.inr h)
 ·rintro (h | h | h)
  ·exact .inr (.inl h)
  ·exact .inl h
  ·exact .inr (.inr h)
theorem z5g (h0 : 0 ≤ v) (h1 : v ≤ 1099511627776) : ∀ {l : List Vc}, SV l → ofV l v = none → SV (qlz l v c) := fun {l} h hn => by
 refine ⟨?_, fun y hy => ?_⟩
 ·have hne := zas hn
  have key : ∀ l : List Vc, l.Pairwise (fun a b => a.v < b.v) → (∀ y ∈ l, y.v ≠ v) → (qlz l v c).Pairwise fun a b => a.v < b.v := by
   intro l
   induction l with
   | nil => intro _ _; exact List.pairwise_singleton _ _
   | cons x l ih =>
    intro hp hn
    have hp' := List.pairwise_cons.1 hp
    unfold qlz
    split
    ·rename_i hx
     refine List.pairwise_cons.2 ⟨fun y hy => ?_, ih hp'.2 fun y hy => hn y (by simp [hy])⟩
     rcases z1r.1 hy with rfl | hy
     ·exact hx
     ·exact hp'.1 y hy
    ·rename_i hx
     have := hn x (by simp)
     refine List.pairwise_cons.2 ⟨fun y hy => ?_, hp⟩
     rcases List.mem_cons.1 hy with rfl | hy
     ·show v < y.v; omega
     ·have := hp'.1 y hy
      show v < y.v
      omega
  exact key l h.1 hne
 ·rcases z1r.1 hy with rfl | hy
  ·exact ⟨h0, h1⟩
  ·exact h.2 y hy
theorem z9c {b : Int} : ∀ (l : List Vc) (a : Int), a ≤ b + 1 → l.Pairwise (fun x y => x.v < y.v) → (∀ x ∈ l, a ≤ x.v ∧ x.v ≤ b) → (l.length : Int) ≤ b - a + 1
 | [], a, h, _, _ => by simp; omega
 | x :: l, a, h, hp, hr => by
  have hp' := List.pairwise_cons.1 hp
  have hx := hr x (by simp)
  have := z9c l (x.v + 1) (by omega) hp'.2 fun y hy => ⟨by have := hp'.1 y hy; omega, (hr y (by simp [hy])).2⟩
  rw [List.length_cons]
  omega
theorem SV.len {l : List Vc} (h : SV l) : (l.length : Int) ≤ 1099511627777 := by
 have := z9c (b := 1099511627776) l 0 (by omega) h.1 h.2
 omega
theorem z5d : ∀ (k : Nat) (l : List Sy), 0 ≤ fnd nm ar k l ↔ (⟨nm, ar⟩ : Sy) ∈ l
 | k, [] => by simp [fnd]
 | k, y :: l => by
  unfold fnd
  split
  ·rename_i h
   obtain ⟨rfl, rfl⟩ := h
   exact ⟨fun _ => by simp, fun _ => Int.natCast_nonneg _⟩
  ·rename_i h
   rw [z5d (k + 1) l, List.mem_cons]
   exact ⟨.inr, fun h' => h'.elim (fun e => by subst e; exact (h ⟨rfl, rfl⟩).elim) id⟩
theorem qdv {s : So} : 0 ≤ qd1 s nm ar ↔ (⟨nm, ar⟩ : Sy) ∈ s.ys := z5d 0 s.ys
def q81 (s : So) (nm : ByteArray) (ar : Int) : Int × So := if 0 ≤ qd1 s nm ar then (qd1 s nm ar, s) else ((s.ys.length : Nat), { s with ys := s.ys ++ [⟨nm, ar⟩] })
def qkv (ys : List Sy) (y : Sy) : List Sy := if y ∈ ys then ys else ys ++ [y]
mutual
def q9f (ys : List Sy) : Te → List Sy
 | .mk k _ nm l => q3u (if k = 2 ∨ k = 3 then qkv ys ⟨nm, (l.length : Nat)⟩ else ys) l
def q3u (ys : List Sy) : List Te → List Sy
 | [] => ys
 | t :: l => q3u (q9f ys t) l
end
theorem z9o (ys : List Sy) (y : Sy) : ys.length ≤ (qkv ys y).length := by
 unfold qkv
 split
 ·exact Nat.le_refl _
 ·simp
mutual
theorem qiv : ∀ (t : Te) (ys : List Sy), ys.length ≤ (q9f ys t).length
 | .mk k n nm l, ys => by
  rw [q9f]
  refine Nat.le_trans ?_ (qau l _)
  split
  ·exact z9o _ _
  ·exact Nat.le_refl _
theorem qau : ∀ (l : List Te) (ys : List Sy), ys.length ≤ (q3u ys l).length
 | [], ys => Nat.le_refl _
 | t :: l, ys => by
  rw [q3u]
  exact Nat.le_trans (qiv t ys) (qau l _)
end
theorem qwn (s : So) (nm : ByteArray) (ar : Int) : (q81 s nm ar).2.cs = s.cs ∧ (q81 s nm ar).2.mx = s.mx ∧ (q81 s nm ar).2.ys = qkv s.ys ⟨nm, ar⟩ ∧ (q81 s nm ar).2.tr = s.tr ∧ (q81 s nm ar).2.wk = s.wk ∧ (q81 s nm ar).2.ser = s.ser := by
 unfold q81 qkv
 by_cases h : 0 ≤ qd1 s nm ar
 ·rw [if_pos h, if_pos (qdv.1 h)]
  exact ⟨rfl, rfl, rfl, rfl, rfl, rfl⟩
 ·rw [if_neg h, if_neg (fun q => h (qdv.2 q))]
  exact ⟨rfl, rfl, rfl, rfl, rfl, rfl⟩
def qpb (ys ms : List Sy) (y : Sy) : List Sy := if y ∈ ms ∨ y ∈ ys then ms else ms ++ [y]
mutual
def qct (ys ms : List Sy) : Te → List Sy
 | .mk k _ nm l => q5e ys (if k = 2 ∨ k = 3 then qpb ys ms ⟨nm, (l.length : Nat)⟩ else ms) l
def q5e (ys ms : List Sy) : List Te → List Sy
 | [] => ms
 | t :: l => q5e ys (qct ys ms t) l
end
theorem ziv (ys ms : List Sy) (y : Sy) : ys ++ qpb ys ms y = qkv (ys ++ ms) y := by
 unfold qpb qkv
 by_cases h : y ∈ ms ∨ y ∈ ys
 ·rw [if_pos h, if_pos (List.mem_append.2 h.symm)]
 ·rw [if_neg h, if_neg (fun q => h (List.mem_append.1 q).symm), List.append_assoc]
mutual
theorem z9k : ∀ (t : Te) (ys ms : List Sy), ys ++ qct ys ms t = q9f (ys ++ ms) t
 | .mk k n nm l, ys, ms => by
  rw [qct, q9f, z6l]
  split
  ·rw [ziv]
  ·rfl
theorem z6l : ∀ (l : List Te) (ys ms : List Sy), ys ++ q5e ys ms l = q3u (ys ++ ms) l
 | [], ys, ms => rfl
 | t :: l, ys, ms => by rw [q5e, q3u, z6l, z9k]
end
theorem z9i (ys ms : List Sy) (y : Sy) : (qpb ys ms y).length ≤ ms.length + 1 := by
 unfold qpb
 split
 ·omega
 ·simp
mutual
theorem z0k : ∀ (t : Te) (ys ms : List Sy), (qct ys ms t).length ≤ ms.length + szT t
 | .mk k n nm l, ys, ms => by
  rw [qct, szT]
  refine Nat.le_trans (qvd l _ _) ?_
  split
  ·have := z9i ys ms ⟨nm, (l.length : Nat)⟩
   omega
  ·omega
theorem qvd : ∀ (l : List Te) (ys ms : List Sy), (q5e ys ms l).length ≤ ms.length + q4g l
 | [], ys, ms => by simp [q5e, q4g]
 | t :: l, ys, ms => by
  rw [q5e, q4g]
  have h1 := z0k t ys ms
  have h2 := qvd l ys (qct ys ms t)
  omega
end
mutual
/-- The cells that a term needs, but for a variable that is no argument. -/
def q8y : Te → Nat
 | .mk k _ _ l => if k = 3 then 1 + l.length + q1t l else 0
def q1t : List Te → Nat
 | [] => 0
 | t :: l => q8y t + q1t l
end
mutual
theorem z5l : ∀ t : Te, q8y t + 1 ≤ 2 * szT t
 | .mk k n nm l => by
  rw [q8y, szT]
  have h1 := qzm l
  have h2 := z1t l
  split <;> omega
theorem qzm : ∀ l : List Te, q1t l + l.length ≤ 2 * q4g l
 | [] => Nat.le_refl _
 | t :: l => by
  rw [q1t, q4g, List.length_cons]
  have h1 := z5l t
  have h2 := qzm l
  omega
end
def qmb (t : Te) (all : List Vc) : Nat := q8y t + if t.k = 0 ∧ ofV all t.n = none then 1 else 0
abbrev Sv := So × List Vc
def z76 (s : So) (i : Nat) (c : Ce) : So := { s with cs := s.cs.set i c }
mutual
/-- A term added; at: the address of the argument that it becomes. -/
def q70 (q : Sv) : Te → Int → Ce × Sv
 | .mk k n nm l, at' =>
  if k = 1 then (⟨1, n⟩, q)
  else if k = 2 then (⟨2, (q81 q.1 nm 0).1⟩, (q81 q.1 nm 0).2, q.2)
  else if k = 0 then (match ofV q.2 n with
   | some c => (q3m c, q)
   | none => if at' < 0 then (⟨0, (q.1.cs.length : Nat)⟩, { q.1 with cs := q.1.cs ++ [⟨0, (q.1.cs.length : Nat)⟩] }, qlz q.2 n ⟨0, (q.1.cs.length : Nat)⟩) else (⟨0, at'⟩, q.1, qlz q.2 n ⟨0, at'⟩))
  else (⟨3, (q.1.cs.length : Nat)⟩, qbz ({ (q81 q.1 nm (l.length : Nat)).2 with cs := q.1.cs ++ (⟨4, (q81 q.1 nm (l.length : Nat)).1⟩ :: List.replicate l.length ⟨0, 0⟩) }, q.2) l (q.1.cs.length + 1))
def qbz (q : Sv) : List Te → Nat → Sv
 | [], _ => q
 | a :: l, to => qbz (z76 (q70 q a (to : Nat)).2.1 to (q70 q a (to : Nat)).1, (q70 q a (to : Nat)).2.2) l (to + 1)
end
theorem qrp (s : So) (i : Nat) (c : Ce) : (z76 s i c).cs.length = s.cs.length := by simp [z76]
def Rst (s s' : So) : Prop := s'.mx = s.mx ∧ s'.tr = s.tr ∧ s'.wk = s.wk ∧ s'.ser = s.ser
theorem Rst.trans {a b c : So} (h : Rst a b) (k : Rst b c) : Rst a c := ⟨k.1.trans h.1, k.2.1.trans h.2.1, k.2.2.1.trans h.2.2.1, k.2.2.2.trans h.2.2.2⟩
theorem zea (k n : Int) (s : ByteArray) (l : List Te) : q8v (.mk k n s l) = if k = 0 then decide (0 ≤ n) && (decide (n ≤ 1099511627776) && (decide (s = ⟨#[]⟩) && decide ((l.length : Int) = 0)))
 else if k = 1 then decide (s = ⟨#[]⟩) && decide ((l.length : Int) = 0)
 else if k = 2 then decide (n = 0) && (decide ((s.size : Int) ≤ 100) && decide ((l.length : Int) = 0))
 else if k = 3 then decide (n = 0) && (decide ((s.size : Int) ≤ 100) && (decide (1 ≤ (l.length : Int)) && decide ((l.length : Int) ≤ 8)))
 else false := rfl
theorem qg5 {k n : Int} {s : ByteArray} {l : List Te} (h : q8v (.mk k n s l) = true) : (k = 0 ∧ l = [] ∧ 0 ≤ n ∧ n ≤ 1099511627776) ∨ (k = 1 ∧ l = []) ∨ (k = 2 ∧ l = [] ∧ s.size ≤ 100) ∨ (k = 3 ∧ s.size ≤ 100 ∧ 1 ≤ l.length ∧ l.length ≤ 8) := by
 rw [zea] at h
 by_cases h0 : k = 0
 ·rw [if_pos h0] at h
  simp only [gnB, gnD] at h
  exact .inl ⟨h0, List.length_eq_zero_iff.1 (by omega), h.1, h.2.1⟩
 rw [if_neg h0] at h
 by_cases h1 : k = 1
 ·rw [if_pos h1] at h
  simp only [gnB, gnD] at h
  exact .inr (.inl ⟨h1, List.length_eq_zero_iff.1 (by omega)⟩)
 rw [if_neg h1] at h
 by_cases h2 : k = 2
 ·rw [if_pos h2] at h
  simp only [gnB, gnD] at h
  exact .inr (.inr (.inl ⟨h2, List.length_eq_zero_iff.1 (by omega), by omega⟩))
 rw [if_neg h2] at h
 split at h
 ·rename_i h3
  simp only [gnB, gnD] at h
  exact .inr (.inr (.inr ⟨h3, by omega, by omega, by omega⟩))
 ·cases h
theorem z8t (q : Sv) (n : Int) (nm : ByteArray) (l : List Te) (a : Int) : q70 q (.mk 0 n nm l) a = match ofV q.2 n with
   | some c => (q3m c, q)
   | none => if a < 0 then (⟨0, (q.1.cs.length : Nat)⟩, { q.1 with cs := q.1.cs ++ [⟨0, (q.1.cs.length : Nat)⟩] }, qlz q.2 n ⟨0, (q.1.cs.length : Nat)⟩) else (⟨0, a⟩, q.1, qlz q.2 n ⟨0, a⟩) := by
 rw [q70, if_neg (by decide), if_neg (by decide), if_pos rfl]
theorem zbo (q : Sv) (n : Int) (nm : ByteArray) (l : List Te) (a : Int) : q70 q (.mk 1 n nm l) a = (⟨1, n⟩, q) := by rw [q70, if_pos rfl]
theorem z8o (q : Sv) (n : Int) (nm : ByteArray) (l : List Te) (a : Int) : q70 q (.mk 2 n nm l) a = (⟨2, (q81 q.1 nm 0).1⟩, (q81 q.1 nm 0).2, q.2) := by rw [q70, if_neg (by decide), if_pos rfl]
theorem z8l (q : Sv) (n : Int) (nm : ByteArray) (l : List Te) (a : Int) : q70 q (.mk 3 n nm l) a = (⟨3, (q.1.cs.length : Nat)⟩, qbz ({ (q81 q.1 nm (l.length : Nat)).2 with cs := q.1.cs ++ (⟨4, (q81 q.1 nm (l.length : Nat)).1⟩ :: List.replicate l.length ⟨0, 0⟩) }, q.2) l (q.1.cs.length + 1)) := by rw [q70, if_neg (by decide), if_neg (by decide), if_neg (by decide)]
theorem qs3 {k n : Int} {l : List Te} (h : k ≠ 3) : q8y (.mk k n nm l) = 0 := by rw [q8y, if_neg h]
theorem qwt {k n : Int} {l : List Te} (h : k ≠ 0) (all : List Vc) : qmb (.mk k n nm l) all = q8y (.mk k n nm l) := by
 unfold qmb
 rw [if_neg (fun q => h q.1)]
 rfl
variable {ys : List Sy}
theorem z6u {k n : Int} (h : ¬ (k = 2 ∨ k = 3)) : q9f ys (.mk k n nm []) = ys := by rw [q9f, if_neg h, q3u]
theorem zaj {n : Int} : q9f ys (.mk 2 n nm []) = qkv ys ⟨nm, 0⟩ := by rw [q9f, if_pos (.inl rfl), q3u]; rfl
theorem z8u {n : Int} {l : List Te} : q9f ys (.mk 3 n nm l) = q3u (qkv ys ⟨nm, (l.length : Nat)⟩) l := by rw [q9f, if_pos (.inr rfl)]
theorem zh7 {n : Int} {l : List Te} : q8y (.mk 3 n nm l) = 1 + l.length + q1t l := by rw [q8y, if_pos rfl]
theorem Rst.refl (s : So) : Rst s s := ⟨rfl, rfl, rfl, rfl⟩
mutual
theorem qse : ∀ (t : Te) (q : Sv) (a : Int), jv t = true → SV q.2 → (q70 q t a).2.1.cs.length = q.1.cs.length + (if a < 0 then qmb t q.2 else q8y t) ∧ (q70 q t a).2.1.ys = q9f q.1.ys t ∧ Rst q.1 (q70 q t a).2.1 ∧ SV (q70 q t a).2.2
 | .mk k n nm l, q, a, hn, hs => by
  rw [jv, gnB] at hn
  rcases qg5 hn.1 with ⟨rfl, rfl, h1, h2⟩ | ⟨rfl, rfl⟩ | ⟨rfl, rfl, h1⟩ | ⟨rfl, h1, h2, h3⟩
  ·have e1 : qmb (.mk 0 n nm []) q.2 = if ofV q.2 n = none then 1 else 0 := by
    unfold qmb
    rw [qs3 (by decide)]
    simp [Te.k, Te.n]
   rw [z8t, z6u (by decide), qs3 (by decide), e1]
   cases ho : ofV q.2 n with
   | some c => exact ⟨by simp, rfl, Rst.refl _, hs⟩
   | none =>
    by_cases ha : a < 0
    ·simp only [if_pos ha]
     exact ⟨by simp, by trivial, ⟨rfl, rfl, rfl, rfl⟩, z5g h1 h2 hs ho⟩
    ·simp only [if_neg ha]
     exact ⟨by simp, by trivial, ⟨rfl, rfl, rfl, rfl⟩, z5g h1 h2 hs ho⟩
  ·rw [zbo, z6u (by decide), qwt (by decide), qs3 (by decide)]
   exact ⟨by simp, rfl, Rst.refl _, hs⟩
  ·obtain ⟨e1, e2, e3, e4, e5, e6⟩ := qwn q.1 nm 0
   rw [z8o, zaj, qwt (by decide), qs3 (by decide)]
   exact ⟨by rw [e1]; simp, e3, ⟨e2, e4, e5, e6⟩, hs⟩
  ·obtain ⟨e1, e2, e3, e4, e5, e6⟩ := qwn q.1 nm (l.length : Nat)
   rw [z8l, z8u, qwt (by decide), zh7]
   obtain ⟨g1, g2, g3, g4⟩ := qw8 l ({ (q81 q.1 nm (l.length : Nat)).2 with cs := q.1.cs ++ (⟨4, (q81 q.1 nm (l.length : Nat)).1⟩ :: List.replicate l.length ⟨0, 0⟩) }, q.2) (q.1.cs.length + 1) hn.2 hs
   refine ⟨?_, ?_, ?_, g4⟩
   ·rw [g1]
    simp
    omega
   ·rw [g2]
    show q3u (q81 q.1 nm (l.length : Nat)).2.ys l = _
    rw [e3]
   ·exact Rst.trans ⟨e2, e4, e5, e6⟩ g3
theorem qw8 : ∀ (l : List Te) (q : Sv) (to : Nat), qb6 l = true → SV q.2 → (qbz q l to).1.cs.length = q.1.cs.length + q1t l ∧ (qbz q l to).1.ys = q3u q.1.ys l ∧ Rst q.1 (qbz q l to).1 ∧ SV (qbz q l to).2
 | [], q, to, _, hs => ⟨rfl, rfl, ⟨rfl, rfl, rfl, rfl⟩, hs⟩
 | t :: l, q, to, hn, hs => by
  rw [qb6, gnB] at hn
  rw [qbz, q1t, q3u]
  obtain ⟨h1, h2, h3, h4⟩ := qse t q (to : Nat) hn.1 hs
  obtain ⟨g1, g2, g3, g4⟩ := qw8 l (z76 (q70 q t (to : Nat)).2.1 to (q70 q t (to : Nat)).1, (q70 q t (to : Nat)).2.2) (to + 1) hn.2 h4
  refine ⟨?_, ?_, ?_, g4⟩
  ·rw [g1, qrp, h1, if_neg (by omega)]
   omega
  ·rw [g2]
   show q3u (q70 q t (to : Nat)).2.1.ys l = _
   rw [h2]
  ·exact Rst.trans h3 g3
end
variable {cs : List Value} {T : TypeId}
section
namespace Ins
open Go.RowKit Go.Shelf Go.Lib
attribute [local go_sem] Oper.semAt_some
abbrev E3 := Int × Int × Int
def fl3 (x : E3) : List Value := [.int .i64 x.1, .int .i64 x.2.1, .int .i64 x.2.2]
def fls (l : List E3) : List Value := l.flatMap fl3
theorem q9e (l : List E3) : (fls l).length = l.length * 3 := by
 induction l with
 | nil => rfl
 | cons x l ih => simp [fls, fl3] at *; omega
theorem qoh (l m : List E3) : fls (l ++ m) = fls l ++ fls m := List.flatMap_append
theorem qnw {l : List E3} : ∀ v ∈ fls l, v.oneCell' = true := fun v hv => by
 obtain ⟨x, -, hx⟩ := List.mem_flatMap.1 hv
 simp only [fl3, List.mem_cons, List.not_mem_nil, or_false] at hx
 rcases hx with rfl | rfl | rfl <;> rfl
theorem qia (x : E3) (l : List E3) : fls (x :: l) = fl3 x ++ fls l := rfl
theorem qwp : Tryz.prog.underlying 98 = some (.slice 102) := by kernel_rfl
theorem zcy : Tryz.prog.underlying 3 = some (.int .i64) := by kernel_rfl
theorem z5n : (Tryz.prog.info? 102).map (fun i => (i.size, i.bytes)) = some (3, 24) := by kernel_rfl
theorem zjt : (Tryz.prog.info? 102).map (fun i => i.zero) = some (some (.agg #[.int .i64 0, .int .i64 0, .int .i64 0])) := by kernel_rfl
theorem zfy (w : World) : (Go.sizeOf 102).run Tryz.prog w = .ok 3 w := by kernel_rfl
theorem qdq (w : World) (ty : TypeId) (g o dLen dCap : Nat) (a : Addr) (sLen sCap : Nat) (cur : Array Value) (t : TypeId) (cs : List Value)
  (hg : w.heap[g]? = some (.cells cur t (0, 0))) {n : Nat} (hn : n = Nat.min sLen dLen) (hl : cs.length = n * 3)
  (hsrc : ∀ j v, cs[j]? = some v → w.cell? (a.add j) = some v) (hfit : o + cs.length ≤ cur.size) (h1 : ∀ v ∈ cs, v.oneCell' = true) :
  (Builtin.copy_ #[98, 98] ty #[.slice (some ⟨g, o, none⟩) dLen dCap, .slice (some a) sLen sCap]).run Tryz.prog w =
   .ok (goInt n) (w.setRow g (cur.toList.take o ++ cs ++ cur.toList.drop (o + cs.length)).toArray) := by
 have hld := run_loadCells_list (P := Tryz.prog) w a cs hsrc
 have hst := run_storeCells_at Tryz.prog g o t cs 0 cur w hg (by simpa using hfit) h1
 obtain ⟨i, hi, e⟩ := Option.map_eq_some_iff.1 z5n
 simp only [Prod.mk.injEq] at e
 rw [hl] at hld
 simp [Builtin.copy_, run_underlying qwp, Builtin.lenOf, Builtin.firstCells, sizeOf, typeInfo, hi, e.1, ← hn, hld, hst]
theorem qag {w : World} {b k : Nat} (h : w.heap[b]? = some (.cells cs.toArray T (0, 0))) {v : Value} (hv : cs[k]? = some v) : w.cell? ⟨b, k, none⟩ = some v := by
 rw [cell_of_row w b k _ T (0, 0) h]
 simpa using hv
theorem zai (w : World) (b cap vb vc i n : Nat) (L0 : List E3) (x : E3) (post vpost : List Value) (E Ev : TypeId) (hL : L0.length = n) (hi : i < n) (hcap : n + 1 ≤ cap) (hc63 : cap ≤ 9223372036854775807) (hne : vb ≠ b) (hp3 : 3 ≤ post.length)
  (hb : w.heap[b]? = some (.cells (fls L0 ++ post).toArray E (0, 0))) (hv : w.heap[vb]? = some (.cells (fl3 x ++ vpost).toArray Ev (0, 0))) :
  Calls Tryz.prog 107 #[.slice (some ⟨b, 0, none⟩) n cap, .int .i64 i, .slice (some ⟨vb, 0, none⟩) 1 vc] w fun e w' =>
   e = .returned (.slice (some ⟨b, 0, none⟩) (n + 1) cap) ∧ But (fun k => k = b) w w' ∧ w'.heap[b]? = some (.cells (fls (L0.take i ++ x :: L0.drop i) ++ post.drop 3).toArray E (0, 0)) := by
 have hlL := q9e L0
 have hlt := q9e (L0.take i)
 have hld := q9e (L0.drop i)
 have hsplit : fls L0 = fls (L0.take i) ++ fls (L0.drop i) := by rw [← qoh, List.take_append_drop]
 have htl : (L0.take i).length = i := by rw [List.length_take]; omega
 have hdl : (L0.drop i).length = n - i := by rw [List.length_drop, hL]
 have hov : ∀ lb cb, (callFunc 120 #[.slice (some ⟨vb, 0, none⟩) 1 vc, .slice (some ⟨b, (i + 1) * 3, none⟩) lb cb]).run Tryz.prog w = .ok (.value (.bool false)) w := fun lb cb => by
  rw [run_callFunc_extern Tryz.func120 (by kernel_rfl) (by kernel_rfl) (by kernel_rfl) (e := Extern.SlicesOverlaps.overlaps #[98, 98] #[4]) (by kernel_rfl),
   Lib.run_overlaps_apart w 98 4 102 qwp 3 zfy ⟨vb, 0, none⟩ ⟨b, (i + 1) * 3, none⟩ 1 vc lb cb hne Ev E (fl3 x ++ vpost).toArray.size (fls L0 ++ post).toArray.size (by simp [World.shape?, hv]) (by simp [World.shape?, hb]) (by rw [List.size_toArray, List.length_append]; omega) (by simp [World.frozen?, hv]) (by simp [World.frozen?, hv])]
  rfl
 have hcp1 : ∀ ty dc sc, (Builtin.copy_ #[98, 98] ty #[.slice (some ⟨b, (i + 1) * 3, none⟩) (n - i) dc, .slice (some ⟨b, i * 3, none⟩) (n + 1 - i) sc]).run Tryz.prog w.drew = .ok (goInt (n - i : Nat)) (w.drew.setRow b ((fls L0 ++ post).toArray.toList.take ((i + 1) * 3) ++ fls (L0.drop i) ++ (fls L0 ++ post).toArray.toList.drop ((i + 1) * 3 + (fls (L0.drop i)).length)).toArray) := fun ty dc sc =>
  qdq w.drew ty b ((i + 1) * 3) (n - i) dc ⟨b, i * 3, none⟩ (n + 1 - i) sc (fls L0 ++ post).toArray E (fls (L0.drop i)) hb (by simp only [Nat.min_def]; split <;> omega) (by rw [hld, hdl])
   (fun j v hj => by
    rw [Addr.add_lit]
    refine qag (w := w.drew) (T := E) hb ?_
    rw [hsplit, List.append_assoc, List.getElem?_append_right (by omega), show i * 3 + j - (fls (L0.take i)).length = j by omega]
    exact List.getElem?_append_left (by have := (gnH.1 hj).1; omega) ▸ hj)
   (by simp; omega) qnw
 obtain ⟨J, hJ, hcur⟩ : ∃ J : List Value, J.length = 3 ∧ ((fls L0 ++ post).toArray.toList.take ((i + 1) * 3) ++ fls (L0.drop i) ++ (fls L0 ++ post).toArray.toList.drop ((i + 1) * 3 + (fls (L0.drop i)).length)) = fls (L0.take i) ++ (J ++ (fls (L0.drop i) ++ post.drop 3)) := by
  refine ⟨(fls (L0.drop i)).take 3, by rw [List.length_take]; omega, ?_⟩
  have e1 : (fls L0 ++ post).take ((i + 1) * 3) = fls (L0.take i) ++ (fls (L0.drop i)).take 3 := by
   rw [hsplit, List.append_assoc, List.take_append, List.take_of_length_le (by omega), show (i + 1) * 3 - (fls (L0.take i)).length = 3 by omega, List.take_append_of_le_length (by omega)]
  have e2 : (fls L0 ++ post).drop ((i + 1) * 3 + (fls (L0.drop i)).length) = post.drop 3 := by
   rw [List.drop_append, List.drop_eq_nil_of_le (by omega), List.nil_append]
   congr 1
   omega
  show (fls L0 ++ post).take _ ++ _ ++ (fls L0 ++ post).drop _ = _
  rw [e1, e2]
  simp
 rw [hcur] at hcp1
 have hb1 : (w.drew.setRow b (fls (L0.take i) ++ (J ++ (fls (L0.drop i) ++ post.drop 3))).toArray).heap[b]? = some (.cells (fls (L0.take i) ++ (J ++ (fls (L0.drop i) ++ post.drop 3))).toArray E (0, 0)) := setRow_heap w.drew b _ _ E _ hb
 have hv1 : (w.drew.setRow b (fls (L0.take i) ++ (J ++ (fls (L0.drop i) ++ post.drop 3))).toArray).heap[vb]? = some (.cells (fl3 x ++ vpost).toArray Ev (0, 0)) := by
  rw [setRow_other w.drew b vb _ hne]
  exact hv
 obtain ⟨W1, hW1⟩ : ∃ W1, W1 = w.drew.setRow b (fls (L0.take i) ++ (J ++ (fls (L0.drop i) ++ post.drop 3))).toArray := ⟨_, rfl⟩
 rw [← hW1] at hcp1 hb1 hv1
 have hcp2 : ∀ (W : World), W.heap = W1.heap → ∀ ty dc, (Builtin.copy_ #[98, 98] ty #[.slice (some ⟨b, i * 3, none⟩) (n + 1 - i) dc, .slice (some ⟨vb, 0, none⟩) 1 vc]).run Tryz.prog W = .ok (goInt (1 : Nat)) (W.setRow b ((fls (L0.take i) ++ (J ++ (fls (L0.drop i) ++ post.drop 3))).toArray.toList.take (i * 3) ++ fl3 x ++ (fls (L0.take i) ++ (J ++ (fls (L0.drop i) ++ post.drop 3))).toArray.toList.drop (i * 3 + (fl3 x).length)).toArray) := fun W hW ty dc =>
  qdq W ty b (i * 3) (n + 1 - i) dc ⟨vb, 0, none⟩ 1 vc _ E (fl3 x) (hW ▸ hb1) (by simp only [Nat.min_def]; split <;> omega) rfl
   (fun j v hj => by
    rw [Addr.add_lit, Nat.zero_add]
    refine qag (w := W) (T := Ev) (hW ▸ hv1) ?_
    exact List.getElem?_append_left (by have := (gnH.1 hj).1; omega) ▸ hj)
   (by simp [fl3]; omega) (fun v hv => qnw (l := [x]) v (by simpa [fls] using hv))
 have hcur2 : ((fls (L0.take i) ++ (J ++ (fls (L0.drop i) ++ post.drop 3))).toArray.toList.take (i * 3) ++ fl3 x ++ (fls (L0.take i) ++ (J ++ (fls (L0.drop i) ++ post.drop 3))).toArray.toList.drop (i * 3 + (fl3 x).length)) = fls (L0.take i ++ x :: L0.drop i) ++ post.drop 3 := by
  show (fls (L0.take i) ++ (J ++ (fls (L0.drop i) ++ post.drop 3))).take _ ++ _ ++ (fls (L0.take i) ++ (J ++ (fls (L0.drop i) ++ post.drop 3))).drop _ = _
  rw [show i * 3 = (fls (L0.take i)).length by omega, List.take_left, show (fls (L0.take i)).length + (fl3 x).length = (fls (L0.take i) ++ J).length by rw [List.length_append, hJ]; rfl, ← List.append_assoc (fls (L0.take i)) J, List.drop_left, qoh, qia]
  simp
 rw [hcur2] at hcp2
 have hw1 : IntKind.i64.wrap ((i : Int) + 1) = (i : Int) + 1 := by rw [IntKind.wrap_i64]; omega
 have hz2 : ¬ ((i : Int) = (n : Int)) := by omega
 have h0i : (0 : Int) ≤ (i : Int) + 1 := by omega
 have hin : i ≤ n := by omega
 have htn : ((i : Int) + 1).toNat = i + 1 := by omega
 have hb2 : ¬ (cap = i + 1) := by omega
 have hb3 : (i : Int) ≤ (n : Int) + 1 := by omega
 have hb4 : ¬ (cap = i) := by omega
 go_enter Tryz.func107, Tryz.ntmps107
 go_wp2_with (simp only [hov])
 go_region_law (refine step_copy_runI rfl _ _ 98 98 rfl _ _ (by simp [Act.eval, Act.put]) (by simp [Act.eval, Act.put]) (hcp1 _ _ _) ?_)
 go_wp2_with (at_builtin; refine wpList_copy_runI _ rfl _ _ 98 98 rfl _ _ rfl rfl (hcp2 _ rfl _ _) ?_)
 go_ret
 exact ⟨rfl, q5s (S := fun k => k = b) (q5s (S := fun k => k = b) (But.refl _ w).drew (.inl rfl) _) (.inl rfl) _, setRow_heap _ _ _ _ _ _ (by rw [← hW1]; exact hb1)⟩
theorem z8s (a c : List Value) (k : Nat) : (a ++ c).drop (a.length + k) = c.drop k := by rw [List.drop_append, List.drop_eq_nil_of_le (Nat.le_add_right _ _), Nat.add_sub_cancel_left, List.nil_append]
theorem zc1 (w : World) (b vb vc i n : Nat) (L0 : List E3) (x : E3) (post vpost : List Value) (E Ev : TypeId) (hL : L0.length = n) (hi : i < n) (hbig : (n + 1) * 24 ≤ 140737488355328) (hne : vb ≠ b)
  (hb : w.heap[b]? = some (.cells (fls L0 ++ post).toArray E (0, 0))) (hv : w.heap[vb]? = some (.cells (fl3 x ++ vpost).toArray Ev (0, 0))) :
  Calls Tryz.prog 107 #[.slice (some ⟨b, 0, none⟩) n n, .int .i64 i, .slice (some ⟨vb, 0, none⟩) 1 vc] w fun e w' =>
   ∃ (G : Nat) (rest : List Value), e = .returned (.slice (some ⟨w.heap.size, 0, none⟩) (n + 1) G) ∧ But Nil w w' ∧ n + 1 ≤ G ∧ G ≤ maxLen ∧ rest.length = (G - (n + 1)) * 3 ∧ w'.heap[w.heap.size]? = some (.cells (fls (L0.take i ++ x :: L0.drop i) ++ rest).toArray 102 (0, 0)) := by
 have hlL := q9e L0
 have hlt := q9e (L0.take i)
 have hld := q9e (L0.drop i)
 have hsplit : fls L0 = fls (L0.take i) ++ fls (L0.drop i) := by rw [← qoh, List.take_append_drop]
 have htl : (L0.take i).length = i := by rw [List.length_take]; omega
 have hdl : (L0.drop i).length = n - i := by rw [List.length_drop, hL]
 have hbw := qu hb
 have hvw := qu hv
 obtain ⟨i0, hi0, e0⟩ := Option.map_eq_some_iff.1 z5n
 obtain ⟨i1, hi1, ez⟩ := Option.map_eq_some_iff.1 zjt
 obtain rfl := gnI (hi0.symm.trans hi1)
 simp only [Prod.mk.injEq] at e0
 have hold : (Builtin.firstCells i0.size i (.slice (some ⟨b, 0, none⟩) i n)).run Tryz.prog w.drew = .ok (fls (L0.take i)).toArray w.drew := by
  rw [e0.1]
  exact run_firstCells_some w.drew 3 i ⟨b, 0, none⟩ i n (fls (L0.take i)) (by omega) (fun j v hj => by
   rw [Addr.add_lit, Nat.zero_add]
   refine qag (w := w.drew) (T := E) hb ?_
   rw [hsplit, List.append_assoc]
   exact List.getElem?_append_left (by have := (gnH.1 hj).1; omega) ▸ hj)
 obtain ⟨G, hG⟩ : ∃ G, G = grownCap w (n + 1) n 102 := ⟨_, rfl⟩
 have hGn : n + 1 ≤ G := by rw [hG]; exact grownCap_ge w _ _ _
 have hGm : G ≤ maxLen := by rw [hG]; exact grownCap_le_maxLen w _ _ _ (by unfold maxLen; omega)
 have hik : i + (n + 1 - i) = n + 1 := by omega
 have hkk : (n : Int) + 1 - (i : Int) = ((n + 1 - i : Nat) : Int) := by omega
 obtain ⟨Z, hZ, hrz⟩ : ∃ Z : List Value, Z.length = (n + 1 - i) * 3 + (G - (n + 1)) * 3 ∧ ∀ ty, (Builtin.append_ #[98, 3] ty #[.slice (some ⟨b, 0, none⟩) i n, .int .i64 ((n : Int) + 1 - (i : Int))]).run Tryz.prog w =
   .ok (.slice (some ⟨w.heap.size, 0, none⟩) (n + 1) G) (w.drew.alloc (.cells (fls (L0.take i) ++ Z).toArray 102)) := by
  refine ⟨(Builtin.zeroCells (Value.agg #[.int .i64 0, .int .i64 0, .int .i64 0]).cells (n + 1 - i)).toList ++ (Builtin.zeroCells (Value.agg #[.int .i64 0, .int .i64 0, .int .i64 0]).cells (G - (n + 1))).toList, by simp [Builtin.zeroCells, Value.cells], fun ty => ?_⟩
  have h := Lib.run_append_grow_zeros w 98 3 ty 102 i0 _ .i64 .i64 qwp zcy hi0 ez (some ⟨b, 0, none⟩) i n (fls (L0.take i)) hold (n + 1 - i) (by omega) (by omega) (by omega) (by omega) (by rw [e0.2]; omega) (by rw [e0.2, hik]; exact growslice_fits (by omega) hbig)
  rw [hik, ← hG] at h
  rw [hkk, h]
  congr 3
  simp
 have hb1 : (w.drew.alloc (.cells (fls (L0.take i) ++ Z).toArray 102)).heap[b]? = some (.cells (fls L0 ++ post).toArray E (0, 0)) := q1x (w := w.drew) hb
 have hv1 : (w.drew.alloc (.cells (fls (L0.take i) ++ Z).toArray 102)).heap[vb]? = some (.cells (fl3 x ++ vpost).toArray Ev (0, 0)) := q1x (w := w.drew) hv
 have hn1 : (w.drew.alloc (.cells (fls (L0.take i) ++ Z).toArray 102)).heap[w.heap.size]? = some (.cells (fls (L0.take i) ++ Z).toArray 102 (0, 0)) := jp (w := w.drew) rfl
 obtain ⟨W1, hW1⟩ : ∃ W1, W1 = w.drew.alloc (.cells (fls (L0.take i) ++ Z).toArray 102) := ⟨_, rfl⟩
 have hcpA : ∀ (W : World), W.heap = W1.heap → ∀ ty dc, (Builtin.copy_ #[98, 98] ty #[.slice (some ⟨w.heap.size, i * 3, none⟩) (n + 1 - i) dc, .slice (some ⟨vb, 0, none⟩) 1 vc]).run Tryz.prog W = .ok (goInt (1 : Nat)) (W.setRow w.heap.size ((fls (L0.take i) ++ Z).toArray.toList.take (i * 3) ++ fl3 x ++ (fls (L0.take i) ++ Z).toArray.toList.drop (i * 3 + (fl3 x).length)).toArray) := fun W hW ty dc =>
  qdq W ty w.heap.size (i * 3) (n + 1 - i) dc ⟨vb, 0, none⟩ 1 vc _ 102 (fl3 x) (by rw [hW, hW1]; exact hn1) (by simp only [Nat.min_def]; split <;> omega) rfl
   (fun j v hj => by
    rw [Addr.add_lit, Nat.zero_add]
    refine qag (w := W) (T := Ev) (by rw [hW, hW1]; exact hv1) ?_
    exact List.getElem?_append_left (by have := (gnH.1 hj).1; omega) ▸ hj)
   (by simp [fl3]; omega) (fun v hv => qnw (l := [x]) v (by simpa [fls] using hv))
 have hcurA : ((fls (L0.take i) ++ Z).toArray.toList.take (i * 3) ++ fl3 x ++ (fls (L0.take i) ++ Z).toArray.toList.drop (i * 3 + (fl3 x).length)) = fls (L0.take i) ++ (fl3 x ++ Z.drop 3) := by
  show (fls (L0.take i) ++ Z).take _ ++ _ ++ (fls (L0.take i) ++ Z).drop _ = _
  rw [show i * 3 = (fls (L0.take i)).length by omega, List.take_left, List.drop_append, List.drop_eq_nil_of_le (by omega), show (fls (L0.take i)).length + (fl3 x).length - (fls (L0.take i)).length = 3 by simp [fl3]]
  simp
 rw [hcurA] at hcpA
 obtain ⟨W2, hW2⟩ : ∃ W2, W2 = W1.setRow w.heap.size (fls (L0.take i) ++ (fl3 x ++ Z.drop 3)).toArray := ⟨_, rfl⟩
 have hn2 : W2.heap[w.heap.size]? = some (.cells (fls (L0.take i) ++ (fl3 x ++ Z.drop 3)).toArray 102 (0, 0)) := by rw [hW2]; exact setRow_heap W1 _ _ _ _ _ (by rw [hW1]; exact hn1)
 have hb2 : W2.heap[b]? = some (.cells (fls L0 ++ post).toArray E (0, 0)) := by rw [hW2, setRow_other W1 _ b _ (by omega), hW1]; exact hb1
 have hcpB : ∀ (W : World), W.heap = W2.heap → ∀ ty dc sc, (Builtin.copy_ #[98, 98] ty #[.slice (some ⟨w.heap.size, (i + 1) * 3, none⟩) (n - i) dc, .slice (some ⟨b, i * 3, none⟩) (n - i) sc]).run Tryz.prog W = .ok (goInt (n - i : Nat)) (W.setRow w.heap.size ((fls (L0.take i) ++ (fl3 x ++ Z.drop 3)).toArray.toList.take ((i + 1) * 3) ++ fls (L0.drop i) ++ (fls (L0.take i) ++ (fl3 x ++ Z.drop 3)).toArray.toList.drop ((i + 1) * 3 + (fls (L0.drop i)).length)).toArray) := fun W hW ty dc sc =>
  qdq W ty w.heap.size ((i + 1) * 3) (n - i) dc ⟨b, i * 3, none⟩ (n - i) sc _ 102 (fls (L0.drop i)) (by rw [hW]; exact hn2) (by simp only [Nat.min_def]; split <;> omega) (by rw [hld, hdl])
   (fun j v hj => by
    rw [Addr.add_lit]
    refine qag (w := W) (T := E) (by rw [hW]; exact hb2) ?_
    rw [hsplit, List.append_assoc, List.getElem?_append_right (by omega), show i * 3 + j - (fls (L0.take i)).length = j by omega]
    exact List.getElem?_append_left (by have := (gnH.1 hj).1; omega) ▸ hj)
   (by simp [fl3]; omega) qnw
 have hcurB : ((fls (L0.take i) ++ (fl3 x ++ Z.drop 3)).toArray.toList.take ((i + 1) * 3) ++ fls (L0.drop i) ++ (fls (L0.take i) ++ (fl3 x ++ Z.drop 3)).toArray.toList.drop ((i + 1) * 3 + (fls (L0.drop i)).length)) = fls (L0.take i ++ x :: L0.drop i) ++ (Z.drop 3).drop ((n - i) * 3) := by
  show (fls (L0.take i) ++ (fl3 x ++ Z.drop 3)).take _ ++ _ ++ (fls (L0.take i) ++ (fl3 x ++ Z.drop 3)).drop _ = _
  have e3 : (fls (L0.take i) ++ fl3 x).length = (i + 1) * 3 := by rw [List.length_append]; simp [fl3]; omega
  rw [← List.append_assoc, ← e3, List.take_left, z8s, hld, hdl, qoh, qia]
  simp
 rw [hcurB] at hcpB
 have hrest : ((Z.drop 3).drop ((n - i) * 3)).length = (G - (n + 1)) * 3 := by simp; omega
 generalize (Z.drop 3).drop ((n - i) * 3) = rest at *
 have hw1 : IntKind.i64.wrap ((i : Int) + 1) = (i : Int) + 1 := by rw [IntKind.wrap_i64]; omega
 have hz2 : ¬ ((i : Int) = (n : Int)) := by omega
 have h0i : (0 : Int) ≤ (i : Int) + 1 := by omega
 have hin : i ≤ n := by omega
 have htn : ((i : Int) + 1).toNat = i + 1 := by omega
 have hgi : ¬ (G = i) := by omega
 have hgi1 : ¬ (G = i + 1) := by omega
 have hni : ¬ (n = i) := by omega
 have hlt1 : (n : Int) < (n : Int) + 1 := by omega
 have hii : (i : Int) ≤ (n : Int) := by omega
 clear hcurA hcurB hkk hik hold hG
 go_enter Tryz.func107, Tryz.ntmps107
 go_wp2_with (first
  | (at_builtin; refine Lib.wpList_append_run _ rfl _ _ _ _ rfl _ _ rfl rfl _ _ (hrz _) ?_)
  | (at_builtin; refine wpList_copy_runI _ rfl _ _ 98 98 rfl _ _ rfl rfl (hcpA _ (by rw [hW1]) _ _) ?_))
 have hcpC : ∀ ty dc sc, (Builtin.copy_ #[98, 98] ty #[.slice (some ⟨w.heap.size, (i + 1) * 3, none⟩) (n - i) dc, .slice (some ⟨b, i * 3, none⟩) (n - i) sc]).run Tryz.prog ((w.alloc (.cells (fls (L0.take i) ++ Z).toArray 102)).drew.setRow w.heap.size (fls (L0.take i) ++ (fl3 x ++ Z.drop 3)).toArray).drew = _ := fun ty dc sc => hcpB _ (by subst hW2 hW1; rfl) ty dc sc
 go_region_law (refine step_copy_runI rfl _ _ 98 98 rfl (.slice (some ⟨w.heap.size, (i + 1) * 3, none⟩) (n - i) (G - (i + 1))) (.slice (some ⟨b, i * 3, none⟩) (n - i) (n - i)) (by simp [Act.eval, Act.put]) (by simp [Act.eval, Act.put]) (hcpC _ _ _) ?_)
 go_wp2_with fail
 go_ret
 exact ⟨G, rest, rfl, q5s (S := Nil) (q5s (S := Nil) ((But.refl Nil w).alloc _).drew (.inr (Nat.le_refl _)) _).drew (.inr (Nat.le_refl _)) _, hGn, hGm, hrest, setRow_heap _ _ _ _ _ _ (by subst hW2 hW1; exact hn2)⟩
end Ins
end
variable {A F : Nat → Prop} {cur : Array Value} {p : qm} {pin : Nat}
section
namespace Ins
def zlm (T : TypeId) : TypeId := match qo T with
 | some (.st S) => S
 | _ => 0
abbrev uS : TypeId := zlm 102
abbrev cS : TypeId := zlm 29
theorem tyU : qo 102 = some (.st uS) := by kernel_rfl
theorem flU : flds uS = some [.int .i64, .st cS] := by kernel_rfl
theorem flC : flds cS = some [.int .i64, .int .i64] := by kernel_rfl
theorem wU : (Ty.st uS).w = 3 := by kernel_rfl
theorem lmU : LM (.st uS) = 5864062014634 := by kernel_rfl
def dE (x : E3) : D := .a [.i x.1, .a [.i x.2.1, .i x.2.2]]
def z30 (x : E3) : Prop := yz .i64 x.1 = true ∧ yz .i64 x.2.1 = true ∧ yz .i64 x.2.2 = true
theorem zli {x : E3} (h : z30 x) (w : World) (F : Nat → Prop) : Rd w F (dE x) (.st uS) (fl3 x) :=
 ⟨_, _, rfl, flU, .int .i64, [.st cS], [.int .i64 x.1], [.int .i64 x.2.1, .int .i64 x.2.2], rfl, rfl, ⟨.i64, rfl, rfl, h.1⟩, .st cS, [], [.int .i64 x.2.1, .int .i64 x.2.2], [], rfl, rfl,
  ⟨_, _, rfl, flC, .int .i64, [.int .i64], [.int .i64 x.2.1], [.int .i64 x.2.2], rfl, rfl, ⟨.i64, rfl, rfl, h.2.1⟩, .int .i64, [], [.int .i64 x.2.2], [], rfl, rfl, ⟨.i64, rfl, rfl, h.2.2⟩, rfl, rfl⟩, rfl, rfl⟩
theorem of_rdI {w : World} (h : Rd w F d (.int .i64) cs) : ∃ n, yz .i64 n = true ∧ d = .i n ∧ cs = [.int .i64 n] := by
 cases d <;> simp only [Rd, reduceCtorEq, false_and, exists_false, and_false] at h
 obtain ⟨k, e, h1, h2⟩ := h
 injection e with e
 subst e
 exact ⟨_, h2, rfl, h1⟩
theorem of_rdS {w : World} {S : TypeId} {fs : List Ty} (hfs : flds S = some fs) (h : Rd w F d (.st S) cs) : ∃ l, d = .a l ∧ RdF w F l fs cs := by
 cases d <;> simp only [Rd, reduceCtorEq, false_and, exists_false, and_false] at h
 obtain ⟨T, fs', e, h1, h2⟩ := h
 injection e with e
 subst e
 obtain rfl := gnI (h1.symm.trans hfs)
 exact ⟨_, rfl, h2⟩
theorem of_rdF {w : World} {l : List D} {t : Ty} {ts : List Ty} (h : RdF w F l (t :: ts) cs) : ∃ d l' c1 c2, l = d :: l' ∧ cs = c1 ++ c2 ∧ Rd w F d t c1 ∧ RdF w F l' ts c2 := by
 cases l with
 | nil => obtain ⟨e, -⟩ := h; cases e
 | cons d l =>
  obtain ⟨t', ts', c1, c2, e, e2, h1, h2⟩ := h
  injection e with e e'
  subst e e'
  exact ⟨d, l, c1, c2, rfl, e2, h1, h2⟩
theorem of_rdN {w : World} {l : List D} (h : RdF w F l [] cs) : l = [] ∧ cs = [] := by
 cases l with
 | nil => exact ⟨rfl, h.2⟩
 | cons d l => obtain ⟨t', ts', c1, c2, e, -⟩ := h; cases e
theorem zif {w : World} (h : Rd w F d (.st uS) cs) : ∃ x, z30 x ∧ d = dE x ∧ cs = fl3 x := by
 obtain ⟨l, rfl, hF⟩ := of_rdS flU h
 obtain ⟨d1, l1, c1, c2, rfl, rfl, h1, hG⟩ := of_rdF hF
 obtain ⟨d2, l2, c3, c4, rfl, rfl, h2, hH⟩ := of_rdF hG
 obtain ⟨rfl, rfl⟩ := of_rdN hH
 obtain ⟨n1, r1, rfl, rfl⟩ := of_rdI h1
 obtain ⟨l, rfl, hI⟩ := of_rdS flC h2
 obtain ⟨d3, l3, c5, c6, rfl, rfl, h3, hJ⟩ := of_rdF hI
 obtain ⟨d4, l4, c7, c8, rfl, rfl, h4, hK⟩ := of_rdF hJ
 obtain ⟨rfl, rfl⟩ := of_rdN hK
 obtain ⟨n2, r2, rfl, rfl⟩ := of_rdI h3
 obtain ⟨n3, r3, rfl, rfl⟩ := of_rdI h4
 exact ⟨(n1, n2, n3), ⟨r1, r2, r3⟩, rfl, rfl⟩
theorem range_drop3 {w : World} {b q : Nat} (hc : w.heap[b]? = some (.cells cur T (0, 0))) {x y z : Value} (h : w.rangeAt b q [x, y, z]) : cur.toList.drop q = x :: y :: z :: cur.toList.drop (q + 3) := by
 have get : ∀ j v, ([x, y, z] : List Value)[j]? = some v → cur.toList[q + j]? = some v := fun j v hj => by
  have := h j v hj
  rw [cell_of_row w b _ cur T (0, 0) hc, ← Array.getElem?_toList] at this
  exact this
 have g0 := get 0 x rfl
 have g1 := get 1 y rfl
 have g2 := get 2 z rfl
 obtain ⟨h0, e0⟩ := gnH.1 g0
 obtain ⟨h1, e1⟩ := gnH.1 g1
 obtain ⟨h2, e2⟩ := gnH.1 g2
 rw [List.drop_eq_getElem_cons (by omega : q < cur.toList.length), List.drop_eq_getElem_cons h1, List.drop_eq_getElem_cons (by omega : q + 1 + 1 < cur.toList.length)]
 simp only [Nat.add_zero] at e0
 rw [e0, e1]
 congr 3
theorem z1b {w : World} {b o : Nat} (hc : w.heap[b]? = some (.cells cur T (0, 0))) : ∀ {rs : List D} {i : Nat}, RdE w F rs (.st uS) (some ⟨b, o, none⟩) i → ∃ L : List E3, rs = L.map dE ∧ (∀ x ∈ L, z30 x) ∧ cur.toList.drop (o + i * 3) = fls L ++ cur.toList.drop (o + (i + rs.length) * 3)
 | [], i, _ => ⟨[], rfl, fun x hx => (by cases hx), by simp [fls]⟩
 | d :: rs, i, ⟨⟨b', o', cs, e, hF, hr, hd⟩, h⟩ => by
  injection e with e
  injection e with e1 e2
  subst e1 e2
  obtain ⟨x, hx, rfl, rfl⟩ := zif hd
  obtain ⟨L, rfl, hL, hdr⟩ := z1b hc h
  rw [wU] at hr
  refine ⟨x :: L, rfl, fun y hy => (List.mem_cons.1 hy).elim (fun e => e ▸ hx) (hL y), ?_⟩
  have := range_drop3 hc hr
  rw [this, show o + i * 3 + 3 = o + (i + 1) * 3 by omega, hdr, show i + 1 + (L.map dE).length = i + (dE x :: L.map dE).length by simp; omega]
  rfl
theorem z16 {w : World} {dep : List Nat} {l : List D} {v : Value} (h : q21 A p w dep pin 102 (.st uS) l v) (h0 : 0 < l.length) :
  ∃ g cap L post, v = .slice (some ⟨g, 0, none⟩) l.length cap ∧ p pin = some g ∧ l = L.map dE ∧ (∀ x ∈ L, z30 x) ∧ w.heap[g]? = some (.cells (fls L ++ post).toArray 102 (0, 0)) ∧ l.length ≤ cap ∧ cap ≤ maxLen ∧ post.length = (cap - l.length) * 3 := by
 rcases h with ⟨-, rfl⟩ | ⟨g, cap, cur, rfl, hg, hh, h1, h2, h3, h4, h5⟩
 ·simp at h0
 ·obtain ⟨L, hL, hok, hdr⟩ := z1b (F := FFD A p (pin :: dep)) (o := 0) hh (rs := l) (i := 0) (q0n.2 fun j hj => by
   obtain ⟨cs, hr, hx⟩ := h5 j hj
   exact ⟨g, 0, cs, rfl, .inr ⟨pin, by simp, hg⟩, by simpa using hr, hx.mono fun b _ hb => hb.mono fun x hx => List.mem_cons_of_mem _ hx⟩)
  have hl := q9e L
  have hll : l.length = L.length := by rw [hL, List.length_map]
  simp only [Nat.zero_mul, Nat.zero_add, List.drop_zero] at hdr
  rw [wU] at h3
  have hcl := congrArg List.length hdr
  rw [List.length_append, List.length_drop, Array.length_toList] at hcl
  refine ⟨g, cap, L, cur.toList.drop (l.length * 3), rfl, hg, hL, hok, ?_, h1, h2, ?_⟩
  ·rw [← hdr]
   exact hh
  ·rw [List.length_drop, Array.length_toList]
   omega
theorem z5c : ∀ {l : List E3} {i : Nat} (h : i < l.length) {j : Nat} {v : Value}, (fl3 l[i])[j]? = some v → (fls l)[i * 3 + j]? = some v
 | x :: l, 0, _, j, v, hj => by
  rw [Nat.zero_mul, Nat.zero_add, qia]
  exact List.getElem?_append_left (by have := (gnH.1 hj).1; exact this) ▸ hj
 | x :: l, i + 1, h, j, v, hj => by
  have := z5c (l := l) (i := i) (by simpa using h) (j := j) (v := v) (by simpa using hj)
  rw [qia, show (i + 1) * 3 + j = i * 3 + j + 3 by omega]
  exact this
theorem zjc {w : World} {g cap : Nat} {M : List E3} {post : List Value} (hp : p pin = some g) (hM : ∀ x ∈ M, z30 x) (hh : w.heap[g]? = some (.cells (fls M ++ post).toArray 102 (0, 0))) (h1 : M.length ≤ cap) (h2 : cap ≤ maxLen) (h3 : post.length = (cap - M.length) * 3) (h4 : M.length ≤ 5864062014634) :
  q21 A p w [] pin 102 (.st uS) (M.map dE) (.slice (some ⟨g, 0, none⟩) M.length cap) := by
 have hl := q9e M
 refine .inr ⟨g, cap, _, by rw [List.length_map], hp, hh, by rw [List.length_map]; exact h1, h2, by rw [List.size_toArray, List.length_append, wU]; omega, by rw [List.length_map, lmU]; exact h4, fun i hi => ?_⟩
 have hi' : i < M.length := by simpa using hi
 refine ⟨fl3 M[i], fun j v hj => ?_, by simpa using zli (hM _ (List.getElem_mem hi')) _ _⟩
 rw [wU]
 have := z5c hi' hj
 exact qag hh (List.getElem?_append_left (by have := (gnH.1 this).1; exact this) ▸ this)
end Ins
open Ins
def zj2 : List D → Option (List D)
 | [r, i, v] => if v.rs.length = 1 ∧ 0 ≤ i.int ∧ i.int ≤ r.rs.length ∧ r.rs.length + 1 ≤ 5864062014634 then some [.r (r.rs.take i.int.toNat ++ v.rs ++ r.rs.drop i.int.toNat)] else none
 | _ => none
theorem za6 {w : World} (h : Con A p w d (.row 102) [(0, pin)] [] cs) : ∃ l v, d = .r l ∧ cs = [v] ∧ q21 A p w [] pin 102 (.st uS) l v := by
 rcases h with ⟨E, te, l, v, e, hte, rfl, rfl, h⟩ | ⟨K, V, kt, vt, l, g, es, clock, e, -⟩
 ·injection e with e
  subst e
  obtain rfl := gnI (hte.symm.trans tyU)
  exact ⟨l, v, rfl, rfl, h⟩
 ·cases e
set_option maxHeartbeats 1000000 in
theorem q9u : FOk qk zj2 := FOk.of_at yu fun ds outs hw hg => by
 obtain ⟨d, r, rfl, hd, e, r', rfl, he, e2, r2, rfl, he2, hw⟩ := hw
 obtain rfl : r2 = [] := hw
 obtain ⟨l, te, rfl, hte, hl, -⟩ := hd.row
 obtain ⟨n, rfl, hn⟩ := wfI he
 obtain ⟨m, te2, rfl, hte2, hm, -⟩ := he2.row
 have hg' : (if m.length = 1 ∧ 0 ≤ n ∧ n ≤ l.length ∧ l.length + 1 ≤ 5864062014634 then some [.r (l.take n.toNat ++ m ++ l.drop n.toNat)] else none) = some outs := hg
 split at hg'
 case isFalse => cases hg'
 rename_i hc
 obtain ⟨h1, h2, h3, h4⟩ := hc
 injection hg' with hg'
 subst hg'
 clear hg
 by_cases hnl : n = l.length
 ·refine zev (fun F => [(ja qk.f qn, fun _ => some [.i (F.mx qn)]), (ja qk.f jb, fun _ => some [.i (F.mx jb)]), (ja qk.f q1q, fun _ => some [.i (F.mx q1q)]), (ja qk.f yb, fun _ => some [.i (F.mx yb)])]) q3o Tryz.f107 _ (fun F => .cons (q0v _ yu _ _) (.cons (q0v _ yu _ _) (.cons (q0v _ yu _ _) (.cons (q0v _ yu _ _) .nil)))) rfl rfl (by decide) (fun F => ?_) (fun F => rfl) (fun F hfl te => ?_)
  rotate_left
  ·rcases hfl te with h | ⟨k, j, hm, -⟩
   ·rw [h]; exact Nat.zero_le _
   ·rw [show qk.fl = [(999, 0, qn), (999, 1, jb), (999, 2, q1q), (999, 3, yb)] from rfl] at hm
    simp only [gnM] at hm
    rcases hm with ⟨-, -, rfl⟩ | ⟨-, -, rfl⟩ | ⟨-, -, rfl⟩ | ⟨-, -, rfl⟩ <;> exact Nat.le_refl _
  rw [q97 _ _ _ _ _ rfl]
  subst hnl
  simp [q2x, Tree.go, qg, X.says, X.ev, X.evs, evl, D.rs, D.int, D.tt, h1]
  omega
 ·intro A F p w vs us hfl hfo hpre hvl hargs
  have hF0 : F.mx (.st uS) = 0 := by
   rcases hfl (.st uS) with h | ⟨k, j, hm, -⟩
   ·exact h
   ·have h1 : (qk.fl.all fun e => !Ty.beq e.2.2 (.st uS)) = true := by kernel_rfl
    have h2 := List.all_eq_true.1 h1 _ hm
    rw [show Ty.beq (.st uS) (.st uS) = true from (Ty.beq_iff _ _).2 rfl] at h2
    cases h2
  obtain ⟨v0, r0, d0, ds0, e0, e00, ⟨cs0, hpk0, hc0⟩, v1, r1, d1, ds1, e1, e11, ⟨cs1, hpk1, hc1⟩, v2, r2, d2, ds2, e2', e22, ⟨cs2, hpk2, hc2⟩, hr⟩ := hargs
  obtain rfl : r2 = [] := hr.1
  subst e1 e2'
  obtain ⟨rfl, rfl⟩ := List.cons.inj e00
  obtain ⟨rfl, rfl⟩ := List.cons.inj e11
  obtain ⟨rfl, -⟩ := List.cons.inj e22
  clear e00 e11 e22 hr
  obtain ⟨rfl, rfl⟩ : vs = [v0, v1, v2] ∧ us = [] := by
   have hl3 : vs.length = 3 := hvl
   have hus : us.length = 0 := by
    have := congrArg List.length e0
    simp at this
    omega
   obtain rfl := List.length_eq_zero_iff.1 hus
   exact ⟨by simpa using e0, rfl⟩
  clear e0
  have hc0 : Con A p w (D.r l) (.row 102) [(0, 1)] [] cs0 := hc0
  have hc2 : Con A p w (D.r m) (.row 102) [(0, 33)] [] cs2 := hc2
  obtain ⟨l', u0, q0, rfl, ho0⟩ := za6 hc0
  obtain ⟨m', u2, q2, rfl, ho2⟩ := za6 hc2
  injection q0 with q0
  injection q2 with q2
  subst q0 q2
  obtain rfl : u0 = v0 := (List.cons.inj hpk0).1
  obtain rfl : u2 = v2 := (List.cons.inj hpk2).1
  obtain ⟨n', -, e, rfl⟩ := of_rdI hc1
  injection e with e
  subst e
  obtain rfl : Value.int .i64 n = v1 := (List.cons.inj hpk1).1
  obtain ⟨g, cap, L, post, rfl, hpg, hL, hLo, hg, hcap, hcm, hpost⟩ := z16 ho0 (by omega)
  obtain ⟨g2, cap2, M, post2, rfl, hpg2, hM, hMo, hg2, hcap2, -, -⟩ := z16 ho2 (by omega)
  have hne : g2 ≠ g := fun e => by
   subst e
   have := hpre.inj _ _ _ hpg2 hpg
   omega
  have hLl : l.length = L.length := by rw [hL, List.length_map]
  obtain ⟨x, rfl⟩ : ∃ x, M = [x] := by
   have : M.length = 1 := by rw [← h1, hM, List.length_map]
   exact List.length_eq_one_iff.1 this
  have hx : z30 x := hMo x (by simp)
  obtain ⟨i, rfl⟩ : ∃ i : Nat, n = i := ⟨n.toNat, by omega⟩
  have hi : i < L.length := by omega
  have hg2 : w.heap[g2]? = some (.cells (fl3 x ++ post2).toArray 102 (0, 0)) := by simpa [fls] using hg2
  have hout : l.take (i : Int).toNat ++ m ++ l.drop (i : Int).toNat = (L.take i ++ x :: L.drop i).map dE := by
   rw [hL, hM, Int.toNat_natCast]
   simp
  have hNo : ∀ y ∈ L.take i ++ x :: L.drop i, z30 y := fun y hy => by
   rcases List.mem_append.1 hy with h | h
   ·exact hLo y (List.mem_of_mem_take h)
   ·rcases List.mem_cons.1 h with rfl | h
    ·exact hx
    ·exact hLo y (List.mem_of_mem_drop h)
  have hNl : (L.take i ++ x :: L.drop i).length = L.length + 1 := by simp; omega
  have hlm : cap ≤ 9223372036854775807 := by unfold maxLen at hcm; omega
  have fin : ∀ (g' cap' : Nat) (post' : List Value) (w' : World), A g' → (pinned p g' ∨ w.heap.size ≤ g') → But (pinned p) w w' → Flo F w w' → w'.heap[g']? = some (.cells (fls (L.take i ++ x :: L.drop i) ++ post').toArray 102 (0, 0)) → L.length + 1 ≤ cap' → cap' ≤ maxLen → post'.length = (cap' - (L.length + 1)) * 3 →
    ∃ rs p', Ending.returned (.slice (some ⟨g', 0, none⟩) (L.length + 1) cap') = .returned (qfg rs) ∧ Bs A F w (pinned p) p' w' ∧ q9b A p' w' qk.rs qk.ar.length rs (List.take qk.rs.length [D.r (l.take (i : Int).toNat ++ m ++ l.drop (i : Int).toNat)]) ∧ q2v A p p' w' qk.all (List.drop qk.rs.length [D.r (l.take (i : Int).toNat ++ m ++ l.drop (i : Int).toNat)]) := by
   intro g' cap' post' w' hA hgp hb hflo hh a1 a2 a3
   have hp' : ∀ y b, (fun y => if y = 49 then some g' else none : qm) y = some b → y = 49 ∧ b = g' := fun y b h => by
    by_cases hy : y = 49
    ·subst hy
     exact ⟨rfl, (gnI h).symm⟩
    ·simp [hy] at h
   refine ⟨[.slice (some ⟨g', 0, none⟩) (L.length + 1) cap'], fun y => if y = 49 then some g' else none, rfl, ⟨?_, ?_, hb, ?_, hpre.new, ?_, ?_, hflo⟩, ?_, rfl⟩
   ·intro y z b h1 h2
    rw [(hp' y b h1).1, (hp' z b h2).1]
   ·intro y b h
    rw [(hp' y b h).2]
    exact qu hh
   ·intro y b h
    rw [(hp' y b h).2]
    exact hgp
   ·intro y b h
    rw [(hp' y b h).2]
    exact hA
   ·intro y b h
    rw [(hp' y b h).2]
    exact .inl ⟨_, _, hh⟩
   ·refine ⟨_, _, _, _, rfl, rfl, ⟨[.slice (some ⟨g', 0, none⟩) (L.length + 1) cap'], rfl, ?_⟩, rfl⟩
    refine .inl ⟨102, .st uS, _, _, rfl, tyU, rfl, rfl, ?_⟩
    rw [hout, ← hNl]
    exact zjc rfl hNo hh (by rw [hNl]; exact a1) a2 (by rw [hNl]; exact a3) (by rw [hNl]; omega)
  rw [h1, hLl]
  by_cases hroom : L.length + 1 ≤ cap
  ·refine Calls.mono (zai w g cap g2 cap2 i L.length L x post post2 102 102 rfl hi hroom hlm hne (by rw [hpost]; omega) hg hg2) ?_
   rintro e w' ⟨rfl, hb, hh⟩
   exact .inr (fin g cap _ w' (hpre.pa _ _ hpg) (.inl ⟨_, hpg⟩) (hb.mono fun k hk _ => hk ▸ ⟨_, hpg⟩) (hfo.same fun k hk h0 => hb.block k hk fun e => by
    subst e
    obtain ⟨cs, cs', T, te, f1, f2, f3, f4, -⟩ := hfo k h0
    rw [hg] at f2
    injection f2 with f2
    injection f2 with f5 f6
    subst f6
    obtain rfl := gnI (tyU.symm.trans f3)
    rw [hF0] at f4
    omega) hh hroom hcm (by rw [List.length_drop, hpost]; omega))
  ·have hcl : cap = L.length := by omega
   subst hcl
   refine Calls.mono (zc1 w g g2 cap2 i L.length L x post post2 102 102 rfl hi (by omega) hne hg hg2) ?_
   rintro e w' ⟨G, rest, rfl, hb, a1, a2, a3, hh⟩
   exact .inr (fin _ G _ w' (hpre.new _ (Nat.le_refl _)).1 (.inr (Nat.le_refl _)) hb.of_nil (hfo.same fun k hk _ => hb.block k hk id) hh a1 a2 a3)
end
def zjo : List D → Option (List D)
 | [x] => some [.b false]
 | _ => none
theorem qfq : FOk j1 zjo := qeu fun ds outs hw hg => by
 obtain ⟨d, r, rfl, hd, rfl⟩ := hw
 simp only [zjo, Option.some.injEq] at hg
 subst hg
 simp [q33, gnZ, gnT]
def zei : List D → Option (List D)
 | [x, v] => some [.i (if x.int < v.int then -1 else if v.int < x.int then 1 else 0)]
 | _ => none
theorem q6u : FOk z8 zei := qc1 qfq fun ds outs hw hg => by
 obtain ⟨d, r, rfl, hd, e, r', rfl, he, rfl⟩ := hw
 obtain ⟨x, rfl, hx⟩ := wfI hd
 obtain ⟨v, rfl, hv⟩ := wfI he
 simp only [zei, yv, Option.some.injEq] at hg
 subst hg
 simp only [q2b, gnZ, gnT, zjo]
 by_cases h1 : x < v <;> by_cases h2 : v < x <;> simp [h1, h2]
def zgi : List D → Option (List D)
 | [x, v] => some [.i (if (dV x).v < v.int then -1 else if v.int < (dV x).v then 1 else 0)]
 | _ => none
theorem qra : FOk q0j zgi := qmo q6u fun ds outs hw hg => by
 obtain ⟨d, r, rfl, hd, e, r', rfl, he, rfl⟩ := hw
 obtain ⟨x, rfl, hx, -⟩ := wfV hd
 obtain ⟨v, rfl, hv⟩ := wfI he
 simp only [zgi, qqg, yv, Option.some.injEq] at hg
 subst hg
 simp [q5z, gnZ, gnT, zei, zl0]
 rfl
theorem qtp : FOk q15 q4t := qsl fun ds outs hw hg => by
 obtain ⟨d, r, rfl, hd, rfl⟩ := hw
 obtain ⟨c, rfl, hc⟩ := wfC hd
 simp only [q4t, yw, Option.some.injEq] at hg
 subst hg
 simp only [q74, gnZ, gnT, q3m]
 by_cases h : c.t = 5 <;> simp [h]
 rfl
def zew : List D → Option (List D)
 | [l, v] => if SV (dVs l) then some [.i (loV (dVs l) v.int), .b (ofV (dVs l) v.int).isSome] else none
 | _ => none
theorem zl9 {n : Int} (h0 : 0 ≤ n) (h1 : n ≤ 9223372036854775807) : yz .u64 n = true := by
 simp [yz]
 omega
theorem z2q (a v : Int) {i1 : Decidable (a < v)} {i2 : Decidable (v < a)} : ((if a < v then (-1 : Int) else if v < a then 1 else 0) < 0) ↔ a < v := by
 split
 ·simp_all
 ·split <;> simp_all
theorem half (i j : Nat) : ((i : Int) + (j : Int)).fdiv (2 ^ (1 : Int).toNat) = ((i + j) / 2 : Nat) := by
 rw [show (2 : Int) ^ (1 : Int).toNat = 2 from rfl, Int.fdiv_eq_ediv_of_nonneg _ (by omega)]
 omega
theorem z5b {l : List Vc} (h : SV l) {i j : Nat} (hij : i ≤ j) (hj : j < l.length) : (l.getD i default).v ≤ (l.getD j default).v := by
 rcases Nat.lt_or_eq_of_le hij with h1 | rfl
 ·have h2 : i < l.length := by omega
  have := List.pairwise_iff_getElem.1 h.1 i j h2 hj h1
  simp only [gnG, gnK h2, gnK hj, Option.getD_some]
  omega
 ·exact Int.le_refl _
theorem q1l : FOk qp zew := q41 qra fun ds outs hw hg => by
 obtain ⟨d, r, rfl, hd, e, r', rfl, he, rfl⟩ := hw
 obtain ⟨l, rfl, hl, hok⟩ := zcp hd
 obtain ⟨v, rfl, hv⟩ := wfI he
 simp only [zew, q4z, yv, Option.ite_none_right_eq_some, Option.some.injEq] at hg
 obtain ⟨hs, rfl⟩ := hg
 rw [jc, jt]
 refine ⟨fun st => ∃ i j : Nat, i ≤ j ∧ j ≤ l.length ∧ st = [.i i, .i j] ∧ (∀ k, k < i → (l.getD k default).v < v) ∧ (∀ k, j ≤ k → k < l.length → v ≤ (l.getD k default).v), fun st => (st.getD 1 .u).int.toNat - (st.getD 0 .u).int.toNat, ⟨0, l.length, Nat.zero_le _, Nat.le_refl _, by simp [X.evs, X.ev, evl, D.rs], fun k hk => absurd hk (Nat.not_lt_zero _), fun k h1 h2 => by omega⟩, ?_⟩
 rintro st - ⟨i, j, hij, hj, rfl, h1, h2⟩
 rw [qj]
 refine ⟨fun hlt => ?_, fun hlt => ?_⟩
 ·simp only [gnZ, gnT] at hlt
  have hm : (i + j) / 2 < l.length := by omega
  simp only [gnZ, gnT, fnD, half, q7o eV hm, zgi, qqg, z2q]
  have hk : i + j ≤ 2 * 5864062014634 := by omega
  refine ⟨⟨⟨by omega, by omega⟩, zl9 (by omega) (by omega), zl9 (by omega) (by omega), by omega, by omega⟩, ⟨by omega, by omega⟩, fun hb => ⟨⟨by omega, by omega⟩, ?_⟩, fun hb => ?_⟩
  ·have hlv : (l.getD ((i + j) / 2) default).v < v := by first | exact (z2q _ _).1 hb | exact hb
   rw [q2p, if_pos rfl]
   refine ⟨⟨(i + j) / 2 + 1, j, by omega, hj, by simp, fun k hk => ?_, h2⟩, ?_⟩
   ·have := z5b hs (show k ≤ (i + j) / 2 by omega) hm
    omega
   ·simp [D.int]
    omega
  ·have hlv : v ≤ (l.getD ((i + j) / 2) default).v := Int.not_lt.1 fun q => by first | exact hb ((z2q _ _).2 q) | exact hb q
   rw [q2p, if_pos rfl]
   refine ⟨⟨i, (i + j) / 2, by omega, by omega, by simp, h1, fun k hk hkl => ?_⟩, ?_⟩
   ·have := z5b hs (show (i + j) / 2 ≤ k by omega) hkl
    omega
   ·simp [D.int]
    omega
 ·simp only [gnZ, gnT] at hlt
  have hl1 : loV l v = i := z91 (by omega) h1 fun k hk hkl => h2 k (by omega) hkl
  rw [z2v hs, hl1]
  by_cases hil : i < l.length
  ·simp only [gnZ, gnT, q7o eV hil, zgi, qqg]
   have e0 : (i : Int) < l.length := by omega
   have e1 : (0 : Int) ≤ i := by omega
   have hx : v ≤ (l.getD i default).v := h2 i (by omega) hil
   generalize l.getD i default = z at hx
   simp only [e0, e1, decide_true, Bool.not_true, Bool.false_or, Bool.true_and, true_and, hil]
   by_cases hz : z.v = v
   ·have h3 : ¬ z.v < v := by omega
    have h4 : ¬ v < z.v := by omega
    simp [hz]
   ·have h3 : ¬ z.v < v := by omega
    have h4 : v < z.v := by omega
    simp [hz, h3, h4]
  ·have e0 : ¬ (i : Int) < l.length := by omega
   simp [gnZ, gnT, e0, hil]
def eM (ms : List Sy) : List D := ms.map fun y => .a [eY y, .b true]
def dM (d : D) : List Sy := d.ms.map fun p => dY (p.fld 0)
theorem zht (ms : List Sy) : dM (.mp (eM ms)) = ms := by
 show (ms.map fun y => D.a [eY y, .b true]).map (fun p => dY (p.fld 0)) = ms
 rw [List.map_map]
 exact List.map_id'' (fun x => rfl) ms
theorem qzu (y : Sy) : ∀ ms : List Sy, mfind (eY y) (eM ms) = if y ∈ ms then some (.b true) else none
 | [] => by simp [eM, mfind]
 | z :: ms => by
  have ih := qzu y ms
  show (if eY z = eY y then some (D.b true) else mfind (eY y) (eM ms)) = _
  by_cases h : z = y
  ·subst h
   rw [if_pos rfl]
   simp
  ·have h' : ¬ y = z := fun e => h e.symm
   rw [if_neg (fun e => h (qy2 e)), ih]
   simp [h']
theorem z56 {y : Sy} : ∀ {ms : List Sy}, y ∉ ms → mset (eY y) (.b true) (eM ms) = eM (ms ++ [y])
 | [], _ => by simp [eM, mset]
 | z :: ms, h => by
  have h1 : ¬ z = y := fun e => h (by simp [e])
  have h2 : y ∉ ms := fun e => h (by simp [e])
  have ih := z56 h2
  show (if eY z = eY y then D.a [eY y, .b true] :: eM ms else D.a [eY z, .b true] :: mset (eY y) (.b true) (eM ms)) = _
  rw [if_neg (fun e => h1 (qy2 e)), ih]
  rfl
theorem qvn (ys : List Sy) : ∀ (l m : List Te) (ms : List Sy), q5e ys ms (l ++ m) = q5e ys (q5e ys ms l) m
 | [], m, ms => rfl
 | t :: l, m, ms => by rw [List.cons_append, q5e, q5e, qvn ys l m]
theorem qkc : ∀ (l m : List Te), q1t (l ++ m) = q1t l + q1t m
 | [], m => by simp [q1t]
 | t :: l, m => by rw [List.cons_append, q1t, q1t, qkc l m]; omega
theorem zk6 (ys ms : List Sy) (t : Te) : qct ys ms t = q5e ys (if t.k = 2 ∨ t.k = 3 then qpb ys ms ⟨t.s, (t.l.length : Nat)⟩ else ms) t.l := by
 cases t
 rw [qct]
 rfl
theorem zbb (t : Te) : q8y t = if t.k = 3 then 1 + t.l.length + q1t t.l else 0 := by
 cases t
 rw [q8y]
 rfl
theorem zil (h : q8v t = true) (h3 : ¬ t.k = 3) : t.l = [] := by
 obtain ⟨k, n, nm, l⟩ := t
 rcases qg5 h with h | h | h | h
 ·exact h.2.1
 ·exact h.2
 ·exact h.2.1
 ·exact (h3 h.1).elim
def qyq : List D → Option (List D)
 | [t, m, n, s] => if m = .mp (eM (dM m)) ∧ jv (dT t) = true ∧ 0 ≤ n.int ∧ n.int + q8y (dT t) ≤ 1099511627776 then some [.mp (eM (qct (dS s).ys (dM m) (dT t))), .i (n.int + q8y (dT t))] else none
 | _ => none
theorem qnu : FOk zf qyq := qb3 (m := mT) q8k fun N ih => qkn ih qfa fun ds outs hw hg => by
 obtain ⟨d, r, rfl, hd, e, r', rfl, he, f, r2, rfl, hf, q, r3, rfl, hq, rfl⟩ := hw
 obtain ⟨t, rfl, ht⟩ := wfT hd
 obtain ⟨n, rfl, hn⟩ := wfI hf
 obtain ⟨s, rfl, hs⟩ := wfS hq
 simp only [q5l, mT, qyq, List.getD_cons_zero, q1w, yv, zk, Option.ite_none_right_eq_some, Option.some.injEq] at hg
 obtain ⟨hsz, ⟨hm, hnd, h0, h1⟩, rfl⟩ := hg
 obtain ⟨ms, hms⟩ : ∃ ms, e = .mp (eM ms) := ⟨_, hm⟩
 subst hms
 rw [zht]
 have hl := ht.l
 have hnl := (q87 t).1 hnd
 have key : ∀ (x1 x2 : X) (ms0 : List Sy) (n0 : Int), x1.ev (evl (qb [(zf, q5l mT N qyq), (zx, qb1)]) [eT t, .mp (eM ms), .i n, eS s]) = .mp (eM ms0) → x2.ev (evl (qb [(zf, q5l mT N qyq), (zx, qb1)]) [eT t, .mp (eM ms), .i n, eS s]) = .i n0 → 0 ≤ n0 → n0 + q1t t.l = n + q8y t → q5e s.ys ms0 t.l = qct s.ys ms t → Tree.go (qb [(zf, q5l mT N qyq), (zx, qb1)]) (fun o => o = [.mp (eM (qct s.ys ms t)), .i (n + q8y t)]) (.loop 8 4 [(.lit (.i 0)), x1, x2] (.br (.lt (.tok 4) (.len (.fld (.tok 0) 3))) (.need [(.le (.lit (.i 0)) (.tok 4)), (.lt (.tok 4) (.len (.fld (.tok 0) 3)))] (.need [(.ok 0 [(.get (.fld (.tok 0) 3) (.tok 4)), (.tok 5), (.tok 6), (.tok 3)])] (.need [(.rng .i64 (.add (.tok 4) (.lit (.i 1))))] (.back 8 [(.add (.tok 4) (.lit (.i 1))), (.call 0 0 [(.get (.fld (.tok 0) 3) (.tok 4)), (.tok 5), (.tok 6), (.tok 3)]), (.call 0 1 [(.get (.fld (.tok 0) 3) (.tok 4)), (.tok 5), (.tok 6), (.tok 3)])])))) (.leaf [(.tok 5), (.tok 6)]))) [eT t, .mp (eM ms), .i n, eS s] fun _ _ => False := by
  intro x1 x2 ms0 n0 hx1 hx2 hn0 hc hv
  rw [jt]
  refine ⟨fun st => ∃ k : Nat, k ≤ t.l.length ∧ st = [.i k, .mp (eM (q5e s.ys ms0 (t.l.take k))), .i (n0 + q1t (t.l.take k))], fun st => t.l.length - (st.getD 0 .u).int.toNat, ⟨0, Nat.zero_le _, by simp only [X.evs, hx1, hx2, X.ev]; simp [q5e, q1t]⟩, ?_⟩
  rintro st - ⟨k, hk, rfl⟩
  rw [qj]
  refine ⟨fun hlt => ?_, fun hlt => ?_⟩
  ·simp only [gnZ, gnT] at hlt
   have hkl : k < t.l.length := by omega
   have ha := qgb hkl
   have hsn : q1t (t.l.take (k + 1)) = q1t (t.l.take k) + q8y (t.l.getD k default) := by
    rw [qae hkl, qkc]
    simp [q1t]
   have hle : q1t (t.l.take (k + 1)) ≤ q1t t.l := by
    have := qkc (t.l.take (k + 1)) (t.l.drop (k + 1))
    rw [List.take_append_drop] at this
    omega
   have hvs : q5e s.ys ms0 (t.l.take (k + 1)) = qct s.ys (q5e s.ys ms0 (t.l.take k)) (t.l.getD k default) := by
    rw [qae hkl, qvn]
    rfl
   have hq : (jv (t.l.getD k default) = true ∧ 0 ≤ n0 + (q1t (t.l.take k) : Int) ∧ n0 + (q1t (t.l.take k) : Int) + q8y (t.l.getD k default) ≤ 1099511627776) := ⟨hnl.2 k hkl, by omega, by omega⟩
   simp only [gnZ, gnT, qr5 hkl, q5l, mT, qyq, if_pos hq, if_pos (show szT (t.l.getD k default) < N by omega), zht]
   refine ⟨⟨by omega, by omega⟩, ⟨by omega, by omega⟩, ?_⟩
   rw [q2p, if_pos rfl]
   refine ⟨⟨k + 1, by omega, ?_⟩, ?_⟩
   ·rw [hvs, hsn]
    simp
    omega
   ·simp [D.int]
    omega
  ·simp only [gnZ, gnT] at hlt ⊢
   have : k = t.l.length := by omega
   subst this
   rw [List.take_length, hv, hc]
 rw [q54]
 have ey : D.a [.s t.s, .i (t.l.length : Nat)] = eY ⟨t.s, (t.l.length : Nat)⟩ := rfl
 simp only [gnZ, gnT, qb1, fnD, ey, z6x, qzu]
 have hc3 : t.k = 3 → q8y t = 1 + t.l.length + q1t t.l := fun h => by rw [zbb, if_pos h]
 have hc0 : ¬ t.k = 3 → q8y t = 0 ∧ q1t t.l = 0 := fun h => by
  rw [zbb, if_neg h, zil hnl.1 h]
  exact ⟨rfl, rfl⟩
 have hvm := zk6 s.ys ms t
 have hput : ∀ ms0, ms0 = qpb s.ys ms ⟨t.s, (t.l.length : Nat)⟩ → (decide (t.k = 2) || decide (t.k = 3)) = true → q5e s.ys ms0 t.l = qct s.ys ms t := fun ms0 e h => by
  rw [hvm, e, if_pos (by simpa using h)]
 have hM : (X.fn 2 [.tok 1, .mk [.fld (.tok 0) 2, .len (.fld (.tok 0) 3)], .lit (.b true)]).ev (evl (qb [(zf, q5l mT N qyq), (zx, qb1)]) [eT t, .mp (eM ms), .i n, eS s]) = .mp (mset (eY ⟨t.s, (t.l.length : Nat)⟩) (.b true) (eM ms)) := by
  simp only [gnZ, gnT, fnD, ey, z6x]
 have hN : (X.add (.tok 2) (.add (.len (.fld (.tok 0) 3)) (.lit (.i 1)))).ev (evl (qb [(zf, q5l mT N qyq), (zx, qb1)]) [eT t, .mp (eM ms), .i n, eS s]) = .i (n + ((t.l.length : Nat) + 1)) := by
  simp only [gnZ, gnT]
 have hno : ((!((if (⟨t.s, (t.l.length : Nat)⟩ : Sy) ∈ ms then some (D.b true) else none).getD (D.b false)).tt && decide (qd1 s t.s (t.l.length : Nat) < 0)) = true) ↔ ¬ ((⟨t.s, (t.l.length : Nat)⟩ : Sy) ∈ ms ∨ (⟨t.s, (t.l.length : Nat)⟩ : Sy) ∈ s.ys) := by
  rw [← qdv (s := s) (nm := t.s) (ar := (t.l.length : Nat))]
  by_cases hm : (⟨t.s, (t.l.length : Nat)⟩ : Sy) ∈ ms
  ·simp [hm, D.tt]
  ·simp [hm, D.tt]
 refine ⟨fun h23 => ⟨fun hc => ?_, fun hc => ?_⟩, fun h23 => ?_⟩
 ·have hc' := hno.1 hc
  have e1 : qpb s.ys ms ⟨t.s, (t.l.length : Nat)⟩ = ms ++ [⟨t.s, (t.l.length : Nat)⟩] := by rw [qpb, if_neg hc']
  rw [z56 fun q => hc' (.inl q), ← e1] at hM
  exact ⟨fun h3 => ⟨⟨⟨by omega, by omega⟩, by omega, by have := hc3 h3; omega⟩, key _ _ _ _ hM hN (by omega) (by have := hc3 h3; omega) (hput _ rfl h23)⟩, fun h3 => key _ _ _ _ hM rfl h0 (by have := hc0 h3; omega) (hput _ rfl h23)⟩
 ·have hc' : (⟨t.s, (t.l.length : Nat)⟩ : Sy) ∈ ms ∨ (⟨t.s, (t.l.length : Nat)⟩ : Sy) ∈ s.ys := Classical.byContradiction fun q => by
   rw [hno.2 q] at hc
   cases hc
  have e1 : ms = qpb s.ys ms ⟨t.s, (t.l.length : Nat)⟩ := by rw [qpb, if_pos hc']
  exact ⟨fun h3 => ⟨⟨⟨by omega, by omega⟩, by omega, by have := hc3 h3; omega⟩, key _ _ _ _ rfl hN (by omega) (by have := hc3 h3; omega) (hput _ e1 h23)⟩, fun h3 => key _ _ _ _ rfl rfl h0 (by have := hc0 h3; omega) (hput _ e1 h23)⟩
 ·have h3 : ¬ t.k = 3 := fun q => by simp [q] at h23
  have h4 : ¬ (t.k = 2 ∨ t.k = 3) := fun q => by
   rcases q with q | q <;> simp [q] at h23
  rw [if_neg h4] at hvm
  exact ⟨fun q => (h3 q).elim, fun _ => key _ _ _ _ rfl rfl h0 (by have := hc0 h3; omega) hvm.symm⟩
theorem qab : FOk zs (gCl 5864062014634) := q9w fun ds outs hw hg => by
 obtain ⟨d, r, rfl, hd, rfl⟩ := hw
 obtain ⟨l, te, rfl, -⟩ := hd.row
 simp only [gCl, z3o, Option.ite_none_right_eq_some, Option.some.injEq] at hg
 obtain ⟨h1, rfl⟩ := hg
 exact zb8 h1 rfl
def vAt (s : So) (l : List Vc) (k : Nat) : Bool := decide (0 ≤ (l.getD k default).v) && (decide ((l.getD k default).v ≤ 1099511627776) && (decide (k = 0 ∨ (l.getD (k - 1) default).v < (l.getD k default).v) && vcP s (l.getD k default).c))
def vvP (s : So) (l : List Vc) : Bool := (List.range l.length).all (vAt s l)
theorem qdw {l : List Vc} {i : Nat} (h : i < l.length) : l.getD i default = l[i] := by
 rw [gnG, gnK h]
 rfl
theorem z57 {s : So} {l : List Vc} : vvP s l = true ↔ SV l ∧ ∀ x ∈ l, vcP s x.c = true := by
 unfold vvP
 rw [List.all_eq_true]
 constructor
 ·intro h
  have h' : ∀ k, k < l.length → vAt s l k = true := fun k hk => h k (List.mem_range.2 hk)
  have step : ∀ j i, i < j → j < l.length → (l.getD i default).v < (l.getD j default).v := by
   intro j
   induction j with
   | zero => intro i hi; omega
   | succ j ih =>
    intro i hi hj
    have h1 := h' (j + 1) hj
    simp only [vAt, gnB, gnD] at h1
    have h2 : (l.getD j default).v < (l.getD (j + 1) default).v := by
     rcases h1.2.2.1 with h | h
     ·omega
     ·exact h
    rcases Nat.lt_or_eq_of_le (Nat.le_of_lt_succ hi) with h3 | rfl
    ·have := ih i h3 (by omega)
     omega
    ·exact h2
  refine ⟨⟨List.pairwise_iff_getElem.2 fun i j hi hj hij => ?_, fun x hx => ?_⟩, fun x hx => ?_⟩
  ·have := step j i hij hj
   rw [qdw hi, qdw hj] at this
   exact this
  ·obtain ⟨i, hi, rfl⟩ := List.mem_iff_getElem.1 hx
   have h1 := h' i hi
   simp only [vAt, gnB, gnD, qdw hi] at h1
   exact ⟨h1.1, h1.2.1⟩
  ·obtain ⟨i, hi, rfl⟩ := List.mem_iff_getElem.1 hx
   have h1 := h' i hi
   simp only [vAt, gnB, gnD, qdw hi] at h1
   exact h1.2.2.2
 ·rintro ⟨hs, hc⟩ k hk
  have hk := List.mem_range.1 hk
  have hm := qik hk
  simp only [vAt, gnB, gnD]
  refine ⟨(hs.2 _ hm).1, (hs.2 _ hm).2, ?_, hc _ hm⟩
  rcases Nat.eq_zero_or_pos k with h | h
  ·exact .inl h
  ·right
   have h1 : k - 1 < l.length := by omega
   rw [qdw h1, qdw hk]
   exact List.pairwise_iff_getElem.1 hs.1 (k - 1) k h1 hk (by omega)
def gVV (f : So → List Vc → Bool) : List D → Option (List D)
 | [s, l] => some [.b (f (dS s) (dVs l))]
 | _ => none
theorem qg3 : FOk j2 (gVV vvP) := qev yy fun ds outs hw hg => by
 obtain ⟨d, r, rfl, hd, e, r', rfl, he, rfl⟩ := hw
 obtain ⟨s, rfl, hs⟩ := wfS hd
 obtain ⟨l, rfl, hl, hok⟩ := zcp he
 simp only [gVV, zk, q4z, Option.some.injEq] at hg
 subst hg
 rw [q2t, jt]
 refine ⟨fun st => ∃ k : Nat, k ≤ l.length ∧ st = [.b false, .i k] ∧ ∀ j, j < k → vAt s l j = true, fun st => l.length - (st.getD 1 .u).int.toNat, ⟨0, Nat.zero_le _, rfl, fun j hj => absurd hj (Nat.not_lt_zero _)⟩, ?_⟩
 rintro st - ⟨k, hk, rfl, hP⟩
 rw [qj]
 refine ⟨fun hlt => ?_, fun hlt => ?_⟩
 ·simp only [gnZ, gnT] at hlt
  have hkl : k < l.length := by omega
  have hvb := (hok _ (qik hkl)).1
  by_cases h0 : k = 0
  ·subst h0
   have e1 : decide ((0 : Int) < ((0 : Nat) : Int)) = false := by decide
   simp only [gnZ, gnT, q7o eV hkl, zl0, zj0, qb8, e1, Bool.and_false, Bool.false_and, Bool.not_false, Bool.true_or, Bool.or_false, true_and, and_self]
   refine ⟨⟨by omega, by omega⟩, fun hb => ?_, fun hb => ⟨⟨by omega, by omega⟩, ?_⟩⟩
   ·have hv : vAt s l 0 = false := by
     simp only [vAt, true_or, decide_true, Bool.true_and]
     generalize l.getD 0 default = z at hb ⊢
     cases hvc : vcP s z.c
     ·simp
     ·simp [hvc] at hb ⊢
      omega
    rw [vvP, qb4 hkl hv]
   ·have hv : vAt s l 0 = true := by
     simp only [vAt, true_or, decide_true, Bool.true_and]
     generalize l.getD 0 default = z at hb ⊢
     cases hvc : vcP s z.c
     ·simp [hvc] at hb
     ·simp [hvc] at hb ⊢
      omega
    rw [q2p, if_pos rfl]
    exact ⟨⟨1, by omega, by simp, q2i hP hv⟩, by simp [D.int]; omega⟩
  ·have hk1 : ((k : Int) - 1) = ((k - 1 : Nat) : Int) := by omega
   have hkp : k - 1 < l.length := by omega
   have hp : (0 : Int) < k := by omega
   have hr1 : yz .i64 ((k - 1 : Nat) : Int) = true := by simp [yz]; omega
   have hr2 : (0 : Int) ≤ ((k - 1 : Nat) : Int) := by omega
   have hr3 : ((k - 1 : Nat) : Int) < l.length := by omega
   simp only [gnZ, gnT, hk1, hp, hr1, hr2, hr3, q7o eV hkl, q7o eV hkp, zl0, zj0, qb8, Bool.and_true, Bool.true_and]
   refine ⟨⟨by omega, by omega⟩, fun hb => ?_, fun hb => ⟨⟨by omega, by omega⟩, ?_⟩⟩
   ·have hv : vAt s l k = false := by
     simp only [vAt, h0, false_or]
     generalize l.getD k default = z at hb ⊢
     cases hvc : vcP s z.c
     ·simp
     ·simp [hvc] at hb ⊢
      omega
    rw [vvP, qb4 hkl hv]
   ·have hv : vAt s l k = true := by
     simp only [vAt, h0, false_or]
     generalize l.getD k default = z at hb ⊢
     cases hvc : vcP s z.c
     ·simp [hvc] at hb
     ·simp [hvc] at hb ⊢
      omega
    rw [q2p, if_pos rfl]
    exact ⟨⟨k + 1, by omega, by simp, q2i hP hv⟩, by simp [D.int]; omega⟩
 ·simp only [gnZ, gnT] at hlt ⊢
  have : k = l.length := by omega
  subst this
  simp only [vvP, qdr hP]
def ql9 (s : So) (t : Te) (l : List Vc) : Bool := decide ((qmb t l : Int) ≤ s.mx - s.cs.length) && decide (((qct s.ys [] t).length : Int) ≤ 1048576 - s.ys.length)
def z58 : List D → Option (List D)
 | [s, t, l] => if jv (dT t) = true ∧ szT (dT t) ≤ 2000 ∧ SV (dVs l) ∧ 0 ≤ (dS s).mx ∧ (dS s).cs.length ≤ 1048576 ∧ (dS s).ys.length ≤ 1048576 then some [.b (ql9 (dS s) (dT t) (dVs l))] else none
 | _ => none
theorem qu1 : FOk q1b z58 := qqj qnu q1l fun ds outs hw hg => by
 obtain ⟨d, r, rfl, hd, e, r', rfl, he, f, r2, rfl, hf, rfl⟩ := hw
 obtain ⟨s, rfl, hs⟩ := wfS hd
 obtain ⟨t, rfl, ht⟩ := wfT he
 obtain ⟨l, rfl, hl, hok⟩ := zcp hf
 simp only [z58, zk, q1w, q4z, Option.ite_none_right_eq_some, Option.some.injEq] at hg
 obtain ⟨⟨hnd, hsz, hsv, hmx, hcl, hyl⟩, rfl⟩ := hg
 have hc := z5l t
 have hv := z0k t s.ys []
 have hc0 : jv t = true ∧ (0 : Int) ≤ 0 ∧ 0 + (q8y t : Int) ≤ 1099511627776 := ⟨hnd, by omega, by omega⟩
 have hc1 : jv t = true ∧ (0 : Int) ≤ 1 ∧ 1 + (q8y t : Int) ≤ 1099511627776 := ⟨hnd, by omega, by omega⟩
 have hme : (D.mp [] = D.mp (eM [])) = True := eq_true rfl
 have hmd : dM (D.mp []) = [] := rfl
 simp only [q7i, gnZ, gnT, qyq, zew, q4z, if_pos hsv, fnD, z6x, hmd, hme, if_pos hc0, if_pos hc1, ql9]
 have hlen : (eM (qct s.ys [] t)).length = (qct s.ys [] t).length := List.length_map _
 have hr1 : yz .i64 ((qct s.ys [] t).length : Int) = true := by simp [yz] at hv ⊢; omega
 have hr2 : yz .i64 (1048576 - (s.ys.length : Int)) = true := by simp [yz]; omega
 have hx := hs.mx
 simp only [hlen, hr1, hr2, Bool.or_true, true_and]
 refine ⟨fun h0 => ⟨fun hn => ⟨⟨by omega, by omega⟩, ⟨by omega, by omega⟩, ?_⟩, fun hn => ⟨⟨by omega, by omega⟩, ?_⟩⟩, fun h0 => ⟨⟨by omega, by omega⟩, ?_⟩⟩
 ·have e : ofV l t.n = none := by simpa using hn
  rw [qmb, if_pos ⟨h0, e⟩, Nat.add_comm]
  rfl
 ·have e : ¬ ofV l t.n = none := fun q => by rw [q] at hn; cases hn
  rw [qmb, if_neg fun q => e q.2]
  simp
 ·rw [qmb, if_neg fun q => h0 q.1]
  simp
def z1s (s : So) (all : List Vc) (t : Te) (a : Int) : Bool := jv t && (decide (SV all) && (decide ((s.cs.length : Int) + ((if a < 0 then qmb t all else q8y t : Nat) : Int) ≤ s.mx) && (decide (s.mx ≤ 1048576) && (decide ((q9f s.ys t).length ≤ 1048576) && decide (a ≤ 1048576)))))
def zg9 : List D → Option (List D)
 | [t, a, all, s] => if z1s (dS s) (dVs all) (dT t) a.int then some [eC (q70 (dS s, dVs all) (dT t) a.int).1, .r ((q70 (dS s, dVs all) (dT t) a.int).2.2.map eV), eS (q70 (dS s, dVs all) (dT t) a.int).2.1] else none
 | _ => none
theorem zgw {s : So} (h : qfk nm ar = false) (hl : (qkv s.ys ⟨nm, ar⟩).length ≤ 1048576) : zcv [eS s, .s nm, .i ar] = some [.i (q81 s nm ar).1, .i 0, eS (q81 s nm ar).2] := by
 simp only [zcv, zk, q2s, yv, h, q81]
 by_cases h0 : 0 ≤ qd1 s nm ar
 ·simp [h0]
 ·have h1 : ¬ (⟨nm, ar⟩ : Sy) ∈ s.ys := fun q => h0 (qdv.2 q)
  rw [qkv, if_neg h1] at hl
  have h2 : ¬ 1048576 ≤ s.ys.length := by simp at hl; omega
  simp [h0, h2]
theorem zi9 (s : So) (i : Nat) (c : Ce) : D.a ((eS s).fs.set 0 (.r ((s.cs.map eC).set i (eC c)))) = eS (z76 s i c) := by
 rw [← List.map_set]
 rfl
theorem zgo (s : So) (l : List Ce) : D.a ((eS s).fs.set 0 (.r (s.cs.map eC ++ l.map eC))) = eS { s with cs := s.cs ++ l } := by
 rw [← List.map_append]
 rfl
theorem qpo : FOk z4 zg9 := qb3 (m := mT) q0o fun N ih => qmz ih qm4 q1l qtp qcm q9u fun ds outs hw hg => by
 obtain ⟨d, r, rfl, hd, e, r', rfl, he, f, r2, rfl, hf, q, r3, rfl, hq, rfl⟩ := hw
 obtain ⟨t, rfl, ht⟩ := wfT hd
 obtain ⟨a, rfl, ha⟩ := wfI he
 obtain ⟨all, rfl, hal, hok⟩ := zcp hf
 obtain ⟨s, rfl, hs⟩ := wfS hq
 simp only [q5l, mT, zg9, List.getD_cons_zero, q1w, yv, zk, q4z, Option.ite_none_right_eq_some, Option.some.injEq] at hg
 obtain ⟨hsz, hA, rfl⟩ := hg
 simp only [z1s, gnB, gnD] at hA
 obtain ⟨hnd, hsv, hcs, hmx, hys, hamx⟩ := hA
 have hnl := (q87 t).1 hnd
 obtain ⟨k, n, nm, l⟩ := t
 have hlo := z2b n all
 have hlen := SV.len hsv
 rcases qg5 hnl.1 with ⟨rfl, rfl, h1, h2⟩ | ⟨rfl, rfl⟩ | ⟨rfl, rfl, h1⟩ | ⟨rfl, h1, h2, h3⟩
 ·have hins : ∀ c : Ce, zj2 [.r (all.map eV), .i (loV all n), .r [eV ⟨n, c⟩]] = some [.r ((qlz all n c).map eV)] := fun c => by
   simp only [zj2, q6i, yv, List.length_map, List.length_singleton, Int.toNat_natCast]
   rw [if_pos ⟨trivial, by omega, by omega, by omega⟩, qz4]
   simp [List.map_take, List.map_drop]
  have hof := z2v (v := n) hsv
  rw [z8t]
  simp only [q1f, gnZ, gnT, Te.k, Te.n, Te.s, Te.l, q4t, qfd, zgx, zew, q4z, if_pos hsv, hins]
  refine ⟨fun h => absurd h (by decide), fun _ => ⟨fun h => absurd h (by decide), fun _ => ⟨fun _ => ⟨fun ho => ?_, fun ho => ⟨fun ha0 => ?_, fun ha0 => ?_⟩⟩, fun h => (by cases h)⟩⟩⟩
  ·split at hof
   ·rename_i hq
    simp only [q7o eV hq.1, zj0, hof, yw]
    exact ⟨⟨by omega, by omega⟩, trivial⟩
   ·rw [hof] at ho
    cases ho
  ·have e : ofV all n = none := by simpa using ho
   have hn : qmb (.mk 0 n nm []) all = 1 := by
    rw [qmb, qs3 (by decide), if_pos ⟨rfl, e⟩]
   rw [if_pos ha0, hn] at hcs
   have h4 : ¬ s.mx ≤ s.cs.length := by omega
   have h5 : s.cs.length < 8796093021952 := by omega
   simp only [qz3, zk, h4, h5, decide_false, decide_true, gnF, if_false, if_true, Option.getD_some, Option.isSome_some, List.getD_cons_zero, List.getD_cons_succ, zgx, hins, e, ha0, true_and]
   exact ⟨⟨by omega, by omega, by omega, by omega⟩, trivial⟩
  ·have e : ofV all n = none := by simpa using ho
   simp only [e, if_neg ha0]
   done
 ·rw [zbo]
  simp [q1f, gnZ, gnT, Te.k, Te.n, Te.s, Te.l, qfd]
  done
 ·rw [zaj] at hys
  have hb : qfk nm 0 = false := by simp [qfk]; omega
  rw [z8o]
  simp [q1f, gnZ, gnT, Te.k, Te.n, Te.s, Te.l, qfd, zgw hb hys]
  done
 ·rw [z8u] at hys
  have hb : qfk nm (l.length : Nat) = false := by simp [qfk]; omega
  have hys0 : (qkv s.ys ⟨nm, (l.length : Nat)⟩).length ≤ 1048576 := Nat.le_trans (qau l _) hys
  have hl8 : (l.length : Int) ≤ 16777216 := by omega
  obtain ⟨y1, y2, y3, y4, y5, y6⟩ := qwn s nm (l.length : Nat)
  have hcn : (s.cs.length : Int) + ((1 + l.length + q1t l : Nat) : Int) ≤ s.mx := by
   rw [qwt (by decide), zh7] at hcs
   split at hcs <;> exact hcs
  rw [z8l, ← y1]
  rw [← y1] at hcn
  rw [← y3] at hys
  have hS := zgw (s := s) hb hys0
  have yl : s.ys.length ≤ (q81 s nm (l.length : Nat)).2.ys.length := by
   rw [y3]
   unfold qkv
   split <;> simp
  have yc : s.cs.length = (q81 s nm (l.length : Nat)).2.cs.length := by rw [y1]
  generalize q81 s nm (l.length : Nat) = S at hS hys hcn y2 y4 y5 yl yc ⊢
  have hz : List.replicate l.length (eC ⟨0, 0⟩) = (List.replicate l.length (⟨0, 0⟩ : Ce)).map eC := by rw [List.map_replicate]
  simp only [q1f, gnZ, gnT, Te.k, Te.n, Te.s, Te.l, qfd, hS, z35, Int.toNat_natCast]
  refine ⟨fun h => absurd h (by decide), fun _ => ⟨fun h => absurd h (by decide), fun _ => ⟨fun h => absurd h (by decide), fun _ => ?_⟩⟩⟩
  refine ⟨⟨by omega, by omega, by omega, by omega⟩, ⟨by omega, by omega⟩, ⟨by omega, by omega, by simp; omega, by simp; omega⟩, ?_⟩
  rw [jt]
  refine ⟨fun st => ∃ (k : Nat) (al : List Vc) (s' : So), k ≤ l.length ∧ st = [.i k, .r (al.map eV), eS s'] ∧ SV al ∧ s'.mx = s.mx ∧ (s'.cs.length : Int) + (q1t (l.drop k) : Int) ≤ s.mx ∧ S.2.cs.length + 1 + l.length ≤ s'.cs.length ∧ (q3u s'.ys (l.drop k)).length ≤ 1048576 ∧ (s.ys.length ≤ s'.ys.length ∧ s'.tr = s.tr ∧ s'.wk = s.wk) ∧ qbz (s', al) (l.drop k) (S.2.cs.length + 1 + k) = qbz ({ S.2 with cs := S.2.cs ++ (⟨4, S.1⟩ :: List.replicate l.length ⟨0, 0⟩) }, all) l (S.2.cs.length + 1), fun st => l.length - (st.getD 0 .u).int.toNat, ⟨0, all, { S.2 with cs := S.2.cs ++ (⟨4, S.1⟩ :: List.replicate l.length ⟨0, 0⟩) }, Nat.zero_le _, ?_, hsv, y2, by simp; omega, by simp; omega, hys, ⟨yl, y4, y5⟩, rfl⟩, ?_⟩
  ·simp only [X.evs, gnZ, gnT, Te.k, Te.n, Te.s, Te.l, qfd, hS, z35, Int.toNat_natCast, hz, zgo]
   simp [eS, D.fs]
  rintro st - ⟨k, al, s', hk, rfl, hsv', hmx', hc', hb', hy', ⟨hyl, htr', hwk'⟩, hP⟩
  rw [qj]
  refine ⟨fun hlt => ?_, fun hlt => ?_⟩
  ·simp only [gnZ, gnT, Te.l] at hlt
   have hkl : k < l.length := by omega
   have ha := qgb (t := .mk 3 n nm l) hkl
   simp only [Te.l] at ha
   have hto : ((S.2.cs.length : Int) + 1 + (k : Int)) = ((S.2.cs.length + 1 + k : Nat) : Int) := by omega
   have hdr := qup hkl
   rw [hdr, q1t] at hc'
   rw [hdr, q3u] at hy'
   rw [hdr, qbz] at hP
   have hsy := Nat.le_trans (qau (l.drop (k + 1)) (q9f s'.ys (l.getD k default))) hy'
   have hnk := hnl.2 k hkl
   simp only [Te.l] at hnk
   have hQ : z1s s' al (l.getD k default) ((S.2.cs.length + 1 + k : Nat) : Int) = true := by
    have h0 : ¬ (((S.2.cs.length + 1 + k : Nat) : Int) < 0) := by omega
    simp only [z1s, if_neg h0, gnB, gnD]
    exact ⟨hnk, hsv', by omega, by omega, hsy, by omega⟩
   obtain ⟨g1, g2, g3, g4⟩ := qse (l.getD k default) (s', al) ((S.2.cs.length + 1 + k : Nat) : Int) hnk hsv'
   rw [if_neg (by omega)] at g1
   simp only [gnZ, gnT, Te.k, Te.n, Te.s, Te.l, hS, qr5 hkl, hto, q5l, mT, zg9, q4z, if_pos hQ, if_pos (show szT (l.getD k default) < N by omega)]
   generalize q70 (s', al) (l.getD k default) ((S.2.cs.length + 1 + k : Nat) : Int) = R at g1 g2 g3 g4 hP ⊢
   simp only at g1
   simp only [gnZ, gnT, Int.toNat_natCast, zi9]
   refine ⟨⟨by omega, by omega⟩, ⟨⟨by omega, by omega⟩, by omega, by omega⟩, ⟨by omega, by omega, by rw [htr']; exact Int.le_refl _, by rw [hwk']; exact Int.le_refl _⟩, ⟨by omega, by omega, by omega⟩, ⟨by omega, by omega⟩, ?_⟩
   rw [q2p, if_pos rfl]
   refine ⟨⟨k + 1, R.2.2, z76 R.2.1 (S.2.cs.length + 1 + k) R.1, by omega, by simp, g4, g3.1.trans hmx', ?_, ?_, ?_, ?_, hP⟩, ?_⟩
   ·rw [qrp, g1]
    omega
   ·rw [qrp, g1]
    omega
   ·show (q3u R.2.1.ys _).length ≤ _
    rw [g2]
    exact hy'
   ·refine ⟨?_, g3.2.1.trans htr', g3.2.2.1.trans hwk'⟩
    show s.ys.length ≤ R.2.1.ys.length
    rw [g2]
    exact Nat.le_trans hyl (qiv _ _)
   ·simp [D.int]
    omega
  ·simp only [gnZ, gnT, Te.l] at hlt
   have : k = l.length := by omega
   subst this
   rw [List.drop_length, qbz] at hP
   simp only [gnZ, gnT, Te.k, Te.n, Te.s, Te.l, qfd, hS, ← hP]
def z03 (s : So) (t : Te) (l : List Vc) : Ce × List Vc × Int × So :=
 if q2w t && vvP s l then (if ql9 s t l then ((q70 (s, l) t (-1)).1, (q70 (s, l) t (-1)).2.2, 0, (q70 (s, l) t (-1)).2.1) else (⟨0, 0⟩, [], 13, s)) else (⟨0, 0⟩, [], 1, s)
def z7t : List D → Option (List D)
 | [s, t, l] => if y9 (dS s) then some [eC (z03 (dS s) (dT t) (dVs l)).1, .r ((z03 (dS s) (dT t) (dVs l)).2.1.map eV), .i (z03 (dS s) (dT t) (dVs l)).2.2.1, eS (z03 (dS s) (dT t) (dVs l)).2.2.2] else none
 | _ => none
theorem zc5 {s : So} (h : y9 s = true) : 1 ≤ s.mx ∧ s.mx ≤ 1048576 ∧ (s.cs.length : Int) ≤ s.mx ∧ s.ys.length ≤ 1048576 := by
 have h := qyl h
 simp only [qf5, qbv, gnB, gnD] at h
 omega
theorem z11 {s : So} {l : List Vc} (hs : y9 s = true) (ht : q2w t = true) (hl : vvP s l = true) (hr : ql9 s t l = true) : z1s s l t (-1) = true := by
 obtain ⟨h1, h2, h3, h4⟩ := zc5 hs
 simp only [q2w, gnB, gnD] at ht
 simp only [ql9, gnB, gnD] at hr
 have hv := z9k t s.ys []
 rw [List.append_nil] at hv
 have hv' := congrArg List.length hv
 rw [List.length_append] at hv'
 simp only [z1s, gnB, gnD]
 exact ⟨ht.2, (z57.1 hl).1, by rw [if_pos (by decide)]; omega, h2, by omega, by decide⟩
theorem qi7 : FOk zn z7t := qt2 qpo qa4 qg3 qu1 qab fun ds outs hw hg => by
 obtain ⟨d, r, rfl, hd, e, r', rfl, he, f, r2, rfl, hf, rfl⟩ := hw
 obtain ⟨s, rfl, hs⟩ := wfS hd
 obtain ⟨t, rfl, ht⟩ := wfT he
 obtain ⟨l, rfl, hl, hok⟩ := zcp hf
 simp only [z7t, zk, q1w, q4z, Option.ite_none_right_eq_some, Option.some.injEq] at hg
 obtain ⟨hv, rfl⟩ := hg
 obtain ⟨h1, h2, h3, h4⟩ := zc5 hv
 have hz : D.a [.i 0, .i 0] = eC ⟨0, 0⟩ := rfl
 have hR : ql9 s t l = true → q2w t = true → vvP s l = true → z1s s l t (-1) = true := fun a b c => z11 hv b c a
 have hgr : q2w t = true → vvP s l = true → z58 [eS s, eT t, .r (l.map eV)] = some [.b (ql9 s t l)] := fun a b => by
  simp only [q2w, gnB, gnD] at a
  simp only [z58, zk, q1w, q4z]
  rw [if_pos ⟨a.2, a.1, (z57.1 b).1, by omega, by omega, h4⟩]
 simp only [q8n, gnZ, gnT, gTb, gVV, gCl, z3o, hl, hz, q4z, z03]
 cases hvt : q2w t
 ·simp
 cases hvl : vvP s l
 ·simp
 simp only [hgr hvt hvl]
 cases hrm : ql9 s t l
 ·simp [D.tt]
 simp [zg9, zk, q1w, q4z, D.int, D.tt, hR hrm hvt hvl]
theorem zcx {s : So} {n : Int} (h : 0 ≤ q2e s n) : inS s n = true := by
 cases hi : inS s n with
 | true => rfl
 | false => rw [qaf hi] at h; omega
def z2h (s : So) : Nat → Ce → Ce
 | 0, c => c
 | k + 1, c => if c.t = 0 ∧ 0 ≤ q2e s c.n ∧ cellAt s c.n ≠ c then z2h s k (cellAt s c.n) else c
def q1o (s : So) (c : Ce) : Ce := if vcP s c then z2h s s.cs.length c else ⟨0, 0⟩
def qcq : List D → Option (List D)
 | [s, c] => some [eC (q1o (dS s) (dC c))]
 | _ => none
theorem q47 : FOk zb qcq := qby yy q80 fun ds outs hw hg => by
 obtain ⟨d, r, rfl, hd, e, r', rfl, he, rfl⟩ := hw
 obtain ⟨s, rfl, hs⟩ := wfS hd
 obtain ⟨c, rfl, hc⟩ := wfC he
 simp only [qcq, zk, yw, Option.some.injEq] at hg
 subst hg
 have hl := hs.cs.1
 simp only [q3h, gnZ, qb8, z8z]
 refine ⟨fun h => ?_, fun h => ?_⟩
 ·simp only [q1o, show vcP s c = false by simpa using h]
  rfl
 have hvc' : vcP s c = true := by simpa using h
 rw [jt]
 refine ⟨fun st => ∃ (k : Nat) (x : Ce), k ≤ s.cs.length ∧ st = [.i k, eC x] ∧ z2h s (s.cs.length - k) x = q1o s c, fun st => s.cs.length - (st.getD 0 .u).int.toNat, ⟨0, c, Nat.zero_le _, rfl, by rw [Nat.sub_zero, q1o, if_pos hvc']⟩, ?_⟩
 rintro st - ⟨k, x, hk, rfl, hP⟩
 rw [qj]
 refine ⟨fun hlt => ?_, fun hlt => ?_⟩
 ·simp only [gnZ] at hlt
  have hkl : k < s.cs.length := by omega
  obtain ⟨n, hn⟩ : ∃ n, s.cs.length - k = n + 1 := ⟨s.cs.length - k - 1, by omega⟩
  rw [hn] at hP
  unfold z2h at hP
  have hn2 : s.cs.length - (k + 1) = n := by omega
  by_cases h0 : x.t = 0
  ·by_cases ht : 0 ≤ q2e s x.n
   ·have hin := zcx ht
    have h3 := z5.1 hin
    have ht' : ¬ q2e s x.n < 0 := by omega
    simp only [gnZ, q82, ze hin, h0, ht', h3.1, h3.2]
    refine ⟨fun hx => ?_, fun hx => ?_⟩
    ·have hx' : cellAt s x.n = x := by simpa using hx
     rw [if_neg (fun q => q.2.2 hx')] at hP
     rw [hP]
    ·have hx' : cellAt s x.n ≠ x := by simpa using hx
     rw [if_pos ⟨h0, ht, hx'⟩] at hP
     refine ⟨⟨by omega, by omega⟩, ?_⟩
     rw [q2p, if_pos rfl]
     refine ⟨⟨k + 1, cellAt s x.n, by omega, by simp, by rw [hn2]; exact hP⟩, ?_⟩
     simp [D.int]
     omega
   ·have ht' : q2e s x.n < 0 := by omega
    rw [if_neg (fun q => ht q.2.1)] at hP
    simp only [gnZ, q82, h0, ht', ← hP]
    simp
  ·rw [if_neg (fun q => h0 q.1)] at hP
   simp only [gnZ, q82, h0, ← hP]
   simp
 ·simp only [gnZ] at hlt ⊢
  have : k = s.cs.length := by omega
  subst this
  rw [Nat.sub_self] at hP
  rw [← hP, z2h]
theorem qgk : FOk jm (qa7 inS) := z02 fun ds outs hw hg => by
 obtain ⟨d, r, rfl, hd, e, r', rfl, he, rfl⟩ := hw
 obtain ⟨s, rfl, hs⟩ := wfS hd
 obtain ⟨i, rfl, hi⟩ := wfI he
 simp only [qa7, zk, yv, Option.some.injEq] at hg
 subst hg
 simp only [qat, gnZ, inS]
theorem qbd : FOk q0b q4t := quc fun ds outs hw hg => by
 obtain ⟨d, r, rfl, hd, rfl⟩ := hw
 obtain ⟨c, rfl, hc⟩ := wfC hd
 simp only [q4t, yw, Option.some.injEq] at hg
 subst hg
 simp only [q92, gnZ, q3m, zhh]
 exact ⟨fun h => by rw [if_pos h], fun h => by rw [if_neg h]⟩
def qf9 (s : So) (c : Ce) (nm : ByteArray) : Bool := decide (c.t = 3) && (inS s c.n && (inS s (c.n + 2) && (decide ((cellAt s c.n).t = 4) && (decide (0 ≤ (cellAt s c.n).n) && (decide ((cellAt s c.n).n < s.ys.length) && decide (s.ys.getD (cellAt s c.n).n.toNat default = ⟨nm, 2⟩))))))
def z51 : List D → Option (List D)
 | [s, c, nm] => if qf9 (dS s) (dC c) nm.str then some [eC (cellAt (dS s) ((dC c).n + 1)), eC (cellAt (dS s) ((dC c).n + 2)), .b true] else some [eC ⟨0, 0⟩, eC ⟨0, 0⟩, .b false]
 | _ => none
theorem q28 {s : So} : qf9 s c nm = true ↔ c.t = 3 ∧ inS s c.n = true ∧ inS s (c.n + 2) = true ∧ (cellAt s c.n).t = 4 ∧ 0 ≤ (cellAt s c.n).n ∧ (cellAt s c.n).n < s.ys.length ∧ s.ys.getD (cellAt s c.n).n.toNat default = ⟨nm, 2⟩ := by
 simp only [qf9, gnB, gnD]
theorem zme {s : So} (h0 : inS s i = true) (h2 : inS s (i + 2) = true) : inS s (i + 1) = true := by
 have := z5.1 h0
 have := z5.1 h2
 exact z5.2 ⟨by omega, by omega⟩
theorem qxb : FOk q3j z51 := que qgk fun ds outs hw hg => by
 obtain ⟨d, r, rfl, hd, e, r', rfl, he, f, r2, rfl, hf, rfl⟩ := hw
 obtain ⟨s, rfl, hs⟩ := wfS hd
 obtain ⟨c, rfl, hc⟩ := wfC he
 obtain ⟨nm, rfl, hn⟩ := hf.str
 simp only [z51, zk, yw, q2s] at hg
 have ey : D.a [.s nm, .i 2] = eY ⟨nm, 2⟩ := rfl
 have hl := hs.cs.1
 have no : qf9 s c nm = false → outs = [eC ⟨0, 0⟩, eC ⟨0, 0⟩, .b false] := fun hb => by
  rw [if_neg (by rw [hb]; decide)] at hg
  exact (gnI hg).symm
 have no' : ¬ qf9 s c nm = true → outs = [eC ⟨0, 0⟩, eC ⟨0, 0⟩, .b false] := fun hb => no (Bool.eq_false_iff.2 hb)
 simp only [q98, gnZ, qa7, ey, qfd]
 by_cases h3 : c.t = 3
 ·cases h0 : inS s c.n with
  | false =>
   rw [no' fun q => by have := (q28.1 q).2.1; rw [h0] at this; cases this]
   simp [h3]
  | true =>
   have i0 := z5.1 h0
   have hr : i64 (c.n + 2) := ⟨by omega, by omega⟩
   have hrb := q52.2 hr
   cases h2 : inS s (c.n + 2) with
   | false =>
    rw [no' fun q => by have := (q28.1 q).2.2.1; rw [h2] at this; cases this]
    simp [h3, hr.1, hr.2, hrb]
   | true =>
    have i2 := z5.1 h2
    have h1 := zme h0 h2
    have i1 := z5.1 h1
    have hr1 : i64 (c.n + 1) := ⟨by omega, by omega⟩
    have hrb1 := q52.2 hr1
    by_cases h4 : (cellAt s c.n).t = 4
    ·by_cases hy : 0 ≤ (cellAt s c.n).n ∧ (cellAt s c.n).n < s.ys.length
     ·have ha := qwo hy
      have hy' : ¬ (cellAt s c.n).n < 0 := by omega
      have hy2 : ¬ (s.ys.length : Int) ≤ (cellAt s c.n).n := by omega
      by_cases hq : s.ys.getD (cellAt s c.n).n.toNat default = ⟨nm, 2⟩
      ·rw [if_pos (q28.2 ⟨h3, h0, h2, h4, hy.1, hy.2, hq⟩)] at hg
       have := gnI hg
       subst this
       simp only [ze h0, ze h1, ze h2, qnd, qtt, ha, qv4, h3, h4, hq, yv]
       simp [hr.1, hr.2, hr1.1, hr1.2, i0, i1, i2, hy, hrb, hrb1, hy', hy2]
      ·rw [no' fun q => hq (q28.1 q).2.2.2.2.2.2]
       simp only [ze h0, ze h1, ze h2, qnd, qtt, ha, qv4, h3, h4, hq, yv]
       simp [hr.1, hr.2, hr1.1, hr1.2, i0, i1, i2, hy, hrb, hrb1, hy', hy2]
     ·rw [no' fun q => hy ⟨(q28.1 q).2.2.2.2.1, (q28.1 q).2.2.2.2.2.1⟩]
      have hy' : ((cellAt s c.n).n < 0 ∨ (s.ys.length : Int) ≤ (cellAt s c.n).n) = True := eq_true (by omega)
      simp only [ze h0, qnd, qtt, h3, h4, yv]
      simp [hr.1, hr.2, i0, hrb]
      omega
    ·rw [no' fun q => h4 (q28.1 q).2.2.2.1]
     simp only [ze h0, qnd, qtt, h3, h4, yv]
     simp [hr.1, hr.2, i0, h4, hrb]
 ·rw [no' fun q => h3 (q28.1 q).1]
  simp [h3]
def qdb (s : So) (c : Ce) : Bool := decide (c.t = 2) && (decide (0 ≤ c.n) && decide (c.n < s.ys.length))
def qwy : List D → Option (List D)
 | [s, c] => if qdb (dS s) (dC c) then some [.s ((dS s).ys.getD (dC c).n.toNat default).name, .b true] else some [.s ⟨#[]⟩, .b false]
 | _ => none
theorem qxj : FOk q3i qwy := qtx fun ds outs hw hg => by
 obtain ⟨d, r, rfl, hd, e, r', rfl, he, rfl⟩ := hw
 obtain ⟨s, rfl, hs⟩ := wfS hd
 obtain ⟨c, rfl, hc⟩ := wfC he
 simp only [qwy, zk, yw] at hg
 simp only [q8c, gnZ]
 by_cases h2 : c.t = 2
 ·by_cases hy : 0 ≤ c.n ∧ c.n < s.ys.length
  ·have hb : qdb s c = true := by simp [qdb, h2, hy]
   rw [if_pos hb] at hg
   have := gnI hg
   subst this
   have hy' : ¬ c.n < 0 := by omega
   have hy2 : ¬ (s.ys.length : Int) ≤ c.n := by omega
   simp [h2, qwo hy, z88, hy, hy', hy2]
  ·have hb : qdb s c = false := by
    simp only [qdb, Bool.and_eq_false_iff, decide_eq_false_iff_not]
    by_cases h5 : 0 ≤ c.n
    ·exact .inr (.inr fun q => hy ⟨h5, q⟩)
    ·exact .inr (.inl h5)
   rw [if_neg (by rw [hb]; decide)] at hg
   have := gnI hg
   subst this
   have hy' : c.n < 0 ∨ (s.ys.length : Int) ≤ c.n := by omega
   simp [h2, hy']
   omega
 ·have hb : qdb s c = false := by simp [qdb, h2]
  rw [if_neg (by rw [hb]; decide)] at hg
  have := gnI hg
  subst this
  simp [h2]
def q50 (s : So) (v : Ce) : Ce × Bool := if vcP s v then (if (q1o s v).t = 0 then (q1o s v, inS s (q1o s v).n) else if (q1o s v).t = 5 then (q1o s v, inS s (q1o s v).n && inS s ((q1o s v).n + 2)) else (⟨0, 0⟩, false)) else (⟨0, 0⟩, false)
def qf8 : List D → Option (List D)
 | [s, v] => some [eC (q50 (dS s) (dC v)).1, .b (q50 (dS s) (dC v)).2]
 | _ => none
theorem q1i : FOk qs qf8 := qij yy q47 qgk fun ds outs hw hg => by
 obtain ⟨d, r, rfl, hd, e, r', rfl, he, rfl⟩ := hw
 obtain ⟨s, rfl, hs⟩ := wfS hd
 obtain ⟨v, rfl, hv⟩ := wfC he
 simp only [qf8, zk, yw, Option.some.injEq] at hg
 subst hg
 have hl := hs.cs.1
 have ez : D.a [.i 0, .i 0] = eC ⟨0, 0⟩ := rfl
 simp only [q4c, gnZ, qb8, qcq, qa7, ez, q50]
 cases hb : vcP s v with
 | false => simp
 | true =>
  by_cases h0 : (q1o s v).t = 0
  ·simp [h0]
  ·by_cases h5 : (q1o s v).t = 5
   ·cases hi : inS s (q1o s v).n with
    | false => simp [h5]
    | true =>
     have := z5.1 hi
     have hrb : yz .i64 ((q1o s v).n + 2) = true := q52.2 ⟨by omega, by omega⟩
     simp [h5, hrb]
   ·simp [h0, h5]
def zm5 (s : So) (a : Int) : Bool := decide ((cellAt s (a + 2)).t = 1) || (decide ((cellAt s (a + 2)).t = 2) || (decide ((cellAt s (a + 2)).t = 3) || decide (cellAt s (a + 2) = ⟨0, a + 2⟩)))
def z62 : List D → Option (List D)
 | [s, d] => if inS (dS s) ((dC d).n + 2) then some [.b (zm5 (dS s) (dC d).n)] else none
 | _ => none
theorem qaa : FOk zp z62 := qif fun ds outs hw hg => by
 obtain ⟨d, r, rfl, hd, e, r', rfl, he, rfl⟩ := hw
 obtain ⟨s, rfl, hs⟩ := wfS hd
 obtain ⟨c, rfl, hc⟩ := wfC he
 simp only [z62, zk, yw, Option.ite_none_right_eq_some, Option.some.injEq] at hg
 obtain ⟨hin, rfl⟩ := hg
 have h1 := z5.1 hin
 have hl := hs.cs.1
 have hr : i64 (c.n + 2) := ⟨by omega, by omega⟩
 have e0 : D.a [.i 0, .i (c.n + 2)] = eC ⟨0, c.n + 2⟩ := rfl
 simp only [q4h, gnZ, ze hin, h1, hr, e0, z4e, zm5]
 by_cases c1 : (cellAt s (c.n + 2)).t = 1
 ·simp [c1]
 ·by_cases c2 : (cellAt s (c.n + 2)).t = 2
  ·simp [c2]
  ·by_cases c3 : (cellAt s (c.n + 2)).t = 3
   ·simp [c3]
   ·simp [c1, c2, c3]
structure At where
 name : ByteArray
 val : Ce
instance : Inhabited At := ⟨⟨⟨#[]⟩, default⟩⟩
def eA (a : At) : D := .a [.s a.name, eC a.val]
def dA (d : D) : At := ⟨(d.fld 0).str, dC (d.fld 1)⟩
theorem z8q (a : At) : dA (eA a) = a := rfl
theorem znl (a : At) : (eA a).fld 0 = .s a.name := rfl
def At.ok (a : At) : Prop := a.name.size ≤ LIM ∧ a.val.ok
def stN (T : TypeId) : TypeId := match qo T with
 | some (.st S) => S
 | _ => 0
abbrev aS : TypeId := stN 66
theorem tyA : qo 66 = some (.st aS) := by kernel_rfl
theorem flA : flds aS = some [.str, qn] := by kernel_rfl
theorem lmA : LM (.st aS) = 4398046510976 := by kernel_rfl
theorem wfA (h : Wf d (.st aS)) : ∃ a, d = eA a ∧ a.ok := by
 obtain ⟨ds, rfl, hl⟩ := h.st_of flA
 obtain ⟨a, b, rfl, ha, hb⟩ := qzw hl
 obtain ⟨x, rfl, hx⟩ := ha.str
 obtain ⟨y, rfl, hy⟩ := wfC hb
 exact ⟨⟨x, y⟩, rfl, hx, hy⟩
theorem zlc (h : Wf d (.row 66)) : ∃ l : List At, d = .r (l.map eA) ∧ l.length ≤ 4398046510976 ∧ ∀ a ∈ l, a.ok := by
 obtain ⟨l, rfl, h1, h2⟩ := h.row_of tyA
 obtain ⟨m, rfl, h3⟩ := qb7 (e := eA) (P := At.ok) fun x hx => wfA (h2 x hx)
 rw [lmA, List.length_map] at h1
 exact ⟨m, rfl, h1, h3⟩
def dAs (d : D) : List At := d.rs.map dA
theorem qoe (l : List At) : dAs (.r (l.map eA)) = l := map_id' z8q l
def qay (l : List At) (nm : ByteArray) : Int := match l.findIdx? fun a => decide (a.name = nm) with
 | some i => i
 | none => -1
def zit : List D → Option (List D)
 | [a, nm] => some [.b (decide ((dA a).name = nm.str))]
 | _ => none
theorem qrh : FOk q0g zit := qnm fun ds outs hw hg => by
 obtain ⟨d, r, rfl, hd, e, r', rfl, he, rfl⟩ := hw
 obtain ⟨a, rfl, ha⟩ := wfA hd
 obtain ⟨nm, rfl, hn⟩ := he.str
 simp only [zit, z8q, q2s, Option.some.injEq] at hg
 subst hg
 simp only [q5r, gnZ, znl]
 congr 2
def qho : List D → Option (List D)
 | [l, nm] => some [.i (qay (dAs l) nm.str)]
 | _ => none
theorem q71 : FOk z6 qho := q6b qrh fun ds outs hw hg => by
 obtain ⟨d, r, rfl, hd, e, r', rfl, he, rfl⟩ := hw
 obtain ⟨l, rfl, hl, hlo⟩ := zlc hd
 obtain ⟨nm, rfl, hn⟩ := he.str
 simp only [qho, qoe, q2s, Option.some.injEq] at hg
 subst hg
 rw [q01, jt]
 refine ⟨fun st => ∃ k : Nat, k ≤ l.length ∧ st = [.i 0, .i k] ∧ ∀ j, j < k → (l.getD j default).name ≠ nm, fun st => l.length - (st.getD 1 .u).int.toNat, ⟨0, Nat.zero_le _, rfl, fun j hj => absurd hj (Nat.not_lt_zero _)⟩, ?_⟩
 rintro st - ⟨k, hk, rfl, hP⟩
 rw [qj]
 refine ⟨fun hlt => ?_, fun hlt => ?_⟩
 ·simp only [gnZ] at hlt
  have hkl : k < l.length := by omega
  simp only [gnZ, q7o eA hkl, zit, z8q]
  refine ⟨⟨by omega, by omega⟩, fun hx => ?_, fun hx => ⟨⟨by omega, by omega⟩, ?_⟩⟩
  ·have hf : (l.findIdx? fun a => decide (a.name = nm)) = some k := by
    rw [List.findIdx?_eq_some_iff_getElem]
    refine ⟨hkl, ?_, fun j hj => ?_⟩
    ·have e : l.getD k default = l[k] := by rw [gnG, gnK hkl]; rfl
     rw [e] at hx
     simpa using hx
    ·have := hP j hj
     rw [gnG, gnK (by omega)] at this
     simpa using this
   rw [qay, hf]
  ·rw [q2p, if_pos rfl]
   refine ⟨⟨k + 1, by omega, by simp, q2i hP (by simpa using hx)⟩, ?_⟩
   simp [D.int]
   omega
 ·simp only [gnZ] at hlt ⊢
  have : k = l.length := by omega
  subst this
  have hf : (l.findIdx? fun a => decide (a.name = nm)) = none := by
   rw [List.findIdx?_eq_none_iff]
   intro a ha
   obtain ⟨j, hj, rfl⟩ := List.getElem_of_mem ha
   have := hP j hj
   rw [gnG, gnK hj] at this
   simpa using this
  rw [qay, hf]
theorem q7v : FOk y7 qho := qsu q71 fun ds outs hw hg => by
 obtain ⟨d, r, rfl, hd, e, r', rfl, he, rfl⟩ := hw
 obtain ⟨l, rfl, hl, hlo⟩ := zlc hd
 obtain ⟨nm, rfl, hn⟩ := he.str
 simp only [qho, qoe, q2s, Option.some.injEq] at hg
 subst hg
 simp only [q8w, gnZ, qho, qoe]
def qso (s : So) (a : Int) (c : Ce) : Int × So := if qbs vcP q8x s a c then (0, zds s a c) else (1, s)
def z4y (s : So) : Bool := decide (s.tr.length < 5864062014634) && decide (s.wk.length < 3518437208780)
theorem zdi {s : So} (hr : z4y s = true) (a : Int) (c : Ce) : z1p vcP q8x [eS s, .i a, eC c] = some [.i (qso s a c).1, eS (qso s a c).2] := by
 simp only [z4y, gnB, gnD] at hr
 simp only [z1p, zk, yw, yv, qso, decide_eq_true hr.1, if_true]
 split <;> rfl
theorem zfo (s : So) (a : Int) (c : Ce) : (qso s a c).2.wk = s.wk := by
 unfold qso
 split <;> rfl
def z6k (s : So) (x c : Ce) : Int × So := if (qso s x.n c).1 = 0 then (0, { (qso s x.n c).2 with wk := s.wk ++ [⟨(cellAt s (x.n + 1)).n, cellAt s (x.n + 2), q3m c⟩] }) else qso s x.n c
def zhg (s : So) (x : Ce) : Bool := inS s (x.n + 1) && (inS s (x.n + 2) && z4y s)
def zct : List D → Option (List D)
 | [s, x, c] => if zhg (dS s) (dC x) then some [.i (z6k (dS s) (dC x) (dC c)).1, eS (z6k (dS s) (dC x) (dC c)).2] else none
 | _ => none
theorem zix (s : So) (l : List Wk) (w : Wk) : D.a ((eS s).fs.set 3 (.r (l.map eW ++ [eW w]))) = eS { s with wk := l ++ [w] } := by simp [eS, D.fs]
theorem zf1 : FOk q08 zct := qf1 qbd q59 fun ds outs hw hg => by
 obtain ⟨d, r, rfl, hd, e, r', rfl, he, f, r2, rfl, hf, rfl⟩ := hw
 obtain ⟨s, rfl, hs⟩ := wfS hd
 obtain ⟨x, rfl, hx⟩ := wfC he
 obtain ⟨c, rfl, hc⟩ := wfC hf
 simp only [zct, zk, yw, Option.ite_none_right_eq_some, Option.some.injEq] at hg
 obtain ⟨hq, rfl⟩ := hg
 simp only [zhg, gnB] at hq
 obtain ⟨h1, h2, hr⟩ := hq
 have i1 := z5.1 h1
 have i2 := z5.1 h2
 have hl := hs.cs.1
 have rb1 : yz .i64 (x.n + 1) = true := q52.2 ⟨by omega, by omega⟩
 have rb2 : yz .i64 (x.n + 2) = true := q52.2 ⟨by omega, by omega⟩
 have hr' := hr
 simp only [z4y, gnB, gnD] at hr'
 have hwk := zfo s x.n c
 have hle : s.wk.length + 1 ≤ 3518437208780 := by omega
 have ew : D.a [.i (cellAt s (x.n + 1)).n, eC (cellAt s (x.n + 2)), eC (q3m c)] = eW ⟨(cellAt s (x.n + 1)).n, cellAt s (x.n + 2), q3m c⟩ := rfl
 have b1 : -9223372036854775808 ≤ x.n + 1 ∧ x.n + 1 ≤ 9223372036854775807 := ⟨by omega, by omega⟩
 have b2 : -9223372036854775808 ≤ x.n + 2 ∧ x.n + 2 ≤ 9223372036854775807 := ⟨by omega, by omega⟩
 simp only [q51, gnZ, q4t, zdi hr, ze h1, ze h2, ew, b1, b2, i1, i2, hwk, zix]
 refine ⟨fun h => ?_, fun h => ?_⟩
 ·have h0 : ¬ (qso s x.n c).1 = 0 := by simpa using h
  rw [z6k, if_neg h0]
 ·have h0 : (qso s x.n c).1 = 0 := by simpa using h
  rw [z6k, if_pos h0]
  exact ⟨by omega, rfl⟩
def orI : List Int → Int
 | [] => 0
 | x :: l => if x = 0 then orI l else x
def gOr : List D → Option (List D)
 | [l] => some [.i (orI (l.rs.map D.int))]
 | _ => none
theorem z0n : ∀ {l : List Int} {k : Nat}, k < l.length → (∀ j, j < k → l.getD j 0 = 0) → orI l = orI (l.drop k)
 | [], k, h, _ => by simp at h
 | x :: l, 0, h, _ => rfl
 | x :: l, k + 1, h, hz => by
  have h0 : x = 0 := by simpa using hz 0 (by omega)
  rw [orI, if_pos h0, List.drop_succ_cons]
  exact z0n (by simpa using h) fun j hj => by simpa using hz (j + 1) (by omega)
theorem qzn : ∀ {l : List Int}, (∀ j, j < l.length → l.getD j 0 = 0) → orI l = 0
 | [], _ => rfl
 | x :: l, h => by
  have h0 : x = 0 := by simpa using h 0 (by simp)
  rw [orI, if_pos h0]
  exact qzn fun j hj => by simpa using h (j + 1) (by simpa using hj)
theorem zoi {E : TypeId} (hE : qo E = some (.int .i64)) (h : Wf d (.row E)) : ∃ l : List Int, d = .r (l.map D.i) ∧ l.length ≤ LM (.int .i64) ∧ ∀ x ∈ l, i64 x := by
 obtain ⟨l, rfl, h1, h2⟩ := h.row_of hE
 obtain ⟨m, rfl, h3⟩ := qb7 (e := D.i) (P := i64) fun x hx => wfI (h2 x hx)
 rw [List.length_map] at h1
 exact ⟨m, rfl, h1, h3⟩
theorem lmI : LM (.int .i64) = 17592186043904 := by kernel_rfl
theorem zn0 {l : List Int} {k : Nat} (h : k < l.length) : (D.r (l.map D.i)).get (k : Int) = .i (l.getD k 0) := by
 show (l.map D.i).getD (k : Int).toNat .u = _
 simp [gnG, h]
theorem qsx : FOk q0d gOr := qov fun ds outs hw hg => by
 obtain ⟨d, r, rfl, hd, rfl⟩ := hw
 obtain ⟨l, rfl, hl, hlo⟩ := zoi rfl hd
 rw [lmI] at hl
 have hm : (l.map D.i).map D.int = l := by
  rw [List.map_map]
  have : D.int ∘ D.i = id := funext fun _ => rfl
  rw [this, List.map_id]
 simp only [gOr, q6i, hm, Option.some.injEq] at hg
 subst hg
 rw [q7f, jt]
 refine ⟨fun st => ∃ k : Nat, k ≤ l.length ∧ st = [.i 0, .i k] ∧ ∀ j, j < k → l.getD j 0 = 0, fun st => l.length - (st.getD 1 .u).int.toNat, ⟨0, Nat.zero_le _, rfl, fun j hj => absurd hj (Nat.not_lt_zero _)⟩, ?_⟩
 rintro st - ⟨k, hk, rfl, hP⟩
 rw [qj]
 refine ⟨fun hlt => ?_, fun hlt => ?_⟩
 ·simp only [gnZ] at hlt
  have hkl : k < l.length := by omega
  have hd : orI l = orI (l.drop k) := z0n hkl hP
  have he : l.drop k = l.getD k 0 :: l.drop (k + 1) := by
   rw [List.drop_eq_getElem_cons hkl]
   simp [gnG, hkl]
  simp only [gnZ, zn0 hkl]
  refine ⟨⟨by omega, by omega⟩, fun hx => ?_, fun hx => ⟨⟨by omega, by omega⟩, ?_⟩⟩
  ·have hx' : ¬ l.getD k 0 = 0 := by simpa using hx
   rw [hd, he, orI, if_neg hx']
  ·have hx' : l.getD k 0 = 0 := by simpa using hx
   rw [q2p, if_pos rfl]
   refine ⟨⟨k + 1, by omega, by simp, q2i hP hx'⟩, ?_⟩
   simp [D.int]
   omega
 ·simp only [gnZ] at hlt ⊢
  have : k = l.length := by omega
  subst this
  rw [qzn hP]
def cmpI (x y : Int) : Int := if x < y then -1 else if y < x then 1 else 0
def laterP (s : So) (d t : Ce) : Int := orI [cmpI (cellAt s (d.n + 1)).n (cellAt s (t.n + 1)).n, cmpI d.n t.n]
def bindAP (s : So) (v to : Ce) : Int × So :=
 if (q50 s v).2 && (decide ((q50 s v).1.t = 5) && vcP s to) then
  (if q1o s to = (q50 s v).1 then (0, s) else if (q1o s to).t = 0 then qso s (q1o s to).n (q50 s v).1 else if (q1o s to).t = 5 then
   (if inS s (q1o s to).n && inS s ((q1o s to).n + 2) then (if 0 < laterP s (q50 s v).1 (q1o s to) then z6k s (q50 s v).1 (q1o s to) else z6k s (q1o s to) (q50 s v).1) else (1, s))
   else z6k s (q50 s v).1 (q1o s to))
 else (1, s)
def gBindAP : List D → Option (List D)
 | [s, v, to] => if z4y (dS s) then some [.i (bindAP (dS s) (dC v) (dC to)).1, eS (bindAP (dS s) (dC v) (dC to)).2] else none
 | _ => none
theorem varP_at {s : So} {v : Ce} (h : (q50 s v).2 = true) (h5 : (q50 s v).1.t = 5) : inS s (q50 s v).1.n = true ∧ inS s ((q50 s v).1.n + 2) = true := by
 unfold q50 at h h5 ⊢
 cases hb : vcP s v with
 | false => rw [hb] at h; simp at h
 | true =>
  rw [hb] at h h5
  simp only [if_true] at h h5 ⊢
  by_cases h0 : (q1o s v).t = 0
  ·rw [if_pos h0] at h5
   rw [h0] at h5
   cases h5
  ·rw [if_neg h0] at h h5 ⊢
   by_cases h5' : (q1o s v).t = 5
   ·rw [if_pos h5'] at h ⊢
    simpa using h
   ·rw [if_neg h5'] at h
    cases h
theorem ok_attr_Bind : FOk q3k gBindAP := qt1 q1i yy q47 q59 zf1 qgk q6u qsx fun ds outs hw hg => by
 obtain ⟨d, r, rfl, hd, e, r', rfl, he, f, r2, rfl, hf, rfl⟩ := hw
 obtain ⟨s, rfl, hs⟩ := wfS hd
 obtain ⟨v, rfl, hv⟩ := wfC he
 obtain ⟨to, rfl, hto⟩ := wfC hf
 simp only [gBindAP, zk, yw, Option.ite_none_right_eq_some, Option.some.injEq] at hg
 obtain ⟨hr, rfl⟩ := hg
 have hl := hs.cs.1
 have hor : ∀ x y : Int, gOr [.r [.i x, .i y]] = some [.i (orI [x, y])] := fun _ _ => rfl
 have hcm : ∀ x y : Int, zei [.i x, .i y] = some [.i (cmpI x y)] := fun _ _ => rfl
 simp only [q8a, gnZ, qf8, qb8, qcq, qa7, zdi hr, hor, hcm, zct, bindAP]
 cases hk : (q50 s v).2 with
 | false => simp
 | true =>
 by_cases h5 : (q50 s v).1.t = 5
 case neg => simp [h5]
 obtain ⟨q0, q2⟩ := varP_at hk h5
 generalize q50 s v = V at *
 obtain ⟨x, ok⟩ := V
 simp only at h5 q0 q2 hk ⊢
 subst hk
 have q1 := zme q0 q2
 have j0 := z5.1 q0
 have j1 := z5.1 q1
 have j2 := z5.1 q2
 have rx1 : yz .i64 (x.n + 1) = true := q52.2 ⟨by omega, by omega⟩
 have hbx : zhg s x = true := by simp only [zhg, q1, q2, hr, Bool.and_self]
 cases hvt : vcP s to with
 | false => simp [h5]
 | true =>
 generalize q1o s to = t at *
 by_cases e0 : t = x
 ·subst e0
  simp [h5]
 by_cases t0 : t.t = 0
 ·simp [h5, e0, t0]
 by_cases t5 : t.t = 5
 case neg => simp [h5, e0, t0, t5, hbx]
 cases p0 : inS s t.n with
 | false => simp [h5, e0, t5]
 | true =>
 have k0 := z5.1 p0
 have rt2 : yz .i64 (t.n + 2) = true := q52.2 ⟨by omega, by omega⟩
 cases p2 : inS s (t.n + 2) with
 | false => simp [h5, e0, t5, rt2]
 | true =>
 have p1 := zme p0 p2
 have k1 := z5.1 p1
 have k2 := z5.1 p2
 have rt1 : yz .i64 (t.n + 1) = true := q52.2 ⟨by omega, by omega⟩
 have hbt : zhg s t = true := by simp only [zhg, p1, p2, hr, Bool.and_self]
 simp only [ze q1, ze p1, qtt, yv, hbx, hbt]
 by_cases hlt : 0 < laterP s x t
 ·have hlt' := hlt
  unfold laterP at hlt'
  simp [h5, e0, t5, rt2, rt1, rx1, hlt, hlt', hcm, hor, j1, k1, hbx, hbt]
  exact ⟨⟨⟨by omega, by omega⟩, by omega, by omega⟩, fun q => absurd hlt' (Int.not_lt.2 q)⟩
 ·have hlt' := hlt
  unfold laterP at hlt'
  simp [h5, e0, t5, rt2, rt1, rx1, hlt, hlt', hcm, hor, j1, k1, hbx, hbt]
  exact ⟨⟨⟨by omega, by omega⟩, by omega, by omega⟩, fun q => absurd q hlt'⟩
end Go.Proofs.YtdaadonfbnedaaaGreat
