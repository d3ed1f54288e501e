/-
 Lemmas of the walk and plain laws, put together. No condition.
-/
import Derived.ChangeArms
import Derived.OpenShut
import Derived.ProofKit
import Derived.SizedLaws
import Derived.Test.YtdaadonfbnedaaaRows
import Derived.Test.YtdaadonfbnedaaaKg
namespace Go.Proofs.Ytdaadonfbnedaaa
open Go.RowKit
set_option linter.unusedVariables false
set_option linter.unusedSimpArgs false
set_option maxRecDepth 100000
def z33 (e : Int) (s' s : So) : So := if e = 0 then s' else { s' with cs := s'.cs.take s.cs.length, ys := s'.ys.take s.ys.length, tr := s'.tr.take s.tr.length, ser := s.ser }
def zb3 (e : Int) (s' s : So) : Bool := decide (e = 0) || (decide (s.cs.length ≤ s'.cs.length) && (decide (s.ys.length ≤ s'.ys.length) && decide (s.tr.length ≤ s'.tr.length)))
theorem q39 {e : Int} {s' s : So} (h : zb3 e s' s = true) : q47 [.i e, eS s', eS s] = some [eS (z33 e s' s)] := by
 simp only [q47, z33]
 have ei : (D.i e).int = e := rfl
 rw [ei]
 by_cases he : e = 0
 ·rw [if_pos he, if_pos he]
 ·simp only [zb3, Bool.or_eq_true, Bool.and_eq_true, decide_eq_true_eq] at h
  obtain ⟨h0, h1, h2⟩ := h.resolve_left he
  rw [if_neg he, if_neg he]
  simp only [eS, D.fld, D.fs, List.getD_cons_zero, List.getD_cons_succ, D.rs, List.length_map]
  rw [if_pos ⟨h0, h1, h2⟩]
  simp [List.map_take]
def j7 (s : So) (l : List At) : Ce × Int × So := ((qnc s (liT (qcy l) qxq) (vsA l)).1, (qnc s (liT (qcy l) qxq) (vsA l)).2.2.1, (qnc s (liT (qcy l) qxq) (vsA l)).2.2.2)
theorem qng {s : So} {l : List At} (hv : jh s = true) (hl : l.length ≤ 499) : z05 [eS s, .r (l.map eA)] = some [eC (j7 s l).1, .i (j7 s l).2.1, eS (j7 s l).2.2] := by
 have h1 : dVs (.r ((vsA l).map eV)) = vsA l := q3a _
 simp only [z05, qr, if_pos hl, qxf, ye, je, h1, if_pos hv, j7, Option.map_some, List.getD_cons_zero, List.getD_cons_succ]
def apL (l : List At) (nm : ByteArray) (val : Ce) : List At := if 0 ≤ q2b l nm then l.set (q2b l nm).toNat ⟨(l.getD (q2b l nm).toNat default).name, val⟩ else l ++ [⟨nm, val⟩]
def apN (s : So) (c : Ce) : So := { s with ser := s.ser + 1, cs := s.cs ++ [⟨5, (s.cs.length : Nat)⟩, ⟨1, s.ser + 1⟩, c] }
def apC (s : So) (d : Ce) (l : List At) : Int × So :=
 if (j7 s l).2.1 = 0 then (if d.t = 5 then qa8 (j7 s l).2.2 (d.n + 2) (j7 s l).1 else
  if (j7 s l).2.2.mx - 3 < (j7 s l).2.2.cs.length ∨ 1099511627776 ≤ (j7 s l).2.2.ser then (13, (j7 s l).2.2) else qa8 (apN (j7 s l).2.2 (j7 s l).1) d.n ⟨5, ((j7 s l).2.2.cs.length : Nat)⟩)
 else ((j7 s l).2.1, (j7 s l).2.2)
def zfi (s : So) (d : Ce) (l : List At) : Bool := qbd (j7 s l).2.2 && (decide ((j7 s l).2.2.cs.length + 3 ≤ 8796093021952) && (decide (0 ≤ (j7 s l).2.2.mx ∧ (j7 s l).2.2.mx ≤ 1152921504606846976) && (decide (0 ≤ (j7 s l).2.2.ser ∧ (j7 s l).2.2.ser ≤ 1152921504606846976) && zb3 (apC s d l).1 (apC s d l).2 s)))
def apB (s : So) (v : Ce) (nm : ByteArray) (val : Ce) : Bool := !(zb s v).2 || (decide ((zb s v).1.t = 5) && !qov s (zb s v).1.n) || decide (100 < (nm.size : Int)) || !vcP s val
def apA (s : So) (v : Ce) (nm : ByteArray) (val : Ce) : Int × So := if apB s v nm val then (1, s) else if 499 < (apL (q1w s (zb s v).1) nm val).length then (2, s) else
 ((apC s (zb s v).1 (apL (q1w s (zb s v).1) nm val)).1, z33 (apC s (zb s v).1 (apL (q1w s (zb s v).1) nm val)).1 (apC s (zb s v).1 (apL (q1w s (zb s v).1) nm val)).2 s)
def apO (s : So) (v : Ce) (nm : ByteArray) (val : Ce) : Bool := jh s && (z5w s && (qbd s && (apB s v nm val || (decide (499 < (apL (q1w s (zb s v).1) nm val).length) || zfi s (zb s v).1 (apL (q1w s (zb s v).1) nm val)))))
def qw6 : List D → Option (List D)
 | [s, v, nm, val] => if apO (dS s) (dC v) nm.str (dC val) then some [.i (apA (dS s) (dC v) nm.str (dC val)).1, eS (apA (dS s) (dC v) nm.str (dC val)).2] else none
 | _ => none
theorem qxh {s : So} {v : Ce} (h : (zb s v).2 = true) : inS s (zb s v).1.n = true ∧ ((zb s v).1.t = 5 → inS s ((zb s v).1.n + 2) = true) := by
 unfold zb at h ⊢
 split at h
 ·rename_i hv
  simp only [if_pos hv]
  split at h
  ·rename_i h0
   simp only [if_pos h0]
   exact ⟨h, fun h5 => by rw [h0] at h5; exact absurd h5 (by decide)⟩
  ·rename_i h0
   simp only [if_neg h0]
   split at h
   ·rename_i h1
    simp only [if_pos h1]
    simp only [Bool.and_eq_true] at h
    exact ⟨h.1, fun _ => h.2⟩
   ·cases h
 ·cases h
theorem z6z (s : So) (c : Ce) : D.a ((D.a ((eS s).fs.set 4 (.i (s.ser + 1)))).fs.set 0 (.r (s.cs.map eC ++ [eC ⟨5, (s.cs.length : Nat)⟩, eC ⟨1, s.ser + 1⟩, eC c]))) = eS (apN s c) := by
 simp [apN, eS, D.fs]
theorem qv8 {s : So} {x : D} : (D.a ((eS s).fs.set 4 x)).fld 0 = .r (s.cs.map eC) := rfl
theorem z35 {s : So} {x : D} : (D.a ((eS s).fs.set 4 x)).fld 4 = x := rfl
theorem zag (l : List At) (i : Nat) (a : At) : (l.map eA).set i (eA a) = (l.set i a).map eA := by rw [List.map_set]
set_option maxHeartbeats 2000000 in
theorem qbj : FOk q0a qw6 := qrs q1n q9m ym q8w qab qdh q6s fun ds outs hw hg => by
 obtain ⟨d, r, rfl, hd, e, r', rfl, he, f, r2, rfl, hf, q, r3, rfl, hq, rfl⟩ := hw
 obtain ⟨s, rfl, hs⟩ := wfS hd
 obtain ⟨v, rfl, hv⟩ := wfC he
 obtain ⟨nm, rfl, hn⟩ := hf.str
 obtain ⟨val, rfl, hval⟩ := wfC hq
 simp only [qw6, ye, ju, q4p, Option.ite_none_right_eq_some, Option.some.injEq] at hg
 obtain ⟨ho, rfl⟩ := hg
 simp only [apO, Bool.and_eq_true] at ho
 obtain ⟨hvr, hlb, hrm, ho⟩ := ho
 have ez : D.a [.i 0, .i 0] = eC ⟨0, 0⟩ := rfl
 have hA : (zb s v).2 = true → (zb s v).1.t = 5 → qmo [eS s, eC (zb s v).1] = some [.b (qov s (zb s v).1.n)] := fun h h5 => by
  simp only [qmo, ye, ju]
  rw [if_pos ((qxh h).2 h5)]
 have hBad : (!(zb s v).2 || decide ((zb s v).1.t = 5) && !((((qmo [eS s, eC (zb s v).1]).getD []).getD 0 D.u).tt) || decide (100 < (nm.size : Int)) || !vcP s val) = apB s v nm val := by
  unfold apB
  cases h : (zb s v).2 with
  | false => simp
  | true =>
   by_cases h5 : (zb s v).1.t = 5
   ·rw [hA h h5]
    simp [h5, q4k]
   ·simp [h5]
 rw [q9c, qa]
 refine ⟨by simp only [qa, qg, qb, qd, qf, X.says, X.ev, X.evs, evl, qe, gnA, z5], ?_⟩
 rw [qa]
 refine ⟨?_, ?_⟩
 ·simp only [qa, qg, qb, qd, qf, X.says, X.ev, X.evs, evl, qe, gnA, z5]
  refine ⟨by simp [qgl], ?_⟩
  cases h : (zb s v).2 with
  | false => simp
  | true =>
   by_cases h5 : (zb s v).1.t = 5
   ·rw [hA h h5]
    simp
   ·simp [h5]
 rw [qg]
 refine ⟨fun hb => ?_, fun hb => ?_⟩
 ·simp only [qa, qg, qb, qd, qf, X.says, X.ev, X.evs, evl, qe, gnA, z5, qgl] at hb ⊢
  rw [hBad] at hb
  unfold apA
  rw [if_pos hb]
 ·simp only [qa, qg, qb, qd, qf, X.says, X.ev, X.evs, evl, qe, gnA, z5, qgl] at hb
  rw [hBad] at hb
  have hnb : ¬ apB s v nm val = true := by rw [hb]; decide
  have hok : (zb s v).2 = true := by
   cases h : (zb s v).2 with
   | true => rfl
   | false =>
    unfold apB at hb
    rw [h] at hb
    simp at hb
  have hown := qb3 hlb hok
  rw [hb, Bool.false_or, Bool.or_eq_true, decide_eq_true_eq] at ho
  have hapA : apA s v nm val = if 499 < (apL (q1w s (zb s v).1) nm val).length then (2, s) else ((apC s (zb s v).1 (apL (q1w s (zb s v).1) nm val)).1, z33 (apC s (zb s v).1 (apL (q1w s (zb s v).1) nm val)).1 (apC s (zb s v).1 (apL (q1w s (zb s v).1) nm val)).2 s) := by
   unfold apA
   rw [if_neg hnb]
  rw [hapA]
  have hdl := qlc s (zb s v).1 (of_decide_eq_true hlb)
  obtain ⟨hin, hin2⟩ := qxh hok
  generalize hd : (zb s v).1 = d at *
  generalize hl : q1w s d = l at *
  rw [qa]
  refine ⟨by simp only [qa, qg, qb, qd, qf, X.says, X.ev, X.evs, evl, qe, gnA, z5, hd, hown], ?_⟩
  rw [qa]
  refine ⟨by simp only [qa, qg, qb, qd, qf, X.says, X.ev, X.evs, evl, qe, gnA, z5, hd, hown, zi], ?_⟩
  rw [qg]
  refine ⟨fun hi => ?_, fun hi => ?_⟩
  ·simp only [qa, qg, qb, qd, qf, X.says, X.ev, X.evs, evl, qe, gnA, z5, hd, hown, zi, qr] at hi
   obtain ⟨i1, i2⟩ := qsg (l := l) (nm := nm) (by omega)
   have eg : (D.r (l.map eA)).get (q2b l nm) = eA (l.getD (q2b l nm).toNat default) := qwd eA i1 i2
   rw [qa]
   refine ⟨by simp only [qa, qg, qb, qd, qf, X.says, X.ev, X.evs, evl, qe, gnA, z5, hd, hown, zi, qr]; exact ⟨i1, i2⟩, ?_⟩
   have eL : (l.map eA).set (q2b l nm).toNat (eA ⟨(l.getD (q2b l nm).toNat default).name, val⟩) = (apL l nm val).map eA := by
    unfold apL
    rw [if_pos i1, zag]
   generalize apL l nm val = M at *
   rw [qg]
   refine ⟨fun hlen => ?_, fun hlen => ?_⟩
   ·simp only [qa, qg, qb, qd, qf, X.says, X.ev, X.evs, evl, qe, gnA, z5, hd, hown, zi, qr, eg, q2y, eL] at hlen ⊢
    have hlen : 499 < M.length := by omega
    rw [if_pos hlen]
   ·simp only [qa, qg, qb, qd, qf, X.says, X.ev, X.evs, evl, qe, gnA, z5, hd, hown, zi, qr, eg, q2y, eL] at hlen
    have hlen : M.length ≤ 499 := by omega
    have hst := qng hvr hlen
    have ho := ho.resolve_left (by omega)
    unfold zfi at ho
    simp only [Bool.and_eq_true, decide_eq_true_eq] at ho
    obtain ⟨q1, q2, q3, q4, q5⟩ := ho
    rw [if_neg (by omega)]
    rw [qa]
    refine ⟨by simp only [qa, qg, qb, qd, qf, X.says, X.ev, X.evs, evl, qe, gnA, z5, hd, hown, zi, qr, eg, q2y, eL, hst], ?_⟩
    rw [qg]
    refine ⟨fun he => ?_, fun he => ?_⟩
    ·simp only [qa, qg, qb, qd, qf, X.says, X.ev, X.evs, evl, qe, gnA, z5, hd, hown, zi, qr, eg, q2y, eL, hst] at he
     have he : ¬ (j7 s M).2.1 = 0 := by simpa using he
     have ec : apC s d M = ((j7 s M).2.1, (j7 s M).2.2) := by
      unfold apC
      rw [if_neg he]
     rw [ec] at q5 ⊢
     have hk := q39 q5
     rw [qa]
     refine ⟨by simp only [qa, qg, qb, qd, qf, X.says, X.ev, X.evs, evl, qe, gnA, z5, hd, hown, zi, qr, eg, q2y, eL, hst, hk], ?_⟩
     simp only [qa, qg, qb, qd, qf, X.says, X.ev, X.evs, evl, qe, gnA, z5, hd, hown, zi, qr, eg, q2y, eL, hst, hk]
    ·simp only [qa, qg, qb, qd, qf, X.says, X.ev, X.evs, evl, qe, gnA, z5, hd, hown, zi, qr, eg, q2y, eL, hst] at he
     have he : (j7 s M).2.1 = 0 := by simpa using he
     rw [qg]
     refine ⟨fun h5 => ?_, fun h5 => ?_⟩
     ·simp only [qa, qg, qb, qd, qf, X.says, X.ev, X.evs, evl, qe, gnA, z5, hd, hown, zi, qr, eg, q2y, eL] at h5
      have ec : apC s d M = qa8 (j7 s M).2.2 (d.n + 2) (j7 s M).1 := by
       unfold apC
       rw [if_pos he, if_pos h5]
      rw [ec] at q5 ⊢
      have hse := qa2 q1 (d.n + 2) (j7 s M).1
      have hk := q39 q5
      have hi2 := z8.1 (hin2 h5)
      have hsl := qdv hs
      unfold i64 at hsl
      rw [qa]
      refine ⟨by simp only [qa, qg, qb, qd, qf, X.says, X.ev, X.evs, evl, qe, gnA, z5, hd, hown, zi, qr, eg, q2y, eL, hst, hse]; exact ⟨by omega, by omega⟩, ?_⟩
      rw [qa]
      refine ⟨by simp only [qa, qg, qb, qd, qf, X.says, X.ev, X.evs, evl, qe, gnA, z5, hd, hown, zi, qr, eg, q2y, eL, hst, hse, hk], ?_⟩
      simp only [qa, qg, qb, qd, qf, X.says, X.ev, X.evs, evl, qe, gnA, z5, hd, hown, zi, qr, eg, q2y, eL, hst, hse, hk]
     ·simp only [qa, qg, qb, qd, qf, X.says, X.ev, X.evs, evl, qe, gnA, z5, hd, hown, zi, qr, eg, q2y, eL] at h5
      rw [qa]
      refine ⟨by simp only [qa, qg, qb, qd, qf, X.says, X.ev, X.evs, evl, qe, gnA, z5, hd, hown, zi, qr, eg, q2y, eL, hst]; exact ⟨by omega, by omega⟩, ?_⟩
      rw [qg]
      refine ⟨fun h6 => ?_, fun h6 => ?_⟩
      ·simp only [qa, qg, qb, qd, qf, X.says, X.ev, X.evs, evl, qe, gnA, z5, hd, hown, zi, qr, eg, q2y, eL, hst, Bool.or_eq_true, decide_eq_true_eq] at h6
       have ec : apC s d M = (13, (j7 s M).2.2) := by
        unfold apC
        rw [if_pos he, if_neg h5, if_pos h6]
       rw [ec] at q5 ⊢
       have hk := q39 q5
       rw [qa]
       refine ⟨by simp only [qa, qg, qb, qd, qf, X.says, X.ev, X.evs, evl, qe, gnA, z5, hd, hown, zi, qr, eg, q2y, eL, hst, hk], ?_⟩
       simp only [qa, qg, qb, qd, qf, X.says, X.ev, X.evs, evl, qe, gnA, z5, hd, hown, zi, qr, eg, q2y, eL, hst, hk]
      ·simp only [qa, qg, qb, qd, qf, X.says, X.ev, X.evs, evl, qe, gnA, z5, hd, hown, zi, qr, eg, q2y, eL, hst, Bool.or_eq_false_iff, decide_eq_false_iff_not] at h6
       have ec : apC s d M = qa8 (apN (j7 s M).2.2 (j7 s M).1) d.n ⟨5, ((j7 s M).2.2.cs.length : Nat)⟩ := by
        unfold apC
        rw [if_pos he, if_neg h5, if_neg (by rintro (h | h); exact h6.1 h; exact h6.2 h)]
       rw [ec] at q5 ⊢
       have q1' : qbd (apN (j7 s M).2.2 (j7 s M).1) = true := q1
       have hse := qa2 q1' d.n ⟨5, ((j7 s M).2.2.cs.length : Nat)⟩
       have hk := q39 q5
       have hap := z6z (j7 s M).2.2 (j7 s M).1
       rw [qa]
       refine ⟨by simp only [qa, qg, qb, qd, qf, X.says, X.ev, X.evs, evl, qe, gnA, z5, hd, hown, zi, qr, eg, q2y, eL, hst]; exact ⟨by omega, by omega⟩, ?_⟩
       rw [qa]
       refine ⟨by simp only [qa, qg, qb, qd, qf, X.says, X.ev, X.evs, evl, qe, gnA, z5, hd, hown, zi, qr, eg, q2y, eL, hst, qv8]; omega, ?_⟩
       rw [qa]
       refine ⟨by simp only [qa, qg, qb, qd, qf, X.says, X.ev, X.evs, evl, qe, gnA, z5, hd, hown, zi, qr, eg, q2y, eL, hst, qv8, z35, q82, hap, hse], ?_⟩
       rw [qa]
       refine ⟨by simp only [qa, qg, qb, qd, qf, X.says, X.ev, X.evs, evl, qe, gnA, z5, hd, hown, zi, qr, eg, q2y, eL, hst, qv8, z35, q82, hap, hse, hk], ?_⟩
       simp only [qa, qg, qb, qd, qf, X.says, X.ev, X.evs, evl, qe, gnA, z5, hd, hown, zi, qr, eg, q2y, eL, hst, qv8, z35, q82, hap, hse, hk]
  ·simp only [qa, qg, qb, qd, qf, X.says, X.ev, X.evs, evl, qe, gnA, z5, hd, hown, zi, qr] at hi
   rw [qa]
   refine ⟨by simp only [qa, qg, qb, qd, qf, X.says, X.ev, X.evs, evl, qe, gnA, z5, hd, hown, zi, qr]; omega, ?_⟩
   have eL : l.map eA ++ [D.a [.s nm, eC val]] = (apL l nm val).map eA := by
    unfold apL
    rw [if_neg (by omega)]
    simp [eA]
   generalize apL l nm val = M at *
   rw [qg]
   refine ⟨fun hlen => ?_, fun hlen => ?_⟩
   ·simp only [qa, qg, qb, qd, qf, X.says, X.ev, X.evs, evl, qe, gnA, z5, hd, hown, zi, qr, eL] at hlen ⊢
    have hlen : 499 < M.length := by omega
    rw [if_pos hlen]
   ·simp only [qa, qg, qb, qd, qf, X.says, X.ev, X.evs, evl, qe, gnA, z5, hd, hown, zi, qr, eL] at hlen
    have hlen : M.length ≤ 499 := by omega
    have hst := qng hvr hlen
    have ho := ho.resolve_left (by omega)
    unfold zfi at ho
    simp only [Bool.and_eq_true, decide_eq_true_eq] at ho
    obtain ⟨q1, q2, q3, q4, q5⟩ := ho
    rw [if_neg (by omega)]
    rw [qa]
    refine ⟨by simp only [qa, qg, qb, qd, qf, X.says, X.ev, X.evs, evl, qe, gnA, z5, hd, hown, zi, qr, eL, hst], ?_⟩
    rw [qg]
    refine ⟨fun he => ?_, fun he => ?_⟩
    ·simp only [qa, qg, qb, qd, qf, X.says, X.ev, X.evs, evl, qe, gnA, z5, hd, hown, zi, qr, eL, hst] at he
     have he : ¬ (j7 s M).2.1 = 0 := by simpa using he
     have ec : apC s d M = ((j7 s M).2.1, (j7 s M).2.2) := by
      unfold apC
      rw [if_neg he]
     rw [ec] at q5 ⊢
     have hk := q39 q5
     rw [qa]
     refine ⟨by simp only [qa, qg, qb, qd, qf, X.says, X.ev, X.evs, evl, qe, gnA, z5, hd, hown, zi, qr, eL, hst, hk], ?_⟩
     simp only [qa, qg, qb, qd, qf, X.says, X.ev, X.evs, evl, qe, gnA, z5, hd, hown, zi, qr, eL, hst, hk]
    ·simp only [qa, qg, qb, qd, qf, X.says, X.ev, X.evs, evl, qe, gnA, z5, hd, hown, zi, qr, eL, hst] at he
     have he : (j7 s M).2.1 = 0 := by simpa using he
     rw [qg]
     refine ⟨fun h5 => ?_, fun h5 => ?_⟩
     ·simp only [qa, qg, qb, qd, qf, X.says, X.ev, X.evs, evl, qe, gnA, z5, hd, hown, zi, qr, eL] at h5
      have ec : apC s d M = qa8 (j7 s M).2.2 (d.n + 2) (j7 s M).1 := by
       unfold apC
       rw [if_pos he, if_pos h5]
      rw [ec] at q5 ⊢
      have hse := qa2 q1 (d.n + 2) (j7 s M).1
      have hk := q39 q5
      have hi2 := z8.1 (hin2 h5)
      have hsl := qdv hs
      unfold i64 at hsl
      rw [qa]
      refine ⟨by simp only [qa, qg, qb, qd, qf, X.says, X.ev, X.evs, evl, qe, gnA, z5, hd, hown, zi, qr, eL, hst, hse]; exact ⟨by omega, by omega⟩, ?_⟩
      rw [qa]
      refine ⟨by simp only [qa, qg, qb, qd, qf, X.says, X.ev, X.evs, evl, qe, gnA, z5, hd, hown, zi, qr, eL, hst, hse, hk], ?_⟩
      simp only [qa, qg, qb, qd, qf, X.says, X.ev, X.evs, evl, qe, gnA, z5, hd, hown, zi, qr, eL, hst, hse, hk]
     ·simp only [qa, qg, qb, qd, qf, X.says, X.ev, X.evs, evl, qe, gnA, z5, hd, hown, zi, qr, eL] at h5
      rw [qa]
      refine ⟨by simp only [qa, qg, qb, qd, qf, X.says, X.ev, X.evs, evl, qe, gnA, z5, hd, hown, zi, qr, eL, hst]; exact ⟨by omega, by omega⟩, ?_⟩
      rw [qg]
      refine ⟨fun h6 => ?_, fun h6 => ?_⟩
      ·simp only [qa, qg, qb, qd, qf, X.says, X.ev, X.evs, evl, qe, gnA, z5, hd, hown, zi, qr, eL, hst, Bool.or_eq_true, decide_eq_true_eq] at h6
       have ec : apC s d M = (13, (j7 s M).2.2) := by
        unfold apC
        rw [if_pos he, if_neg h5, if_pos h6]
       rw [ec] at q5 ⊢
       have hk := q39 q5
       rw [qa]
       refine ⟨by simp only [qa, qg, qb, qd, qf, X.says, X.ev, X.evs, evl, qe, gnA, z5, hd, hown, zi, qr, eL, hst, hk], ?_⟩
       simp only [qa, qg, qb, qd, qf, X.says, X.ev, X.evs, evl, qe, gnA, z5, hd, hown, zi, qr, eL, hst, hk]
      ·simp only [qa, qg, qb, qd, qf, X.says, X.ev, X.evs, evl, qe, gnA, z5, hd, hown, zi, qr, eL, hst, Bool.or_eq_false_iff, decide_eq_false_iff_not] at h6
       have ec : apC s d M = qa8 (apN (j7 s M).2.2 (j7 s M).1) d.n ⟨5, ((j7 s M).2.2.cs.length : Nat)⟩ := by
        unfold apC
        rw [if_pos he, if_neg h5, if_neg (by rintro (h | h); exact h6.1 h; exact h6.2 h)]
       rw [ec] at q5 ⊢
       have q1' : qbd (apN (j7 s M).2.2 (j7 s M).1) = true := q1
       have hse := qa2 q1' d.n ⟨5, ((j7 s M).2.2.cs.length : Nat)⟩
       have hk := q39 q5
       have hap := z6z (j7 s M).2.2 (j7 s M).1
       rw [qa]
       refine ⟨by simp only [qa, qg, qb, qd, qf, X.says, X.ev, X.evs, evl, qe, gnA, z5, hd, hown, zi, qr, eL, hst]; exact ⟨by omega, by omega⟩, ?_⟩
       rw [qa]
       refine ⟨by simp only [qa, qg, qb, qd, qf, X.says, X.ev, X.evs, evl, qe, gnA, z5, hd, hown, zi, qr, eL, hst, qv8]; omega, ?_⟩
       rw [qa]
       refine ⟨by simp only [qa, qg, qb, qd, qf, X.says, X.ev, X.evs, evl, qe, gnA, z5, hd, hown, zi, qr, eL, hst, qv8, z35, q82, hap, hse], ?_⟩
       rw [qa]
       refine ⟨by simp only [qa, qg, qb, qd, qf, X.says, X.ev, X.evs, evl, qe, gnA, z5, hd, hown, zi, qr, eL, hst, qv8, z35, q82, hap, hse, hk], ?_⟩
       simp only [qa, qg, qb, qd, qf, X.says, X.ev, X.evs, evl, qe, gnA, z5, hd, hown, zi, qr, eL, hst, qv8, z35, q82, hap, hse, hk]
def dlL (l : List At) (nm : ByteArray) : List At := l.take (q2b l nm).toNat ++ l.drop ((q2b l nm).toNat + 1)
def dlC (s : So) (d : Ce) (l : List At) : Int × So := if (j7 s l).2.1 = 0 then qa8 (j7 s l).2.2 (d.n + 2) (j7 s l).1 else ((j7 s l).2.1, (j7 s l).2.2)
def zhd (s : So) (d : Ce) (l : List At) : Bool := decide (l.length ≤ 499) && (qbd (j7 s l).2.2 && zb3 (dlC s d l).1 (dlC s d l).2 s)
def dlB (s : So) (v : Ce) (nm : ByteArray) : Bool := !(zb s v).2 || decide (100 < (nm.size : Int))
def dlA (s : So) (v : Ce) (nm : ByteArray) : Int × So := if dlB s v nm then (1, s) else if q2b (q1w s (zb s v).1) nm < 0 then (0, s) else if qov s (zb s v).1.n then
 ((dlC s (zb s v).1 (dlL (q1w s (zb s v).1) nm)).1, z33 (dlC s (zb s v).1 (dlL (q1w s (zb s v).1) nm)).1 (dlC s (zb s v).1 (dlL (q1w s (zb s v).1) nm)).2 s) else (1, s)
def dlO (s : So) (v : Ce) (nm : ByteArray) : Bool := jh s && (z5w s && (qbd s && (dlB s v nm || (decide (q2b (q1w s (zb s v).1) nm < 0) || (!qov s (zb s v).1.n || zhd s (zb s v).1 (dlL (q1w s (zb s v).1) nm))))))
def z04 : List D → Option (List D)
 | [s, v, nm] => if dlO (dS s) (dC v) nm.str then some [.i (dlA (dS s) (dC v) nm.str).1, eS (dlA (dS s) (dC v) nm.str).2] else none
 | _ => none
set_option maxHeartbeats 2000000 in
theorem qi7 : FOk q2k z04 := qu7 q1n q8w qab q9m q7q qdh q6s fun ds outs hw hg => by
 obtain ⟨d, r, rfl, hd, e, r', rfl, he, f, r2, rfl, hf, rfl⟩ := hw
 obtain ⟨s, rfl, hs⟩ := wfS hd
 obtain ⟨v, rfl, hv⟩ := wfC he
 obtain ⟨nm, rfl, hn⟩ := hf.str
 simp only [z04, ye, ju, q4p, Option.ite_none_right_eq_some, Option.some.injEq] at hg
 obtain ⟨ho, rfl⟩ := hg
 simp only [dlO, Bool.and_eq_true] at ho
 obtain ⟨hvr, hlb, hrm, ho⟩ := ho
 rw [q93, qa]
 refine ⟨by simp only [qa, qg, qb, qd, qf, X.says, X.ev, X.evs, evl, qe, gnA, z5], ?_⟩
 rw [qg]
 refine ⟨fun hb => ?_, fun hb => ?_⟩
 ·simp only [qa, qg, qb, qd, qf, X.says, X.ev, X.evs, evl, qe, gnA, z5] at hb ⊢
  unfold dlA
  rw [if_pos (by unfold dlB; simpa using hb)]
 ·simp only [qa, qg, qb, qd, qf, X.says, X.ev, X.evs, evl, qe, gnA, z5] at hb
  have hnb : dlB s v nm = false := by unfold dlB; simpa using hb
  have hok : (zb s v).2 = true := by
   cases h : (zb s v).2 with
   | true => rfl
   | false =>
    unfold dlB at hnb
    rw [h] at hnb
    simp at hnb
  have hown := qb3 hlb hok
  rw [hnb, Bool.false_or, Bool.or_eq_true, decide_eq_true_eq] at ho
  have hA : dlA s v nm = if q2b (q1w s (zb s v).1) nm < 0 then (0, s) else if qov s (zb s v).1.n then ((dlC s (zb s v).1 (dlL (q1w s (zb s v).1) nm)).1, z33 (dlC s (zb s v).1 (dlL (q1w s (zb s v).1) nm)).1 (dlC s (zb s v).1 (dlL (q1w s (zb s v).1) nm)).2 s) else (1, s) := by
   unfold dlA
   rw [if_neg (by rw [hnb]; decide)]
  rw [hA]
  have hdl := qlc s (zb s v).1 (of_decide_eq_true hlb)
  obtain ⟨hin, hin2⟩ := qxh hok
  have h5 : ¬ q2b (q1w s (zb s v).1) nm < 0 → (zb s v).1.t = 5 := fun h => by
   by_cases h5 : (zb s v).1.t = 5
   ·exact h5
   ·exfalso
    apply h
    unfold q1w
    rw [if_neg h5]
    show (-1 : Int) < 0
    decide
  generalize hd : (zb s v).1 = d at *
  generalize hl : q1w s d = l at *
  rw [qa]
  refine ⟨by simp only [qa, qg, qb, qd, qf, X.says, X.ev, X.evs, evl, qe, gnA, z5, hd, hown], ?_⟩
  rw [qa]
  refine ⟨by simp only [qa, qg, qb, qd, qf, X.says, X.ev, X.evs, evl, qe, gnA, z5, hd, hown, zi], ?_⟩
  rw [qg]
  refine ⟨fun hi => ?_, fun hi => ?_⟩
  ·simp only [qa, qg, qb, qd, qf, X.says, X.ev, X.evs, evl, qe, gnA, z5, hd, hown, zi, qr] at hi ⊢
   rw [if_pos hi]
  ·simp only [qa, qg, qb, qd, qf, X.says, X.ev, X.evs, evl, qe, gnA, z5, hd, hown, zi, qr] at hi
   obtain ⟨i1, i2⟩ := qsg (l := l) (nm := nm) (by omega)
   have h5 := h5 (by omega)
   have hst0 : qmo [eS s, eC d] = some [.b (qov s d.n)] := by
    simp only [qmo, ye, ju]
    rw [if_pos (hin2 h5)]
   rw [if_neg (by omega)]
   have ho := ho.resolve_left (by omega)
   rw [qa]
   refine ⟨by simp only [qa, qg, qb, qd, qf, X.says, X.ev, X.evs, evl, qe, gnA, z5, hd, hst0], ?_⟩
   rw [qg]
   refine ⟨fun hx => ?_, fun hx => ?_⟩
   ·simp only [qa, qg, qb, qd, qf, X.says, X.ev, X.evs, evl, qe, gnA, z5, hd, hst0] at hx ⊢
    have hx : ¬ qov s d.n = true := by simpa using hx
    rw [if_neg hx]
   ·simp only [qa, qg, qb, qd, qf, X.says, X.ev, X.evs, evl, qe, gnA, z5, hd, hst0] at hx
    have hx : qov s d.n = true := by simpa using hx
    rw [if_pos hx]
    rw [hx] at ho
    simp only [Bool.not_true, Bool.false_or] at ho
    unfold zhd at ho
    simp only [Bool.and_eq_true, decide_eq_true_eq] at ho
    obtain ⟨q0, q1, q5⟩ := ho
    have eD : z77 [.r (l.map eA), .i (q2b l nm), .i (q2b l nm + 1)] = some [.r ((dlL l nm).map eA)] := by
     have e1 : (0 : Int) ≤ (D.i (q2b l nm)).int ∧ (D.i (q2b l nm)).int < (D.r (l.map eA)).rs.length ∧ (D.i (q2b l nm + 1)).int = (D.i (q2b l nm)).int + 1 := ⟨i1, by show q2b l nm < ((l.map eA).length : Int); rw [List.length_map]; exact i2, rfl⟩
     simp only [z77]
     rw [if_pos e1]
     show some [D.r ((l.map eA).take (q2b l nm).toNat ++ (l.map eA).drop ((q2b l nm).toNat + 1))] = _
     unfold dlL
     simp
    generalize dlL l nm = M at *
    have hst := qng hvr q0
    rw [qa]
    refine ⟨by simp only [qa, qg, qb, qd, qf, X.says, X.ev, X.evs, evl, qe, gnA, z5, hd, hown, zi, qr, eD, hst]; exact ⟨by omega, by omega⟩, ?_⟩
    rw [qg]
    refine ⟨fun he => ?_, fun he => ?_⟩
    ·simp only [qa, qg, qb, qd, qf, X.says, X.ev, X.evs, evl, qe, gnA, z5, hd, hown, zi, qr, eD, hst] at he
     have he : ¬ (j7 s M).2.1 = 0 := by simpa using he
     have ec : dlC s d M = ((j7 s M).2.1, (j7 s M).2.2) := by
      unfold dlC
      rw [if_neg he]
     rw [ec] at q5 ⊢
     have hk := q39 q5
     rw [qa]
     refine ⟨by simp only [qa, qg, qb, qd, qf, X.says, X.ev, X.evs, evl, qe, gnA, z5, hd, hown, zi, qr, eD, hst, hk], ?_⟩
     simp only [qa, qg, qb, qd, qf, X.says, X.ev, X.evs, evl, qe, gnA, z5, hd, hown, zi, qr, eD, hst, hk]
    ·simp only [qa, qg, qb, qd, qf, X.says, X.ev, X.evs, evl, qe, gnA, z5, hd, hown, zi, qr, eD, hst] at he
     have he : (j7 s M).2.1 = 0 := by simpa using he
     have ec : dlC s d M = qa8 (j7 s M).2.2 (d.n + 2) (j7 s M).1 := by
      unfold dlC
      rw [if_pos he]
     rw [ec] at q5 ⊢
     have hse := qa2 q1 (d.n + 2) (j7 s M).1
     have hk := q39 q5
     have hi2 := z8.1 (hin2 h5)
     have hsl := qdv hs
     unfold i64 at hsl
     rw [qa]
     refine ⟨by simp only [qa, qg, qb, qd, qf, X.says, X.ev, X.evs, evl, qe, gnA, z5, hd, hown, zi, qr, eD, hst, hse]; exact ⟨by omega, by omega⟩, ?_⟩
     rw [qa]
     refine ⟨by simp only [qa, qg, qb, qd, qf, X.says, X.ev, X.evs, evl, qe, gnA, z5, hd, hown, zi, qr, eD, hst, hse, hk], ?_⟩
     simp only [qa, qg, qb, qd, qf, X.says, X.ev, X.evs, evl, qe, gnA, z5, hd, hown, zi, qr, eD, hst, hse, hk]
def z1t : List D → Option (List D) := qv0 [] 12 q7n
theorem qae : FOk jq z1t := qp6 fun ds outs hw hg => qfh (fuel := 12) hg
def zgd : List D → Option (List D) := qv0 [(q0l, zh4), (qy, qsk), (jq, z1t), (q0a, qw6)] 12 q3i
theorem q9f : FOk q01 zgd := qf1 qrr qbl qae qbj fun ds outs hw hg => qfh (fuel := 12) hg
theorem qlw {ct : Ct} {tbl : Tbl} {outs : List D} {fuel : Nat} (ann : Ann) (fn : Func) (cd : Code) (htb : jr tbl) (hf : Try.prog.funcs[ct.f]? = some fn) (hb : fn.body = some cd)
  (hen : ∀ args w, (callFunc ct.f args).run Try.prog w = .ok (.enter ct.f args) w) (hsz : ct.ar.length ≤ fn.ntmps) (har : ct.ars = []) (hden : qv0 tbl fuel (qa9 Try.prog tbl ann ct fn cd) [] = some outs) (hnp : q6o tbl = true) (hkp : ct.kp = []) (hfl : ct.fl = []) : FOk ct fun _ => some outs :=
 z51 ann fn cd htb hf hb hen hsz (fun ds o hw hg => by
  rw [har] at hw
  obtain rfl : ds = [] := hw
  injection hg with hg
  subst hg
  exact qfh hden) hnp hkp hfl
def qs6 : Ct := ⟨12, [], [(.st 4242424242, true)], [], none, [], []⟩
theorem qzq : FOk qs6 fun _ => none := ⟨qat, (fun A F p w vs us ds outs h => by cases h), fun h => absurd rfl h⟩
noncomputable def awC : Code := match Try.f8.body with
 | some c => c
 | none => .skip
def zdo : Tbl := [(qs6, fun _ => none), (q01, zgd), (q2g, z1x), (jq, z1t), (q0a, qw6), (q2k, z04), (q1y, qki), (y9, zfh), (q2u, zey), (zz, gSt q4c), (q1a, gIt fun n => .mk 1 n ⟨#[]⟩ []), (jb, gSL qd9), (q22, quy z3q)]
theorem z9p : jr zdo := (.cons qzq (.cons q9f (.cons qil (.cons qae (.cons qbj (.cons qi7 (.cons qfu (.cons qpf (.cons quh (.cons q40 (.cons qif (.cons q7i (.cons qoq .nil)))))))))))))
theorem zdv : qv0 zdo 12 (qa9 Try.prog zdo qas q48 Try.f8 awC) [] = some [.b true] := by kernel_rfl
theorem qmu : FOk q48 fun _ => some [.b true] := qlw qas Try.f8 awC z9p (by kernel_rfl) (by kernel_rfl) qeu (by decide) (by kernel_rfl) zdv (by kernel_rfl) (by kernel_rfl) (by kernel_rfl)
def z1f : List D → Option (List D) := qv0 [] 60 q5g
theorem qmr : FOk q1o z1f := qk2 fun ds outs hw hg => qfh (fuel := 60) hg
def zij : List D → Option (List D) := qv0 [] 12 q18
theorem qut : FOk yk zij := q98 fun ds outs hw hg => qfh (fuel := 12) hg
noncomputable def exC : Code := match Try.f4.body with
 | some c => c
 | none => .skip
def zgo : Tbl := [(qs6, fun _ => none), (q01, zgd), (yk, zij), (q2g, z1x), (q21, z59), (q1o, z1f), (jq, z1t), (q0a, qw6), (q2k, z04), (q1y, qki), (q48, fun _ => some [.b true])]
theorem zau : jr zgo := .cons qzq (.cons q9f (.cons qut (.cons qil (.cons qoy (.cons qmr (.cons qae (.cons qbj (.cons qi7 (.cons qfu (.cons qmu .nil))))))))))
theorem zdu : qv0 zgo 12 (qa9 Try.prog zgo q4e q25 Try.f4 exC) [] = some [.b true] := by kernel_rfl
theorem qi1 : FOk q25 fun _ => some [.b true] := qlw q4e Try.f4 exC zau (by kernel_rfl) (by kernel_rfl) q9d (by decide) (by kernel_rfl) zdu (by kernel_rfl) (by kernel_rfl) (by kernel_rfl)
section
open Go.ChangeShapes Go.WideShapes Go.ChangeAt Go.RowKit
theorem z31 : ownKnob Try.prog.godebug = none := by kernel_rfl
section
variable {H : Type} {enc : TypeId × Value → H} {W : World} {base : Nat} {spare : Nat → Bool} {held : Bool}
end
def qqq (W : World) : List Ar → List Value → List D → Prop
 | [], vs, ds => vs = [] ∧ ds = []
 | .val t :: l, vs, ds => ∃ v r d ds', vs = v :: r ∧ ds = d :: ds' ∧ (∃ cs, yj t cs v ∧ Rd W (FFD (fun _ => True) (fun _ => none) []) d t cs) ∧ qqq W l r ds'
 | _ :: _, _, _ => False
theorem qqq.ok {W : World} {V : List Value} : ∀ {i : Nat} {ar : List Ar} {vs : List Value} {ds : List D}, qqq W ar vs ds → yb V (fun _ => True) (fun _ => none) W (idx i ar) vs ds ∧ vs.length = ar.length
 | _, [], vs, ds, h => ⟨h, by rw [h.1]; rfl⟩
 | i, .val t :: l, vs, ds, ⟨v, r, d, ds', e1, e2, h1, h⟩ => by
  obtain ⟨h2, h3⟩ := qqq.ok (V := V) (i := i + 1) h
  exact ⟨⟨v, r, d, ds', e1, e2, h1, h2⟩, by rw [e1]; simp [h3]⟩
 | _, .ref _ _ :: _, _, _, h => h.elim
 | _, .rref _ :: _, _, _, h => h.elim
 | _, .own _ :: _, _, _, h => h.elim
 | _, .mref _ :: _, _, _, h => h.elim
 | _, .nils :: _, _, _, h => h.elim
 | _, .nilp :: _, _, _, h => h.elim
 | _, .fn _ _ :: _, _, _, h => h.elim
 | _, .cell _ _ :: _, _, _, h => h.elim
theorem z2x {ct : Ct} {g : List D → Option (List D)} (h : FOk ct g) (hrs : ct.rs = [(.bool, false)]) (hvr : ct.vr = []) {W : World} {vs : List Value} {ds : List D} (ha : qqq W ct.ar vs ds) (hg : g ds = some [.b true]) :
  Calls Try.prog ct.f vs.toArray W fun e W' => e = .returned (.bool true) ∧ But Nil W W' := by
 obtain ⟨h1, h2⟩ := qqq.ok (V := vs ++ []) (i := 0) ha
 refine (h.call (fun _ => True) .no (fun _ => none) W vs [] ds _ hg (qe0.of0 fun _ => rfl) Flo.no (by constructor <;> simp [Flr.no]) h2 (by simpa [Ct.all, hvr, idx] using h1)).mono ?_
 rintro e W' (⟨T, -, ho, -⟩ | ⟨rs, p', rfl, hb, hr, -⟩)
 ·cases ho
 rw [hrs] at hr
 obtain ⟨v, r, d, ds', rfl, hd, ⟨cs, hp, hc⟩, rfl⟩ := hr
 simp at hd
 obtain ⟨rfl, rfl⟩ := hd
 obtain ⟨e1, e2⟩ : D.b true = .b true ∧ cs = [.bool true] := ⟨rfl, by
  have hc' : Rd W' (FFD (fun _ => True) p' []) (.b true) .bool cs := hc
  exact hc'.2⟩
 subst e2
 have hpv : [Value.bool true] = [v] := hp
 injection hpv with hpv
 subst hpv
 exact ⟨rfl, hb.but.mono fun i hi _ => by obtain ⟨x, hx⟩ := hi; cases hx⟩
end
end Go.Proofs.Ytdaadonfbnedaaa
