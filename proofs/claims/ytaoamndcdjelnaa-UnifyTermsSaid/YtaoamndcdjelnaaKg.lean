/-
 Lemmas of the walk and plain laws, put together. No condition.
-/
import Derived.Test.YtaoamndcdjelnaaKf
namespace Go.Proofs.Ytaoamndcdjelnaa
open Go.RowKit
set_option linter.unusedVariables false
set_option linter.unusedSimpArgs false
set_option maxRecDepth 100000
def qim : Tree → Tree
 | .br _ _ e => qim e
 | .need _ t => qim t
 | .loop _ _ _ b => b
 | t => t
def eIs (l : List Int) : D := .r (l.map .i)
def dIs (d : D) : List Int := d.rs.map D.int
theorem q3f (l : List Int) : dIs (eIs l) = l := by
 show (l.map .i).map D.int = l
 rw [List.map_map]
 have : D.int ∘ D.i = id := funext fun _ => rfl
 rw [this, List.map_id]
theorem q7v (l : List Int) : (eIs l).rs.length = l.length := by simp [eIs, qw9]
theorem z11 (l : List Int) (x : Int) : D.r ((eIs l).rs ++ [.i x]) = eIs (l ++ [x]) := by simp [eIs, qw9]
theorem z52 {l : List Int} {k : Nat} (h : k < l.length) : (eIs l).get (k : Int) = .i (l.getD k 0) := by
 show (l.map D.i).getD k .u = _
 simp [List.getD_eq_getElem?_getD, h]
theorem zdc {d : D} {E : TypeId} (hE : qk E = some (.int .i64)) (h : Wf d (.row E)) : ∃ l : List Int, d = eIs l ∧ l.length ≤ 17592186043904 ∧ ∀ x ∈ l, i64 x := by
 obtain ⟨l, rfl, h1, h2⟩ := h.row_of (te := .int .i64) hE
 obtain ⟨m, rfl, h3⟩ := q95 (e := D.i) (P := fun n => i64 n) fun x hx => wfI (h2 x hx)
 refine ⟨m, rfl, ?_, h3⟩
 have e : LM (.int .i64) = 17592186043904 := by kernel_rfl
 rw [List.length_map] at h1
 omega
def qr7 : List D → Option (List D)
 | [vs, n] => some [.i (qak (dIs vs) n.int)]
 | _ => none
theorem qw5 : qk 2 = some (.int .i64) := by kernel_rfl
theorem q83 : FOk qv qr7 := qe9 fun ds outs hw hg => by
 obtain ⟨d, r, rfl, hd, e, r', rfl, he, rfl⟩ := hw
 obtain ⟨l, rfl, hl, -⟩ := zdc qw5 hd
 obtain ⟨n, rfl, hn⟩ := wfI he
 simp only [qr7, q3f, z5, Option.some.injEq] at hg
 subst hg
 rw [q31, zi]
 refine ⟨fun st => ∃ k : Nat, k ≤ l.length ∧ st = [.i 0, .i k] ∧ ∀ j, j < k → l.getD j 0 ≠ n, fun st => l.length - (st.getD 1 .u).int.toNat, ⟨0, Nat.zero_le _, rfl, fun j hj => absurd hj (Nat.not_lt_zero _)⟩, ?_⟩
 rintro st - ⟨k, hk, rfl, hP⟩
 rw [qd]
 refine ⟨fun hlt => ?_, fun hlt => ?_⟩
 ·simp only [q9, qd, qa, qb, qc, X.says, X.ev, X.evs, evl, qe, gnA, gnT, q7v] at hlt
  have hkl : k < l.length := by omega
  simp only [q9, qd, qa, qb, qc, X.says, X.ev, X.evs, evl, qe, gnA, gnT, q7v, z52 hkl]
  refine ⟨⟨by omega, by omega⟩, fun hx => ?_, fun hx => ⟨⟨by omega, by omega⟩, ?_⟩⟩
  ·rw [qz9 hkl hx hP]
  ·rw [jm, if_pos rfl]
   refine ⟨⟨k + 1, by omega, by simp, q4q hP hx⟩, ?_⟩
   simp [D.int]
   omega
 ·simp only [q9, qd, qa, qb, qc, X.says, X.ev, X.evs, evl, qe, gnA, gnT, q7v] at hlt ⊢
  have : k = l.length := by omega
  subst this
  rw [qh0 fun hm => by
   obtain ⟨j, hj, e⟩ := List.getElem_of_mem hm
   exact hP j hj (by rw [List.getD_eq_getElem?_getD, List.getElem?_eq_getElem hj]; exact e)]
def mT1 (ds : List D) : Nat := szT (dT (ds.getD 1 .u))
def qum : List D → Option (List D)
 | [vs, t] => if (dIs vs).length + szT (dT t) ≤ 1000000 then some [eIs (zm (dIs vs) (dT t))] else none
 | _ => none
theorem qzz {vs : List Int} {l : List Te} {k : Nat} (h : k < l.length) : zo vs (l.take (k + 1)) = zm (zo vs (l.take k)) (l.getD k default) := by
 rw [q8x h, qre]
 rfl
theorem qc7 (vs : List Int) (t : Te) : zm vs t = zo (if t.k = 0 ∧ t.n ∉ vs then vs ++ [t.n] else vs) t.l := by cases t; rfl
theorem qsn : FOk y7 qum := q2t (m := mT1) q8y fun N ih => qr0 q83 ih fun ds outs hw hg => by
 obtain ⟨d, r, rfl, hd, e, r', rfl, he, rfl⟩ := hw
 obtain ⟨vs, rfl, hvs, -⟩ := zdc qw5 hd
 obtain ⟨t, rfl, ht⟩ := wfT he
 simp only [q15, mT1, qum, List.getD_cons_zero, List.getD_cons_succ, zb, q3f, Option.ite_none_right_eq_some, Option.some.injEq] at hg
 obtain ⟨hsz, hlen, rfl⟩ := hg
 have hl := ht.l
 have key : ∀ (x : X) (V : List Int), V.length ≤ vs.length + 1 → V.length + q02 t.l ≤ 1000000 → zo V t.l = zm vs t → x.ev (evl (qe [(qv, qr7), (y7, q15 mT1 N qum)]) [eIs vs, eT t]) = eIs V → Tree.go (qe [(qv, qr7), (y7, q15 mT1 N qum)]) (fun o => o = [eIs (zm vs t)]) (.loop 4 2 [x, (.lit (.i 0))] (qim q20)) [eIs vs, eT t] fun _ _ => False := by
  intro x V hV1 hV2 hV3 hx
  rw [zi]
  simp only [qim, q20]
  refine ⟨fun st => ∃ k : Nat, k ≤ t.l.length ∧ st = [eIs (zo V (t.l.take k)), .i k], fun st => t.l.length - (st.getD 1 .u).int.toNat, ⟨0, Nat.zero_le _, by simp only [X.evs, hx, X.ev]; rfl⟩, ?_⟩
  rintro st - ⟨k, hk, rfl⟩
  rw [qd]
  refine ⟨fun hlt => ?_, fun hlt => ?_⟩
  ·simp only [q9, qd, qa, qb, qc, X.says, X.ev, X.evs, evl, qe, gnA, gnT] at hlt
   have hkl' : k < t.l.length := by omega
   have ha := q6y hkl'
   have h1 := qeq (t.l.take k) V
   have h2 := qhu hkl'
   have h3 : q02 (t.l.take (k + 1)) ≤ q02 t.l := by
    have := qas (t.l.take (k + 1)) (t.l.drop (k + 1))
    rw [List.take_append_drop] at this
    omega
   simp only [q9, qd, qa, qb, qc, X.says, X.ev, X.evs, evl, qe, gnA, gnT, q87 hkl', q15, mT1, qum, q3f, if_pos (show szT (t.l.getD k default) < N by omega), if_pos (show (zo V (t.l.take k)).length + szT (t.l.getD k default) ≤ 1000000 by omega)]
   refine ⟨⟨by omega, by omega⟩, ⟨by omega, by omega⟩, ?_⟩
   rw [jm, if_pos rfl]
   refine ⟨⟨k + 1, by omega, by rw [qzz hkl']; rfl⟩, ?_⟩
   simp [D.int]
   omega
  ·simp only [q9, qd, qa, qb, qc, X.says, X.ev, X.evs, evl, qe, gnA, gnT] at hlt ⊢
   have : k = t.l.length := by omega
   subst this
   rw [List.take_length, hV3]
 have hs := qp3 t
 rw [q20, q9, qd]
 refine ⟨by simp only [q9, qd, qa, qb, qc, X.says, X.ev, X.evs, evl, qe, gnA, gnT, qr7], fun h => ?_, fun h => ?_⟩
 ·simp only [q9, qd, qa, qb, qc, X.says, X.ev, X.evs, evl, qe, gnA, gnT, qr7, q3f, Bool.and_eq_true, decide_eq_true_eq, z8f] at h
  rw [q9]
  refine ⟨by simp only [q9, qd, qa, qb, qc, X.says, X.ev, X.evs, evl, qe, gnA, gnT, q7v]; omega, key _ (vs ++ [t.n]) (by simp) (by simp; omega) (by rw [qc7, if_pos h]) ?_⟩
  simp only [q9, qd, qa, qb, qc, X.says, X.ev, X.evs, evl, qe, gnA, gnT, z11]
 ·simp only [q9, qd, qa, qb, qc, X.says, X.ev, X.evs, evl, qe, gnA, gnT, qr7, q3f] at h
  refine key _ vs (by omega) (by omega) ?_ (by simp only [q9, qd, qa, qb, qc, X.says, X.ev, X.evs, evl, qe, gnA, gnT])
  rw [qc7, if_neg fun q => by rw [q.1, qh0 q.2] at h; simp at h]
def z67 : List D → Option (List D)
 | [vs, t] => some [eT (zb4 (dIs vs) (dT t))]
 | _ => none
theorem zhy (f : Int → Int) (t : Te) : q34 f t = .mk t.k (if t.k = 0 then f t.n else t.n) t.s (t.l.map (q34 f)) := by cases t; rw [qxw]; rfl
theorem ql3 : FOk zd z67 := q2t (m := mT1) q7d fun N ih => qke q83 ih fun ds outs hw hg => by
 obtain ⟨d, r, rfl, hd, e, r', rfl, he, rfl⟩ := hw
 obtain ⟨vs, rfl, hvs, -⟩ := zdc qw5 hd
 obtain ⟨t, rfl, ht⟩ := wfT he
 simp only [q15, mT1, z67, List.getD_cons_zero, List.getD_cons_succ, zb, q3f, Option.ite_none_right_eq_some, Option.some.injEq] at hg
 obtain ⟨hsz, rfl⟩ := hg
 have hl := ht.l
 have key : ∀ (x : X) (n : Int), (n = if t.k = 0 then qak vs t.n else t.n) → x.ev (evl (qe [(qv, qr7), (zd, q15 mT1 N z67)]) [eIs vs, eT t]) = eT (.mk t.k n t.s []) → Tree.go (qe [(qv, qr7), (zd, q15 mT1 N z67)]) (fun o => o = [eT (zb4 vs t)]) (.loop 5 2 [(.lit (.i 0)), x] (qim q18)) [eIs vs, eT t] fun _ _ => False := by
  intro x n hn hx
  rw [zi]
  simp only [qim, q18]
  refine ⟨fun st => ∃ k : Nat, k ≤ t.l.length ∧ st = [.i k, eT (.mk t.k n t.s ((t.l.take k).map (zb4 vs)))], fun st => t.l.length - (st.getD 0 .u).int.toNat, ⟨0, Nat.zero_le _, by simp only [X.evs, hx, X.ev]; rfl⟩, ?_⟩
  rintro st - ⟨k, hk, rfl⟩
  rw [qd]
  refine ⟨fun hlt => ?_, fun hlt => ?_⟩
  ·simp only [q9, qd, qa, qb, qc, X.says, X.ev, X.evs, evl, qe, gnA, gnT] at hlt
   have hkl' : k < t.l.length := by omega
   have ha := q6y hkl'
   simp only [q9, qd, qa, qb, qc, X.says, X.ev, X.evs, evl, qe, gnA, gnT, q87 hkl', q15, mT1, z67, q3f, if_pos (show szT (t.l.getD k default) < N by omega), zd5, List.length_take]
   refine ⟨⟨by omega, by omega, by omega⟩, ⟨by omega, by omega⟩, ?_⟩
   rw [jm, if_pos rfl]
   refine ⟨⟨k + 1, by omega, ?_⟩, ?_⟩
   ·rw [q8x hkl', qnl, List.map_append]
    rfl
   ·simp [D.int]
    omega
  ·simp only [q9, qd, qa, qb, qc, X.says, X.ev, X.evs, evl, qe, gnA, gnT] at hlt ⊢
   have : k = t.l.length := by omega
   subst this
   rw [List.take_length, hn, zb4, zhy]
 rw [q18, qd]
 refine ⟨fun h => ?_, fun h => ?_⟩
 ·simp only [q9, qd, qa, qb, qc, X.says, X.ev, X.evs, evl, qe, gnA, gnT] at h
  rw [q9]
  refine ⟨by simp only [q9, qd, qa, qb, qc, X.says, X.ev, X.evs, evl, qe, gnA, gnT, qr7], key _ (qak vs t.n) (by rw [if_pos h]) ?_⟩
  simp only [q9, qd, qa, qb, qc, X.says, X.ev, X.evs, evl, qe, gnA, gnT, qr7, q3f, qkq]
  rfl
 ·simp only [q9, qd, qa, qb, qc, X.says, X.ev, X.evs, evl, qe, gnA, gnT] at h
  refine key _ t.n (by rw [if_neg h]) ?_
  simp only [q9, qd, qa, qb, qc, X.says, X.ev, X.evs, evl, qe, gnA, gnT, qkq]
  rfl
def zid (n : Int) : So := ⟨[], [], [], [], 0, n⟩
theorem zgz {n : Int} (h1 : 1 ≤ n) (h2 : n ≤ 1048576) : qs (zid n) = true := by
 simp [qs, zid, qgx, qbl, h1, h2]
 exact decide_eq_true (by omega)
theorem q6n {t : Te} {q : Sv} {a : Int} (hn : qu t = true) (hs : SV q.2) : q.1.cs.length ≤ (qr q t a).2.1.cs.length := by
 have := (q1y t q a hn hs).1
 omega
theorem q97 {l : List Te} {q : Sv} {to : Nat} (hn : zj l = true) (hs : SV q.2) : q.1.cs.length ≤ (yc q l to).1.cs.length := by
 have := (q8p l q to hn hs).1
 omega
def grow (s : So) (y : Int) (n : Nat) : List Ce := s.cs ++ (⟨4, y⟩ :: List.replicate n ⟨0, 0⟩)
theorem qfq (s : So) (y : Int) (n : Nat) : (grow s y n).length = s.cs.length + 1 + n := by simp [grow]; omega
mutual
theorem quu : ∀ (t : Te) (q : Sv) (a : Int) (i : Nat), qu t = true → SV q.2 → i < q.1.cs.length → (qr q t a).2.1.cs[i]? = q.1.cs[i]?
 | .mk k n nm l, q, a, i, hn, hs, hi => by
  rw [qu, Bool.and_eq_true] at hn
  rcases q05 hn.1 with ⟨rfl, rfl, h1, h2⟩ | ⟨rfl, rfl⟩ | ⟨rfl, rfl, h1⟩ | ⟨rfl, h1, h2, h3⟩
  ·rw [q61]
   split
   ·rfl
   ·split
    ·exact List.getElem?_append_left hi
    ·rfl
  ·rw [q9j]
  ·rw [q9g]
   exact congrArg (·[i]?) (qc6 q.1 nm 0).1
  ·rw [q9m]
   have hg := qfq q.1 (yy q.1 nm (l.length : Nat)).1 l.length
   refine (q79 l ({ (yy q.1 nm (l.length : Nat)).2 with cs := grow q.1 (yy q.1 nm (l.length : Nat)).1 l.length }, q.2) (q.1.cs.length + 1) i hn.2 hs (by show _ ≤ (grow _ _ _).length; omega) (by show i < (grow _ _ _).length; omega) (.inl (by omega))).trans ?_
   exact List.getElem?_append_left hi
theorem q79 : ∀ (l : List Te) (q : Sv) (to i : Nat), zj l = true → SV q.2 → to + l.length ≤ q.1.cs.length → i < q.1.cs.length → i < to ∨ to + l.length ≤ i → (yc q l to).1.cs[i]? = q.1.cs[i]?
 | [], q, to, i, _, _, _, _, _ => by rw [yc]
 | t :: l, q, to, i, hn, hs, hto, hi, hh => by
  rw [zj, Bool.and_eq_true] at hn
  rw [List.length_cons] at hto hh
  rw [yc]
  have hm := q6n (a := (to : Nat)) hn.1 hs
  have h4 := (q1y t q (to : Nat) hn.1 hs).2.2.2
  rw [q79 l (q90 (qr q t (to : Nat)).2.1 to (qr q t (to : Nat)).1, (qr q t (to : Nat)).2.2) (to + 1) i hn.2 h4 (by rw [q39]; omega) (by rw [q39]; omega) (by omega)]
  show ((qr q t (to : Nat)).2.1.cs.set to _)[i]? = _
  rw [List.getElem?_set_ne (by omega)]
  exact quu t q _ i hn.1 hs hi
end
theorem z8s (ys : List Sy) (y : Sy) : ∃ m, qax ys y = ys ++ m := by
 unfold qax
 split
 ·exact ⟨[], by simp⟩
 ·exact ⟨[y], rfl⟩
mutual
theorem qti : ∀ (t : Te) (ys : List Sy), ∃ m, q2x ys t = ys ++ m
 | .mk k n nm l, ys => by
  rw [q2x]
  obtain ⟨m, hm⟩ := q9q l (if k = 2 ∨ k = 3 then qax ys ⟨nm, (l.length : Nat)⟩ else ys)
  rw [hm]
  split
  ·obtain ⟨m2, h2⟩ := z8s ys ⟨nm, (l.length : Nat)⟩
   exact ⟨m2 ++ m, by rw [h2, List.append_assoc]⟩
  ·exact ⟨m, rfl⟩
theorem q9q : ∀ (l : List Te) (ys : List Sy), ∃ m, q0c ys l = ys ++ m
 | [], ys => ⟨[], by simp [q0c]⟩
 | t :: l, ys => by
  rw [q0c]
  obtain ⟨m, hm⟩ := qti t ys
  obtain ⟨m2, h2⟩ := q9q l (q2x ys t)
  exact ⟨m ++ m2, by rw [h2, hm, List.append_assoc]⟩
end
theorem q44 {v n : Int} {c : Ce} : ∀ {l : List Vc}, ofV l n = none → ofV (q6s l n c) v = if v = n then some c else ofV l v
 | [], _ => by
  by_cases h : v = n
  ·simp [q6s, ofV, h]
  ·have h' : ¬ n = v := fun e => h e.symm
   simp [q6s, ofV, h, h']
 | x :: l, hn => by
  rw [ofV] at hn
  split at hn
  ·cases hn
  rename_i hx
  rw [q6s]
  split
  ·rw [ofV, ofV, q44 hn]
   by_cases h : v = n
   ·subst h
    simp [hx]
   ·simp [h]
  ·by_cases h : v = n
   ·simp [ofV, h]
   ·have h' : ¬ n = v := fun e => h e.symm
    rw [ofV, if_neg h', if_neg h]
theorem qyt (n : Int) (c : Ce) : ∀ l, (q6s l n c).length = l.length + 1
 | [] => rfl
 | x :: l => by
  rw [q6s]
  split
  ·rw [List.length_cons, qyt n c l, List.length_cons]
  ·simp
mutual
/-- The cells of variables stay. -/
theorem z5r : ∀ (t : Te) (q : Sv) (a : Int), qu t = true → ∀ v c, ofV q.2 v = some c → ofV (qr q t a).2.2 v = some c
 | .mk k n nm l, q, a, hn, v, c, hv => by
  rw [qu, Bool.and_eq_true] at hn
  rcases q05 hn.1 with ⟨rfl, rfl, h1, h2⟩ | ⟨rfl, rfl⟩ | ⟨rfl, rfl, h1⟩ | ⟨rfl, h1, h2, h3⟩
  ·rw [q61]
   cases ho : ofV q.2 n with
   | some c' => exact hv
   | none =>
    have hne : ¬ v = n := fun e => by rw [e, ho] at hv; cases hv
    by_cases ha : a < 0
    ·simp only [if_pos ha]
     rw [q44 ho, if_neg hne, hv]
    ·simp only [if_neg ha]
     rw [q44 ho, if_neg hne, hv]
  ·rw [q9j]; exact hv
  ·rw [q9g]; exact hv
  ·rw [q9m]
   exact qon l _ _ hn.2 v c hv
theorem qon : ∀ (l : List Te) (q : Sv) (to : Nat), zj l = true → ∀ v c, ofV q.2 v = some c → ofV (yc q l to).2 v = some c
 | [], q, to, _, v, c, hv => by rw [yc]; exact hv
 | t :: l, q, to, hn, v, c, hv => by
  rw [zj, Bool.and_eq_true] at hn
  rw [yc]
  exact qon l _ _ hn.2 v c (z5r t q _ hn.1 v c hv)
end
theorem qxt (V : List Int) (k n : Int) (s : ByteArray) (l : List Te) : inV V (.mk k n s l) ↔ (k = 0 → n ∈ V) ∧ qfu V l := by rw [inV]
mutual
/-- Which variables have cells then, and how many. -/
theorem qj9 : ∀ (t : Te) (q : Sv) (a : Int) (vs : List Int), qu t = true → (∀ v, v ∈ vs ↔ (ofV q.2 v).isSome = true) → (∀ v, v ∈ zm vs t ↔ (ofV (qr q t a).2.2 v).isSome = true) ∧ (qr q t a).2.2.length + vs.length = q.2.length + (zm vs t).length
 | .mk k n nm l, q, a, vs, hn, hv => by
  rw [qu, Bool.and_eq_true] at hn
  rcases q05 hn.1 with ⟨rfl, rfl, h1, h2⟩ | ⟨rfl, rfl⟩ | ⟨rfl, rfl, h1⟩ | ⟨rfl, h1, h2, h3⟩
  ·rw [q61, qc7]
   simp only [Te.k, Te.n, Te.l, zo, true_and]
   cases ho : ofV q.2 n with
   | some c' =>
    have : n ∈ vs := (hv n).2 (by rw [ho]; rfl)
    rw [if_neg (fun h => h this)]
    exact ⟨hv, rfl⟩
   | none =>
    have hnv : n ∉ vs := fun h => by
     have := (hv n).1 h
     rw [ho] at this
     cases this
    rw [if_pos hnv]
    have key : ∀ c, (∀ v, v ∈ vs ++ [n] ↔ (ofV (q6s q.2 n c) v).isSome = true) ∧ (q6s q.2 n c).length + vs.length = q.2.length + (vs ++ [n]).length := fun c => by
     refine ⟨fun v => ?_, by rw [qyt]; simp; omega⟩
     rw [q44 ho]
     by_cases h : v = n
     ·simp [h]
     ·simp [h, hv v]
    by_cases ha : a < 0
    ·simp only [if_pos ha]
     exact key _
    ·simp only [if_neg ha]
     exact key _
  ·rw [q9j, qc7]
   simp only [Te.k, Te.l, zo]
   exact ⟨hv, rfl⟩
  ·rw [q9g, qc7]
   simp only [Te.k, Te.l, zo]
   exact ⟨hv, rfl⟩
  ·rw [q9m, qc7]
   simp only [Te.k, Te.l]
   exact qp6 l ({ (yy q.1 nm (l.length : Nat)).2 with cs := q.1.cs ++ (⟨4, (yy q.1 nm (l.length : Nat)).1⟩ :: List.replicate l.length ⟨0, 0⟩) }, q.2) _ vs hn.2 hv
theorem qp6 : ∀ (l : List Te) (q : Sv) (to : Nat) (vs : List Int), zj l = true → (∀ v, v ∈ vs ↔ (ofV q.2 v).isSome = true) → (∀ v, v ∈ zo vs l ↔ (ofV (yc q l to).2 v).isSome = true) ∧ (yc q l to).2.length + vs.length = q.2.length + (zo vs l).length
 | [], q, to, vs, _, hv => by rw [yc, zo]; exact ⟨hv, rfl⟩
 | t :: l, q, to, vs, hn, hv => by
  rw [zj, Bool.and_eq_true] at hn
  rw [yc, zo]
  obtain ⟨h1, h2⟩ := qj9 t q (to : Nat) vs hn.1 hv
  obtain ⟨h3, h4⟩ := qp6 l (q90 (qr q t (to : Nat)).2.1 to (qr q t (to : Nat)).1, (qr q t (to : Nat)).2.2) (to + 1) (zm vs t) hn.2 h1
  simp only at h4
  exact ⟨h3, by omega⟩
end
mutual
/-- A cell represents a term; f: what represents a variable. -/
def Rh (S : So) (f : Int → Ce) : Te → Ce → Prop
 | .mk k n nm l, c => (k = 0 ∧ c = f n) ∨ (k = 1 ∧ c = ⟨1, n⟩) ∨ (k = 2 ∧ c.t = 2 ∧ ∃ y : Nat, c.n = (y : Int) ∧ S.ys[y]? = some ⟨nm, 0⟩) ∨
  (k = 3 ∧ c.t = 3 ∧ ∃ p y : Nat, c.n = (p : Int) ∧ S.cs[p]? = some ⟨4, y⟩ ∧ S.ys[y]? = some ⟨nm, (l.length : Nat)⟩ ∧ Rhs S f l (p + 1))
def Rhs (S : So) (f : Int → Ce) : List Te → Nat → Prop
 | [], _ => True
 | t :: l, p => (∃ c, S.cs[p]? = some c ∧ Rh S f t c) ∧ Rhs S f l (p + 1)
end
theorem zkn {S : So} {f : Int → Ce} {n : Int} {nm : ByteArray} {l : List Te} : Rh S f (.mk 1 n nm l) ⟨1, n⟩ := by rw [Rh]; exact .inr (.inl ⟨rfl, rfl⟩)
theorem z8b {nm : ByteArray} {ar : Int} : ∀ (k : Nat) (l : List Sy), 0 ≤ fnd nm ar k l → ∃ j : Nat, fnd nm ar k l = ((k + j : Nat) : Int) ∧ l[j]? = some ⟨nm, ar⟩
 | k, [], h => by simp [fnd] at h
 | k, y :: l, h => by
  unfold fnd at h ⊢
  split
  ·rename_i hy
   obtain ⟨rfl, rfl⟩ := hy
   exact ⟨0, rfl, rfl⟩
  ·rename_i hy
   rw [if_neg hy] at h
   obtain ⟨j, e, hj⟩ := z8b (k + 1) l h
   exact ⟨j + 1, by rw [e]; congr 1; omega, by simpa using hj⟩
theorem z3j (s : So) (nm : ByteArray) (ar : Int) : ∃ y : Nat, (yy s nm ar).1 = (y : Int) ∧ (yy s nm ar).2.ys[y]? = some ⟨nm, ar⟩ := by
 unfold yy
 by_cases h : 0 ≤ q77 s nm ar
 ·rw [if_pos h]
  obtain ⟨j, e, hj⟩ := z8b 0 s.ys h
  exact ⟨j, by rw [← Nat.zero_add j]; exact e, hj⟩
 ·rw [if_neg h]
  exact ⟨s.ys.length, rfl, by simp⟩
theorem z95 {ys m : List Sy} {i : Nat} {y : Sy} (h : ys[i]? = some y) : (ys ++ m)[i]? = some y := by
 rw [List.getElem?_append_left (List.getElem?_eq_some_iff.1 h).1]
 exact h
def z0a (S : So) (f : Int → Ce) (P : Te → Prop) (i : Nat) : Prop :=
 (∃ y k : Nat, ∃ nm, S.cs[i]? = some ⟨4, y⟩ ∧ S.ys[y]? = some ⟨nm, k⟩ ∧ 1 ≤ k ∧ k ≤ 8 ∧ ∀ j, 1 ≤ j → j ≤ k → ∃ t c, P t ∧ S.cs[i + j]? = some c ∧ Rh S f t c) ∨ ∃ t c, P t ∧ S.cs[i]? = some c ∧ Rh S f t c
theorem z34 {S : So} {f : Int → Ce} : ∀ {l : List Te} {p j : Nat}, Rhs S f l p → j < l.length → ∃ c, S.cs[p + j]? = some c ∧ Rh S f (l.getD j default) c
 | t :: l, p, 0, h, _ => by rw [Rhs] at h; exact h.1
 | t :: l, p, j + 1, h, hj => by
  rw [Rhs] at h
  obtain ⟨c, h1, h2⟩ := z34 h.2 (j := j) (by simpa using hj)
  exact ⟨c, by rw [← h1]; congr 1; omega, by simpa using h2⟩
mutual
theorem qzp {S : So} {f : Int → Ce} {P : Te → Prop} (hP : ∀ k n nm l, P (.mk k n nm l) → ∀ t ∈ l, P t) : ∀ (t : Te) (q : Sv) (a : Int), P t → qu t = true → SV q.2 → (∀ i, q.1.cs.length ≤ i → i < (qr q t a).2.1.cs.length → S.cs[i]? = (qr q t a).2.1.cs[i]?) → (∀ (i : Nat) y, (qr q t a).2.1.ys[i]? = some y → S.ys[i]? = some y) → (∀ v c, ofV (qr q t a).2.2 v = some c → f v = yr c) →
  Rh S f t (qr q t a).1 ∧ ∀ i, q.1.cs.length ≤ i → i < (qr q t a).2.1.cs.length → z0a S f P i
 | .mk k n nm l, q, a, hp, hn, hs, hc, hy, hf => by
  rw [qu, Bool.and_eq_true] at hn
  rcases q05 hn.1 with ⟨rfl, rfl, h1, h2⟩ | ⟨rfl, rfl⟩ | ⟨rfl, rfl, h1⟩ | ⟨rfl, h1, h2, h3⟩
  ·rw [q61] at hc hy hf ⊢
   cases ho : ofV q.2 n with
   | some c =>
    simp only [ho] at hc hf ⊢
    refine ⟨?_, fun i h1 h2 => by omega⟩
    rw [Rh]
    exact .inl ⟨rfl, (hf n c ho).symm⟩
   | none =>
    by_cases ha : a < 0
    ·simp only [ho, if_pos ha] at hc hf ⊢
     have e := hf n _ (by rw [q44 ho, if_pos rfl])
     have hr : Rh S f (.mk 0 n nm []) ⟨0, (q.1.cs.length : Nat)⟩ := by
      rw [Rh]
      exact .inl ⟨rfl, by rw [e]; rfl⟩
     refine ⟨hr, fun i h1 h2 => ?_⟩
     have : i = q.1.cs.length := by simp at h2; omega
     subst this
     exact .inr ⟨_, _, hp, by rw [hc _ h1 h2]; simp, hr⟩
    ·simp only [ho, if_neg ha] at hc hf ⊢
     have e := hf n _ (by rw [q44 ho, if_pos rfl])
     refine ⟨?_, fun i h1 h2 => by omega⟩
     rw [Rh]
     exact .inl ⟨rfl, by rw [e]; rfl⟩
  ·rw [q9j]
   exact ⟨zkn, fun i h1 h2 => by simp only at h2; omega⟩
  ·rw [q9g] at hy ⊢
   obtain ⟨y, e, hy'⟩ := z3j q.1 nm 0
   refine ⟨?_, fun i h1 h2 => ?_⟩
   ·rw [Rh]
    exact .inr (.inr (.inl ⟨rfl, rfl, y, e, hy _ _ hy'⟩))
   ·have e1 := (qc6 q.1 nm 0).1
    simp only [e1] at h2
    omega
  ·rw [q9m] at hc hy hf ⊢
   obtain ⟨y, e, hy'⟩ := z3j q.1 nm (l.length : Nat)
   have hg := qfq q.1 (yy q.1 nm (l.length : Nat)).1 l.length
   have hm : q.1.cs.length + 1 + l.length ≤ (yc ({ (yy q.1 nm (l.length : Nat)).2 with cs := grow q.1 (yy q.1 nm (l.length : Nat)).1 l.length }, q.2) l (q.1.cs.length + 1)).1.cs.length := by
    rw [← hg]
    exact q97 (q := ({ (yy q.1 nm (l.length : Nat)).2 with cs := grow q.1 (yy q.1 nm (l.length : Nat)).1 l.length }, q.2)) hn.2 hs
   have hk := q79 l ({ (yy q.1 nm (l.length : Nat)).2 with cs := grow q.1 (yy q.1 nm (l.length : Nat)).1 l.length }, q.2) (q.1.cs.length + 1) q.1.cs.length hn.2 hs (by show _ ≤ (grow _ _ _).length; omega) (by show _ < (grow _ _ _).length; omega) (.inl (by omega))
   have hys := (q8p l ({ (yy q.1 nm (l.length : Nat)).2 with cs := grow q.1 (yy q.1 nm (l.length : Nat)).1 l.length }, q.2) (q.1.cs.length + 1) hn.2 hs).2.1
   have hpl := hP _ _ _ _ hp
   have ih := quk hP l ({ (yy q.1 nm (l.length : Nat)).2 with cs := grow q.1 (yy q.1 nm (l.length : Nat)).1 l.length }, q.2) (q.1.cs.length + 1) hpl hn.2 hs (by show _ ≤ (grow _ _ _).length; omega) (fun i h1 h2 => hc i (by have h1 : (grow _ _ _).length ≤ i := h1; omega) h2) (fun i h1 h2 => hc i (by omega) (by
    have : q.1.cs.length + 1 + l.length ≤ (yc ({ (yy q.1 nm (l.length : Nat)).2 with cs := grow q.1 (yy q.1 nm (l.length : Nat)).1 l.length }, q.2) l (q.1.cs.length + 1)).1.cs.length := hm
    exact Nat.lt_of_lt_of_le h2 this)) hy hf
   obtain ⟨i1, i2, i3⟩ := ih
   obtain ⟨m, hpre⟩ := q9q l (yy q.1 nm (l.length : Nat)).2.ys
   have hhead : S.cs[q.1.cs.length]? = some ⟨4, y⟩ := by
    rw [hc _ (Nat.le_refl _) (by
     have : q.1.cs.length + 1 + l.length ≤ (yc ({ (yy q.1 nm (l.length : Nat)).2 with cs := grow q.1 (yy q.1 nm (l.length : Nat)).1 l.length }, q.2) l (q.1.cs.length + 1)).1.cs.length := hm
     exact Nat.lt_of_lt_of_le (by omega) this)]
    refine Eq.trans hk ?_
    show (grow _ _ _)[q.1.cs.length]? = _
    rw [grow, List.getElem?_append_right (Nat.le_refl _), Nat.sub_self, e]
    rfl
   have hsy : S.ys[y]? = some ⟨nm, (l.length : Nat)⟩ := by
    refine hy _ _ ?_
    refine Eq.trans (congrArg (·[y]?) hys) ?_
    show (q0c (yy q.1 nm (l.length : Nat)).2.ys l)[y]? = _
    rw [hpre]
    exact z95 hy'
   refine ⟨?_, fun i h4 h5 => ?_⟩
   ·rw [Rh]
    exact .inr (.inr (.inr ⟨rfl, rfl, q.1.cs.length, y, rfl, hhead, hsy, i1⟩))
   ·rcases Nat.lt_or_ge i (q.1.cs.length + 1) with h6 | h6
    ·have : i = q.1.cs.length := by omega
     subst this
     refine .inl ⟨y, l.length, nm, hhead, hsy, h2, h3, fun j g1 g2 => ?_⟩
     obtain ⟨c, g3, g4⟩ := z34 i1 (j := j - 1) (by omega)
     exact ⟨_, c, hpl _ (q19 (by omega)), by rw [← g3]; congr 1; omega, g4⟩
    rcases Nat.lt_or_ge i (q.1.cs.length + 1 + l.length) with h7 | h7
    ·exact i3 i h6 h7
    ·exact i2 i (by show (grow _ _ _).length ≤ i; omega) h5
theorem quk {S : So} {f : Int → Ce} {P : Te → Prop} (hP : ∀ k n nm l, P (.mk k n nm l) → ∀ t ∈ l, P t) : ∀ (l : List Te) (q : Sv) (to : Nat), (∀ t ∈ l, P t) → zj l = true → SV q.2 → to + l.length ≤ q.1.cs.length → (∀ i, q.1.cs.length ≤ i → i < (yc q l to).1.cs.length → S.cs[i]? = (yc q l to).1.cs[i]?) → (∀ i, to ≤ i → i < to + l.length → S.cs[i]? = (yc q l to).1.cs[i]?) → (∀ (i : Nat) y, (yc q l to).1.ys[i]? = some y → S.ys[i]? = some y) → (∀ v c, ofV (yc q l to).2 v = some c → f v = yr c) →
  Rhs S f l to ∧ (∀ i, q.1.cs.length ≤ i → i < (yc q l to).1.cs.length → z0a S f P i) ∧ ∀ i, to ≤ i → i < to + l.length → z0a S f P i
 | [], q, to, _, _, _, _, hc, hc2, hy, hf => by
  rw [yc]
  refine ⟨?_, fun i h1 h2 => by omega, fun i h1 h2 => ?_⟩
  ·rw [Rhs]; trivial
  ·simp only [List.length_nil] at h2; omega
 | t :: l, q, to, hp, hn, hs, hto, hc, hc2, hy, hf => by
  rw [zj, Bool.and_eq_true] at hn
  rw [List.length_cons] at hto hc2
  rw [yc] at hc hc2 hy hf ⊢
  obtain ⟨g1, g2, g3, g4⟩ := q1y t q (to : Nat) hn.1 hs
  have hm := q6n (a := (to : Nat)) hn.1 hs
  have hL := q39 (qr q t (to : Nat)).2.1 to (qr q t (to : Nat)).1
  have hkeep := fun i h1 h2 h3 => q79 l (q90 (qr q t (to : Nat)).2.1 to (qr q t (to : Nat)).1, (qr q t (to : Nat)).2.2) (to + 1) i hn.2 g4 h1 h2 h3
  have hys := (q8p l (q90 (qr q t (to : Nat)).2.1 to (qr q t (to : Nat)).1, (qr q t (to : Nat)).2.2) (to + 1) hn.2 g4).2.1
  have hm2 := q97 (to := to + 1) (q := (q90 (qr q t (to : Nat)).2.1 to (qr q t (to : Nat)).1, (qr q t (to : Nat)).2.2)) hn.2 g4
  have hof := qon l (q90 (qr q t (to : Nat)).2.1 to (qr q t (to : Nat)).1, (qr q t (to : Nat)).2.2) (to + 1) hn.2
  simp only at hm2
  rw [hL] at hm2
  have hset : ∀ i, i ≠ to → (q90 (qr q t (to : Nat)).2.1 to (qr q t (to : Nat)).1).cs[i]? = (qr q t (to : Nat)).2.1.cs[i]? := fun i h => List.getElem?_set_ne (fun e => h e.symm)
  obtain ⟨m, hpre⟩ := q9q l (qr q t (to : Nat)).2.1.ys
  obtain ⟨r1, r2⟩ := qzp hP t q (to : Nat) (hp t List.mem_cons_self) hn.1 hs (fun i h1 h2 => by
   rw [hc i h1 (Nat.lt_of_lt_of_le h2 hm2), hkeep i (by rw [hL]; omega) (by rw [hL]; omega) (.inr (by omega)), hset i (by omega)]) (fun i y h => by
   refine hy i y ?_
   refine Eq.trans (congrArg (·[i]?) hys) ?_
   show (q0c (qr q t (to : Nat)).2.1.ys l)[i]? = _
   rw [hpre]
   exact z95 h) (fun v c h => hf v c (hof v c h))
  have hat : S.cs[to]? = some (qr q t (to : Nat)).1 := by
   rw [hc2 to (Nat.le_refl _) (by omega), hkeep to (by rw [hL]; omega) (by rw [hL]; omega) (.inl (by omega))]
   show ((qr q t (to : Nat)).2.1.cs.set to _)[to]? = _
   rw [List.getElem?_set_self (by omega)]
  obtain ⟨s1, s2, s3⟩ := quk hP l (q90 (qr q t (to : Nat)).2.1 to (qr q t (to : Nat)).1, (qr q t (to : Nat)).2.2) (to + 1) (fun u hu => hp u (List.mem_cons_of_mem _ hu)) hn.2 g4 (by rw [hL]; omega) (fun i h1 h2 => hc i (by rw [hL] at h1; omega) h2) (fun i h1 h2 => hc2 i (by omega) (by omega)) hy hf
  refine ⟨?_, fun i h1 h2 => ?_, fun i h1 h2 => ?_⟩
  ·rw [Rhs]
   exact ⟨⟨_, hat, r1⟩, s1⟩
  ·rcases Nat.lt_or_ge i (qr q t (to : Nat)).2.1.cs.length with h3 | h3
   ·exact r2 i h1 h3
   ·exact s2 i (by rw [hL]; exact h3) h2
  ·rw [List.length_cons] at h2
   rcases Nat.lt_or_ge to i with h3 | h3
   ·exact s3 i h3 (by omega)
   ·have : i = to := by omega
    subst this
    exact .inr ⟨_, _, hp t List.mem_cons_self, hat, r1⟩
end
mutual
/-- New variables: their cells hold themselves. -/
theorem z18 {S : So} : ∀ (t : Te) (q : Sv) (a : Int), qu t = true → SV q.2 → (∀ i, q.1.cs.length ≤ i → i < (qr q t a).2.1.cs.length → S.cs[i]? = (qr q t a).2.1.cs[i]?) → (0 ≤ a → S.cs[a.toNat]? = some (qr q t a).1) → ∀ v c, ofV (qr q t a).2.2 v = some c → ofV q.2 v = some c ∨ ∃ p : Nat, c = ⟨0, p⟩ ∧ S.cs[p]? = some c ∧ (q.1.cs.length ≤ p ∨ a = p)
 | .mk k n nm l, q, a, hn, hs, hc, ha, v, c, hv => by
  rw [qu, Bool.and_eq_true] at hn
  rcases q05 hn.1 with ⟨rfl, rfl, h1, h2⟩ | ⟨rfl, rfl⟩ | ⟨rfl, rfl, h1⟩ | ⟨rfl, h1, h2, h3⟩
  ·rw [q61] at hc ha hv
   cases ho : ofV q.2 n with
   | some c' => simp only [ho] at hv; exact .inl hv
   | none =>
    by_cases h0 : a < 0
    ·simp only [ho, if_pos h0] at hc hv
     rw [q44 ho] at hv
     split at hv
     ·cases hv
      refine .inr ⟨_, rfl, ?_, .inl (Nat.le_refl _)⟩
      rw [hc _ (Nat.le_refl _) (by simp)]
      simp
     ·exact .inl hv
    ·simp only [ho, if_neg h0] at ha hv
     rw [q44 ho] at hv
     split at hv
     ·cases hv
      have e : (a.toNat : Int) = a := Int.toNat_of_nonneg (by omega)
      refine .inr ⟨a.toNat, by rw [e], ha (by omega), .inr e.symm⟩
     ·exact .inl hv
  ·rw [q9j] at hv; exact .inl hv
  ·rw [q9g] at hv; exact .inl hv
  ·rw [q9m] at hc hv
   have hg := qfq q.1 (yy q.1 nm (l.length : Nat)).1 l.length
   have hm : q.1.cs.length + 1 + l.length ≤ (yc ({ (yy q.1 nm (l.length : Nat)).2 with cs := grow q.1 (yy q.1 nm (l.length : Nat)).1 l.length }, q.2) l (q.1.cs.length + 1)).1.cs.length := by
    rw [← hg]
    exact q97 (q := ({ (yy q.1 nm (l.length : Nat)).2 with cs := grow q.1 (yy q.1 nm (l.length : Nat)).1 l.length }, q.2)) hn.2 hs
   rcases qtv l ({ (yy q.1 nm (l.length : Nat)).2 with cs := grow q.1 (yy q.1 nm (l.length : Nat)).1 l.length }, q.2) (q.1.cs.length + 1) hn.2 hs (by show _ ≤ (grow _ _ _).length; omega) (fun i h1 h2 => hc i (by have h1 : (grow _ _ _).length ≤ i := h1; omega) h2) (fun i h1 h2 => hc i (by omega) (Nat.lt_of_lt_of_le h2 hm)) v c hv with h | ⟨p, e1, e2, e3⟩
   ·exact .inl h
   ·refine .inr ⟨p, e1, e2, .inl ?_⟩
    rcases e3 with e3 | e3
    ·have e3 : (grow _ _ _).length ≤ p := e3
     omega
    ·omega
theorem qtv {S : So} : ∀ (l : List Te) (q : Sv) (to : Nat), zj l = true → SV q.2 → to + l.length ≤ q.1.cs.length → (∀ i, q.1.cs.length ≤ i → i < (yc q l to).1.cs.length → S.cs[i]? = (yc q l to).1.cs[i]?) → (∀ i, to ≤ i → i < to + l.length → S.cs[i]? = (yc q l to).1.cs[i]?) → ∀ v c, ofV (yc q l to).2 v = some c → ofV q.2 v = some c ∨ ∃ p : Nat, c = ⟨0, p⟩ ∧ S.cs[p]? = some c ∧ (q.1.cs.length ≤ p ∨ to ≤ p)
 | [], q, to, _, _, _, _, _, v, c, hv => by rw [yc] at hv; exact .inl hv
 | t :: l, q, to, hn, hs, hto, hc, hc2, v, c, hv => by
  rw [zj, Bool.and_eq_true] at hn
  rw [List.length_cons] at hto hc2
  rw [yc] at hc hc2 hv
  obtain ⟨g1, g2, g3, g4⟩ := q1y t q (to : Nat) hn.1 hs
  have hm := q6n (a := (to : Nat)) hn.1 hs
  have hL := q39 (qr q t (to : Nat)).2.1 to (qr q t (to : Nat)).1
  have hkeep := fun i h1 h2 h3 => q79 l (q90 (qr q t (to : Nat)).2.1 to (qr q t (to : Nat)).1, (qr q t (to : Nat)).2.2) (to + 1) i hn.2 g4 h1 h2 h3
  have hm2 := q97 (to := to + 1) (q := (q90 (qr q t (to : Nat)).2.1 to (qr q t (to : Nat)).1, (qr q t (to : Nat)).2.2)) hn.2 g4
  simp only at hm2
  rw [hL] at hm2
  have hset : ∀ i, i ≠ to → (q90 (qr q t (to : Nat)).2.1 to (qr q t (to : Nat)).1).cs[i]? = (qr q t (to : Nat)).2.1.cs[i]? := fun i h => List.getElem?_set_ne (fun e => h e.symm)
  have hat : S.cs[to]? = some (qr q t (to : Nat)).1 := by
   rw [hc2 to (Nat.le_refl _) (by omega), hkeep to (by rw [hL]; omega) (by rw [hL]; omega) (.inl (by omega))]
   show ((qr q t (to : Nat)).2.1.cs.set to _)[to]? = _
   rw [List.getElem?_set_self (by omega)]
  rcases qtv l (q90 (qr q t (to : Nat)).2.1 to (qr q t (to : Nat)).1, (qr q t (to : Nat)).2.2) (to + 1) hn.2 g4 (by rw [hL]; omega) (fun i h1 h2 => hc i (by rw [hL] at h1; omega) h2) (fun i h1 h2 => hc2 i (by omega) (by omega)) v c hv with h | ⟨p, e1, e2, e3⟩
  ·rcases z18 t q (to : Nat) hn.1 hs (fun i h1 h2 => by
    rw [hc i h1 (Nat.lt_of_lt_of_le h2 hm2), hkeep i (by rw [hL]; omega) (by rw [hL]; omega) (.inr (by omega)), hset i (by omega)]) (fun _ => by simpa using hat) v c h with h | ⟨p, e1, e2, e3⟩
   ·exact .inl h
   ·exact .inr ⟨p, e1, e2, by omega⟩
  ·exact .inr ⟨p, e1, e2, by rw [hL] at e3; omega⟩
end
section
theorem cell_of {S : So} {p : Nat} {c : Ce} (h : S.cs[p]? = some c) : inS S p = true ∧ cellAt S p = c := by
 have hl := (List.getElem?_eq_some_iff.1 h).1
 refine ⟨qn.2 ⟨by omega, by omega⟩, ?_⟩
 show S.cs.getD ((p : Nat) : Int).toNat default = c
 rw [Int.toNat_natCast, List.getD_eq_getElem?_getD, h]
 rfl
theorem qv3 {S : So} {y : Nat} {nm : ByteArray} {k : Int} (h : S.ys[y]? = some ⟨nm, k⟩) : arS S y = k ∧ q3q S y = ⟨nm, k⟩ := by
 have hl := (List.getElem?_eq_some_iff.1 h).1
 have e : S.ys.getD y default = ⟨nm, k⟩ := by
  rw [List.getD_eq_getElem?_getD, h]
  rfl
 have e2 : q3q S y = ⟨nm, k⟩ := by
  show S.ys.getD ((y : Nat) : Int).toNat default = _
  rw [Int.toNat_natCast, e]
 refine ⟨?_, e2⟩
 unfold arS
 rw [if_pos ⟨by omega, by omega⟩, Int.toNat_natCast, e]
theorem zhs {S : So} {c : Ce} (hv : vcR S c = true) (h : c.t ≠ 0 ∨ cellAt S c.n = c) : qp S c = c := by
 rw [qp, if_pos hv, derN, if_neg]
 rintro ⟨h1, h2, h3⟩
 rcases h with h | h
 ·exact h h1
 ·exact h3 h
section
variable {S : So} {f : Int → Ce} {g : Int → Te} {V : List Int}
end
structure Ext (s S : So) : Prop where
 cs : ∀ i : Nat, i < s.cs.length → S.cs[i]? = s.cs[i]?
 len : s.cs.length ≤ S.cs.length
 ys : ∀ (i : Nat) y, s.ys[i]? = some y → S.ys[i]? = some y
section
variable {s S : So}
theorem Ext.inS (E : Ext s S) {i : Int} (h : inS s i = true) : inS S i = true ∧ cellAt S i = cellAt s i := by
 have q := qn.1 h
 have hl := E.len
 refine ⟨qn.2 ⟨q.1, by omega⟩, ?_⟩
 unfold cellAt
 rw [List.getD_eq_getElem?_getD, List.getD_eq_getElem?_getD, E.cs _ (by omega)]
theorem Ext.tag (E : Ext s S) {i : Int} (h : i < s.cs.length) : q08 S i = q08 s i := by
 cases hi : Go.Proofs.Ytaoamndcdjelnaa.inS s i with
 | true => rw [z9 hi, z9 (E.inS hi).1, (E.inS hi).2]
 | false =>
  rw [q35 hi, q35]
  cases h2 : Go.Proofs.Ytaoamndcdjelnaa.inS S i with
  | false => rfl
  | true =>
   have q := qn.1 h2
   rw [qn.2 ⟨q.1, h⟩] at hi
   cases hi
theorem Ext.ar (E : Ext s S) {n : Int} (h : 0 ≤ arS s n) : arS S n = arS s n ∧ q3q S n = q3q s n := by
 obtain ⟨h0, h1, h2⟩ := q6w h
 have hy : s.ys[n.toNat]? = some (q3q s n) := by
  unfold q3q
  rw [List.getD_eq_getElem?_getD, List.getElem?_eq_getElem (by omega)]
  rfl
 have hY := E.ys _ _ hy
 have hn : n = ((n.toNat : Nat) : Int) := by omega
 generalize hz : q3q s n = z at hY hy
 obtain ⟨nm, k⟩ := z
 have a1 := qv3 hy
 have a2 := qv3 hY
 rw [← hn] at a1 a2
 exact ⟨a2.1.trans a1.1.symm, a2.2⟩
theorem Ext.vc (E : Ext s S) {c : Ce} (h : vcR s c = true) : vcR S c = true := by
 rcases qmx h with ht | ht | ht | ht | ht
 ·obtain ⟨h1, h2⟩ := q4h h ht
  obtain ⟨h3, h4⟩ := E.inS h1
  unfold vcR
  rw [if_pos ht, z9 h3, h3, h4]
  simp [h2]
 ·unfold vcR
  rw [if_neg (by omega), if_pos ht]
 ·unfold vcR at h ⊢
  rw [if_neg (by omega), if_neg (by omega), if_pos ht] at h ⊢
  have h := of_decide_eq_true h
  rw [(E.ar (by omega)).1, h]
  rfl
 ·unfold vcR at h ⊢
  rw [if_neg (by omega), if_neg (by omega), if_neg (by omega), if_pos ht] at h ⊢
  have h := of_decide_eq_true h
  rw [E.tag (qn.1 (q2s (by decide) h)).2, h]
  rfl
 ·unfold vcR at h ⊢
  rw [if_neg (by omega), if_neg (by omega), if_neg (by omega), if_neg (by omega), if_pos ht] at h ⊢
  have h := of_decide_eq_true h
  rw [E.tag (qn.1 (q2s (by decide) h)).2, h]
  rfl
theorem Ext.ends (E : Ext s S) (h : qs s = true) : ∀ (k : Nat) (n : Int), Go.Proofs.Ytaoamndcdjelnaa.inS s n = true → q1g s k n = true → q1g S k n = true
 | 0, n, _, h1 => by cases h1
 | k + 1, n, hi, h1 => by
  have hT := E.tag (qn.1 hi).2
  have hC := (E.inS hi).2
  by_cases hn : Ns s n
  ·have hn' : Ns S n := ⟨hT.trans hn.1, by rw [hC]; exact hn.2⟩
   rw [q07 hn] at h1
   rw [q07 hn', nx, hC]
   exact Ext.ends E h k _ (z39 h hn) h1
  ·exact q37 fun q => hn ⟨hT.symm.trans q.1, by have := q.2; rwa [hC] at this⟩
end
end
section
theorem qhx {ys : List Sy} : qbl ys = true ↔ ys.length ≤ 1048576 ∧ ys.Nodup ∧ ∀ y ∈ ys, okY y = true := by
 unfold qbl
 rw [Bool.and_eq_true, decide_eq_true_eq, List.all_eq_true]
 refine and_congr Iff.rfl ?_
 constructor
 ·intro h
  have h' : ∀ k, k < ys.length → qpd ys k = true := fun k hk => h k (List.mem_range.2 hk)
  refine ⟨List.pairwise_iff_getElem.2 fun i j hi hj hij e => ?_, fun y hy => ?_⟩
  ·have := h' j hj
   simp only [qpd, Bool.and_eq_true, Bool.not_eq_true', decide_eq_false_iff_not] at this
   refine this.2 ?_
   rw [show ys.getD j default = ys[i] by rw [e]; simp [List.getD_eq_getElem?_getD, hj]]
   exact List.mem_iff_getElem.2 ⟨i, by simp; omega, by simp⟩
  ·obtain ⟨k, hk, rfl⟩ := List.mem_iff_getElem.1 hy
   have := h' k hk
   simp only [qpd, Bool.and_eq_true] at this
   simpa [List.getD_eq_getElem?_getD, hk] using this.1
 ·rintro ⟨hn, ho⟩ k hk
  have hk := List.mem_range.1 hk
  simp only [qpd, Bool.and_eq_true, Bool.not_eq_true', decide_eq_false_iff_not]
  have e : ys.getD k default = ys[k] := by simp [List.getD_eq_getElem?_getD, hk]
  rw [e]
  refine ⟨ho _ (List.getElem_mem hk), fun hm => ?_⟩
  obtain ⟨i, hi, he⟩ := List.mem_iff_getElem.1 hm
  have hi2 : i < k := by simp at hi; omega
  rw [List.getElem_take] at he
  exact List.pairwise_iff_getElem.1 hn i k (by omega) hk hi2 he
def z6y (ys : List Sy) : Prop := ys.Nodup ∧ ∀ y ∈ ys, okY y = true
theorem z3n {ys : List Sy} {y : Sy} (h : z6y ys) (hy : okY y = true) : z6y (qax ys y) := by
 unfold qax
 split
 ·exact h
 ·rename_i hm
  refine ⟨List.nodup_append.2 ⟨h.1, by simp, fun a ha b hb e => ?_⟩, fun z hz => ?_⟩
  ·rw [List.mem_singleton.1 hb] at e
   exact hm (e ▸ ha)
  ·rcases List.mem_append.1 hz with hz | hz
   ·exact h.2 z hz
   ·rw [List.mem_singleton.1 hz]; exact hy
mutual
theorem z05 : ∀ (t : Te) (ys : List Sy), qu t = true → z6y ys → z6y (q2x ys t)
 | .mk k n nm l, ys, hn, h => by
  rw [qu, Bool.and_eq_true] at hn
  rw [q2x]
  refine qta l _ hn.2 ?_
  rcases q05 hn.1 with ⟨rfl, rfl, h1, h2⟩ | ⟨rfl, rfl⟩ | ⟨rfl, rfl, h1⟩ | ⟨rfl, h1, h2, h3⟩
  ·exact h
  ·exact h
  ·refine z3n h ?_
   simp [okY]
   omega
  ·refine z3n h ?_
   simp [okY]
   omega
theorem qta : ∀ (l : List Te) (ys : List Sy), zj l = true → z6y ys → z6y (q0c ys l)
 | [], ys, _, h => by rw [q0c]; exact h
 | t :: l, ys, hn, h => by
  rw [zj, Bool.and_eq_true] at hn
  rw [q0c]
  exact qta l _ hn.2 (z05 t ys hn.1 h)
end
structure Vgood (S : So) (c : Ce) : Prop where
 vc : vcR S c = true
 no5 : c.t ≠ 5
 ends : c.t = 0 → q1g S S.cs.length c.n = true
section
variable {s S : So} {f : Int → Ce} {V : List Int}
theorem qh6 (hf : ∀ v ∈ V, Vgood S (f v)) {t : Te} {c : Ce} (hi : inV V t) (hn : qu t = true) (h : Rh S f t c) : Vgood S c := by
 obtain ⟨k, n, nm, l⟩ := t
 rw [qxt] at hi
 rw [Rh] at h
 rcases h with ⟨rfl, rfl⟩ | ⟨rfl, rfl⟩ | ⟨rfl, ht, y, hy, hs⟩ | ⟨rfl, ht, p, y, hp, hc, hs, hl⟩
 ·exact hf n (hi.1 rfl)
 ·exact ⟨rfl, fun h => absurd h (by decide : ¬ (1 : Int) = 5), fun h => absurd h (by decide : ¬ (1 : Int) = 0)⟩
 ·obtain ⟨q1, q2⟩ := qv3 hs
  refine ⟨?_, by omega, fun h => by omega⟩
  unfold vcR
  rw [if_neg (by omega), if_neg (by omega), if_pos ht, hy, q1]
  rfl
 ·obtain ⟨q3, q4⟩ := cell_of hc
  refine ⟨?_, by omega, fun h => by omega⟩
  unfold vcR
  rw [if_neg (by omega), if_neg (by omega), if_neg (by omega), if_pos ht, hp, z9 q3, q4]
  rfl
theorem Vgood.no4 {c : Ce} (h : Vgood S c) : c.t ≠ 4 := fun e => by
 rcases qmx h.vc with q | q | q | q | q <;> omega
theorem qud (E : Ext s S) (hs : S.ser = s.ser) {i : Int} (h : q43 s i = true) : q43 S i = true := by
 simp only [q43, Bool.and_eq_true, decide_eq_true_eq, Bool.not_eq_true', decide_eq_false_iff_not] at h ⊢
 obtain ⟨h1, h2, h3, h4, h5, h6⟩ := h
 have i1 := q2s (by decide) h1
 have i2 := qbe h4
 rw [E.tag (qn.1 i1).2, E.tag (qn.1 i2).2, (E.inS i1).2, hs]
 exact ⟨h1, h2, h3, h4, h5, h6⟩
theorem z6o (E : Ext s S) (h : qs s = true) (hs : S.ser = s.ser) {i : Int} (hi : inS s i = true) : q3b S i = true := by
 have hc := q6i h hi
 have he := q81 h hi
 have hl := E.len
 unfold q3b at hc ⊢
 rw [(E.inS hi).2]
 split at hc
 ·rename_i ht
  rw [if_pos ht]
  simp only [Bool.and_eq_true, decide_eq_true_eq, List.all_eq_true, List.mem_range, Bool.not_eq_true', decide_eq_false_iff_not] at hc ⊢
  obtain ⟨h1, h2, h3⟩ := hc
  rw [(E.ar (by omega)).1]
  have q := qn.1 h2
  refine ⟨h1, (E.inS h2).1, fun j hj => ?_⟩
  rw [E.tag (by omega)]
  exact h3 j hj
 ·rename_i ht
  rw [if_neg ht]
  simp only [Bool.and_eq_true, Bool.or_eq_true, decide_eq_true_eq] at hc ⊢
  obtain ⟨h1, h2, h3⟩ := hc
  refine ⟨E.vc h1, ?_, h3.imp id fun q => ⟨q.1, qud E hs q.2⟩⟩
  exact qbr (by omega) (E.ends h _ _ hi he)
theorem zdi (E : Ext s S) (hs : S.ser = s.ser) {u : Un} (h : qsu s u = true) : qsu S u = true := by
 simp only [qsu, zf4, Bool.and_eq_true] at h ⊢
 obtain ⟨h1, h2⟩ := h
 have q := qn.1 h1
 refine ⟨(E.inS h1).1, ?_⟩
 split at h2
 ·rename_i h3
  rw [if_pos h3]; exact h2
 rename_i h3
 rw [if_neg h3]
 split at h2
 ·rename_i h4
  rw [if_pos h4]
  simp only [Bool.and_eq_true] at h2 ⊢
  refine ⟨h2.1, qud E hs h2.2.1, ?_⟩
  rw [E.tag (by omega)]
  exact h2.2.2
 rename_i h4
 rw [if_neg h4]
 split at h2
 ·rename_i h5
  rw [if_pos h5]; exact E.vc h2
 ·cases h2
theorem z84 (E : Ext s S) (hs : S.ser = s.ser) {w : Wk} (h : wkB vcR s w = true) : wkB vcR S w = true := by
 simp only [wkB, Bool.and_eq_true] at h ⊢
 rw [hs]
 exact ⟨h.1, h.2.1, E.vc h.2.2.1, E.vc h.2.2.2⟩
theorem z66 (hf : ∀ v ∈ V, Vgood S (f v)) {i : Nat} (h : z0a S f (fun t => qu t = true ∧ inV V t) i) : q3b S i = true := by
 have e1 : ∀ k : Nat, (k : Int).toNat = k := fun k => Int.toNat_natCast k
 rcases h with ⟨y, k, nm, hc, hy, h1, h2, hj⟩ | ⟨t, c, ⟨hn, hi⟩, hc, hr⟩
 ·obtain ⟨q1, q2⟩ := cell_of hc
  obtain ⟨q3, q4⟩ := qv3 hy
  unfold q3b
  rw [q2, if_pos rfl]
  simp only [q3, e1, Bool.and_eq_true, decide_eq_true_eq, List.all_eq_true, List.mem_range, Bool.not_eq_true', decide_eq_false_iff_not]
  refine ⟨by omega, ?_, fun j hjk => ?_⟩
  ·obtain ⟨t, c, -, g1, -⟩ := hj k h1 (Nat.le_refl _)
   exact (cell_of g1).1
  ·obtain ⟨t, c, ⟨g0, g00⟩, g1, g2⟩ := hj (j + 1) (by omega) (by omega)
   obtain ⟨g3, g4⟩ := cell_of g1
   have e : ((i : Int) + ((j : Int) + 1)) = ((i + (j + 1) : Nat) : Int) := by omega
   rw [e, z9 g3, g4]
   exact (qh6 hf g00 g0 g2).no4
 ·obtain ⟨q1, q2⟩ := cell_of hc
  have hg := qh6 hf hi hn hr
  unfold q3b
  rw [q2, if_neg hg.no4, hg.vc]
  simp only [Bool.true_and, Bool.and_eq_true, Bool.or_eq_true]
  refine ⟨?_, .inl (by simp [hg.no5])⟩
  unfold qub
  by_cases hN : Ns S i
  ·rw [q07 hN, nx, q2]
   refine hg.ends ?_
   have := hN.1
   rwa [z9 q1, q2] at this
  ·exact q37 hN
theorem z76 (h : qs s = true) (E : Ext s S) (hm : S.mx = s.mx) (ht : S.tr = s.tr) (hw : S.wk = s.wk) (hs : S.ser = s.ser) (hc : (S.cs.length : Int) ≤ S.mx) (hy : qbl S.ys = true) (hf : ∀ v ∈ V, Vgood S (f v)) (hn : ∀ i, s.cs.length ≤ i → i < S.cs.length → z0a S f (fun t => qu t = true ∧ inV V t) i) : qs S = true := by
 have hh := qfk h
 have h0 := h
 simp only [qs, qgx, Bool.and_eq_true, decide_eq_true_eq] at h hh ⊢
 obtain ⟨-, h2, h3, h4⟩ := h
 rw [hm, hs, ht, hw]
 refine ⟨⟨hh.1, hh.2.1, by rw [← hm]; exact hc, hh.2.2.2.1, hy⟩, q8b fun i hi => ?_, q8b fun i hi => zdi E hs (q9b h3 hi), q8b fun i hi => z84 E hs (q9b h4 hi)⟩
 rcases Nat.lt_or_ge i s.cs.length with h5 | h5
 ·exact z6o E h0 hs (qn.2 ⟨by omega, by omega⟩)
 ·exact z66 hf (hn i h5 hi)
end
end
section
section
variable {s : So}
theorem z4t (hv : qs s = true) {c : Ce} (hc : vcR s c = true) : rdB s (qp s c) = true := by
 refine q28.2 ⟨qgl hv hc, fun h0 => ?_⟩
 have hd : qp s c = derN s s.cs.length c := by
  unfold qp
  rw [if_pos hc, qn3 hv hc]
 rw [hd] at h0 ⊢
 refine z49 hv _ c hc (fun h => ?_) h0
 exact q81 hv (q4h hc h).1
theorem z88 (hv : qs s = true) {x : Ce} (hx : rdB s x = true) (h5 : x.t ≠ 5) {a : Int} (h : x.t = 0 → x.n ≠ a) : q9i s (yr x) a = false := by
 have hk : yr x = x := by unfold yr; rw [if_neg h5]
 rw [hk]
 unfold q9i
 by_cases h0 : x.t = 0
 ·exact qbp ((q28.1 hx).2 h0) (h h0) _
 ·unfold q62
  rw [if_neg fun q => h0 q.1]
theorem zdy (hv : qs s = true) {x y : Ce} (hx : rdB s x = true) (hx0 : x.t = 0) (hy : rdB s y = true) (h5 : y.t ≠ 5) (hne : x ≠ y) : q0x vcP q1h s x.n y = true ∧ Sets s x.n y := by
 obtain ⟨t, n⟩ := x
 have hx0 : t = 0 := hx0
 subst hx0
 have hxc := (q28.1 hx).2 rfl
 have hok : q0x vcP q1h s n y = true := by
  simp only [q0x, Bool.and_eq_true, Bool.not_eq_true', qkk hv]
  refine ⟨(q4h (q28.1 hx).1 rfl).1, (q28.1 hy).1, ?_, z88 hv hy h5 fun h0 e => ?_⟩
  ·unfold q1h
   rw [show cellAt s n = ⟨0, n⟩ from hxc]
   simp
  ·obtain ⟨t', n'⟩ := y
   have h0 : t' = 0 := h0
   have e : n' = n := e
   subst h0 e
   exact hne rfl
 exact ⟨hok, qxm hv hok (by rw [show cellAt s n = ⟨0, n⟩ from hxc]; exact .inl rfl)⟩
variable {θ : Ce → Tr}
theorem zdr {a : Int} {c : Ce} (h : Sets s a c) (h5 : c.t ≠ 5) (hself : cellAt s a = ⟨0, a⟩) (hne : c ≠ ⟨0, a⟩) : Mod (q0a s a c) θ ↔ Mod s θ ∧ θ ⟨0, a⟩ = θ c := by
 have hk : yr c = c := by unfold yr; rw [if_neg h5]
 have hat : ∀ {i : Int}, inS s i = true → cellAt (q0a s a c) i = if i = a then c else cellAt s i := fun {i} hi => by rw [qeg h.i hi, hk]
 have hc4 : c.t ≠ 4 := fun e => by
  rcases z1d h.vc with h | h | h | h | h <;> omega
 have htr : ∀ {i : Int}, inS s i = true → (θ ⟨0, a⟩ = θ c) → θ (cellAt (q0a s a c) i) = θ (cellAt s i) := fun {i} hi he => by
  rw [hat hi]
  split
  ·rename_i e
   rw [e, hself, he]
  ·rfl
 have hfun : ∀ p, q08 s p = 4 → cellAt (q0a s a c) p = cellAt s p ∧ ∀ j : Nat, j < (arS s (cellAt s p).n).toNat → inS s (p + 1 + j) = true := fun p hp => by
  have hin : inS s p = true := qbe (by omega)
  refine ⟨?_, fun j hj => ?_⟩
  ·rw [hat hin, if_neg fun e => ?_]
   rw [z9 hin, e, hself] at hp
   cases hp
  ·obtain ⟨-, -, ha⟩ := qf1 h.v hin (by rw [z9 hin] at hp; exact hp)
   exact (ha j (by omega)).1
 have har : ∀ n, arS (q0a s a c) n = arS s n := fun n => zhx n
 have hsy : ∀ n, q3q (q0a s a c) n = q3q s n := fun n => rfl
 constructor
 ·intro m
  have hac : θ ⟨0, a⟩ = θ c := by
   have := m.ref a (by rw [q4c]; exact h.i) (by rw [hat h.i, if_pos rfl]; exact hc4) (by rw [hat h.i, if_pos rfl]; exact hne)
   rw [hat h.i, if_pos rfl] at this
   exact this
  refine ⟨⟨m.int, fun n hn => m.atm n hn, fun p hp => ?_, fun p hi h4 hn => ?_⟩, hac⟩
  ·obtain ⟨q1, q2⟩ := hfun p hp
   have := m.str p ((zdx h p).2 hp)
   rw [q1] at this
   rw [this]
   exact qnj fun j hj => htr (q2 j hj) hac
  ·have hpa : p ≠ a := fun e => hn (by rw [e, hself])
   have := m.ref p (by rw [q4c]; exact hi) (by rw [hat hi, if_neg hpa]; exact h4) (by rw [hat hi, if_neg hpa]; exact hn)
   rw [hat hi, if_neg hpa] at this
   exact this
 ·rintro ⟨m, hac⟩
  refine ⟨m.int, fun n hn => m.atm n hn, fun p hp => ?_, fun p hi h4 hn => ?_⟩
  ·have hp := (zdx h p).1 hp
   obtain ⟨q1, q2⟩ := hfun p hp
   rw [q1, m.str p hp]
   exact qnj fun j hj => (htr (q2 j hj) hac).symm
  ·rw [q4c] at hi
   by_cases hpa : p = a
   ·subst hpa
    rw [hat hi, if_pos rfl]
    exact hac
   ·rw [hat hi, if_neg hpa] at h4 hn ⊢
    exact m.ref p hi h4 hn
theorem z6t {a : Int} {c : Ce} (h : Sets s a c) (hn : qdu s) (h5 : c.t ≠ 5) : qdu (q0a s a c) := fun i hi => by
 rw [q4c] at hi
 have hk : yr c = c := by unfold yr; rw [if_neg h5]
 rw [qeg h.i hi, hk]
 split
 ·exact h5
 ·exact hn i hi
theorem zcc (hg : q1n s = true) (hn : qdu s) {x y : Ce} (hx : rdB s x = true) (hy : rdB s y = true) (kx : x.t = 0 ∨ x.t = 1 ∨ x.t = 2 ∨ x.t = 3) (ky : y.t = 0 ∨ y.t = 1 ∨ y.t = 2 ∨ y.t = 3) (hne : x ≠ y) :
  ((ji s x y).1 = true ∧ qdu (ji s x y).2 ∧ (∀ θ, Mod (ji s x y).2 θ ↔ Mod s θ ∧ θ x = θ y) ∧ ∀ c, c.t ≠ 5 → vcR (ji s x y).2 c = vcR s c) ∨ (ji s x y = (false, s) ∧ x.t ≠ 0 ∧ y.t ≠ 0) := by
 have hv : qs s = true := by
  simp only [q1n, Bool.and_eq_true] at hg
  exact hg.2
 have one : ∀ {u z : Ce}, rdB s u = true → u.t = 0 → rdB s z = true → z.t ≠ 5 → u ≠ z → okI (qm6 s u.n z) = (true, q0a s u.n z) ∧ qdu (q0a s u.n z) ∧ (∀ θ, Mod (q0a s u.n z) θ ↔ Mod s θ ∧ θ u = θ z) ∧ ∀ c, c.t ≠ 5 → vcR (q0a s u.n z) c = vcR s c := fun {u z} hu hu0 hz hz5 huz => by
  obtain ⟨h1, h2⟩ := zdy hv hu hu0 hz hz5 huz
  obtain ⟨t, n⟩ := u
  have hu0 : t = 0 := hu0
  subst hu0
  refine ⟨by simp [okI, qm6, h1], z6t h2 hn hz5, fun θ => zdr h2 hz5 ((q28.1 hu).2 rfl) fun e => huz e.symm, fun c hc => qhl h2 hc⟩
 unfold ji
 split
 ·rename_i hc
  obtain ⟨h1, h2, h3, h4⟩ := one hy hc.1 hx (by omega) fun e => hne e.symm
  rw [h1]
  exact .inl ⟨rfl, h2, fun θ => (h3 θ).trans ⟨fun h => ⟨h.1, h.2.symm⟩, fun h => ⟨h.1, h.2.symm⟩⟩, h4⟩
 ·rename_i hc
  split
  ·rename_i hx0
   obtain ⟨h1, h2, h3, h4⟩ := one hx hx0 hy (by omega) hne
   rw [h1]
   exact .inl ⟨rfl, h2, h3, h4⟩
  ·rename_i hx0
   rw [if_neg (by omega), if_neg (by omega)]
   exact .inr ⟨rfl, hx0, fun hy0 => hc ⟨hy0, .inl hx0⟩⟩
def Sol (θ : Ce → Tr) (l : List (Ce × Ce)) : Prop := ∀ p ∈ l, θ p.1 = θ p.2
theorem q2h {p : Ce × Ce} {l : List (Ce × Ce)} : Sol θ (p :: l) ↔ θ p.1 = θ p.2 ∧ Sol θ l := by simp [Sol]
theorem qy1 {l m : List (Ce × Ce)} : Sol θ (l ++ m) ↔ Sol θ l ∧ Sol θ m := by
 simp only [Sol, List.mem_append]
 exact ⟨fun h => ⟨fun p hp => h p (.inl hp), fun p hp => h p (.inr hp)⟩, fun h p hp => hp.elim (h.1 p) (h.2 p)⟩
def zbt (s : So) (l : List (Ce × Ce)) (r : Int × So) : Prop :=
 (r.1 = 0 ∧ q1n r.2 = true ∧ qdu r.2 ∧ (∀ θ, Mod r.2 θ ↔ Mod s θ ∧ Sol θ l) ∧ ∀ c, c.t ≠ 5 → vcR r.2 c = vcR s c) ∨ r.1 = 2 ∨ (r.1 = 4 ∧ ∀ θ, ¬ (Mod s θ ∧ Sol θ l))
theorem z4e {x : Ce} (h : x.t ≠ 3) : jb s x < 0 := by
 unfold jb
 rw [if_neg fun q => h q.1]
 decide
theorem qw4 {x : Ce} (hx : vcR s x = true) (h : x.t = 3) : q08 s x.n = 4 ∧ jb s x = (cellAt s x.n).n := by
 have h4 : q08 s x.n = 4 := by simpa [vcR, h] using hx
 have hin : inS s x.n = true := qbe (by omega)
 refine ⟨h4, ?_⟩
 unfold jb
 rw [if_pos ⟨h, hin, by rw [z9 hin] at h4; exact h4⟩]
theorem z99 (hv : qs s = true) {m n : Int} (hm : 0 ≤ arS s m) (hn : 0 ≤ arS s n) (h1 : (q3q s m).name = (q3q s n).name) (h2 : arS s m = arS s n) : m = n := by
 obtain ⟨a1, a2, a3⟩ := q6w hm
 obtain ⟨b1, b2, b3⟩ := q6w hn
 have hnd := (qhx.1 (qmv hv)).2.1
 have he : s.ys.getD m.toNat default = s.ys.getD n.toNat default := by
  have e1 : (s.ys.getD m.toNat default).ar = (s.ys.getD n.toNat default).ar := by rw [← a3, ← b3, h2]
  have e2 : (s.ys.getD m.toNat default).name = (s.ys.getD n.toNat default).name := h1
  generalize s.ys.getD m.toNat default = u at e1 e2
  generalize s.ys.getD n.toNat default = v at e1 e2
  cases u
  cases v
  simp_all
 have hlm : m.toNat < s.ys.length := by omega
 have hln : n.toNat < s.ys.length := by omega
 rw [List.getD_eq_getElem?_getD, List.getD_eq_getElem?_getD, List.getElem?_eq_getElem hlm, List.getElem?_eq_getElem hln] at he
 have he' : s.ys[m.toNat] = s.ys[n.toNat] := by simpa using he
 rcases Nat.lt_trichotomy m.toNat n.toNat with h | h | h
 ·exact absurd he' (List.pairwise_iff_getElem.1 hnd _ _ hlm hln h)
 ·omega
 ·exact absurd he'.symm (List.pairwise_iff_getElem.1 hnd _ _ hln hlm h)
theorem qmw : ∀ (k : Nat) (s : So) (l : List (Ce × Ce)), q1n s = true → qdu s → (∀ p ∈ l, (vcR s p.1 = true ∧ p.1.t ≠ 5) ∧ vcR s p.2 = true ∧ p.2.t ≠ 5) → zbt s l (q2m (q0t ji) k s l)
 | 0, s, [], hg, hn, _ => .inl ⟨rfl, hg, hn, fun θ => ⟨fun h => ⟨h, fun p hp => by cases hp⟩, fun h => h.1⟩, fun _ _ => rfl⟩
 | 0, s, _ :: _, hg, hn, _ => .inr (.inl rfl)
 | k + 1, s, [], hg, hn, _ => .inl ⟨rfl, hg, hn, fun θ => ⟨fun h => ⟨h, fun p hp => by cases hp⟩, fun h => h.1⟩, fun _ _ => rfl⟩
 | k + 1, s, (a, b) :: l, hg, hn, hl => by
  have hv : qs s = true := by
   simp only [q1n, Bool.and_eq_true] at hg
   exact hg.2
  obtain ⟨⟨ha, ha5⟩, hb, hb5⟩ := hl (a, b) List.mem_cons_self
  have hl' := fun p hp => hl p (List.mem_cons_of_mem _ hp)
  have hx := z4t hv ha
  have hy := z4t hv hb
  have kx := qo4 hv hn ha ha5
  have ky := qo4 hv hn hb hb5
  have hxa : ∀ {θ}, Mod s θ → θ (qp s a) = θ a := fun m => m.der hv ha
  have hyb : ∀ {θ}, Mod s θ → θ (qp s b) = θ b := fun m => m.der hv hb
  unfold q2m
  simp only [q0t, z30 hv]
  by_cases he : qp s a = qp s b
  ·rw [if_pos he]
   rcases qmw k s l hg hn hl' with ⟨h1, h2, h3, h4, h5⟩ | h | ⟨h1, h2⟩
   ·refine .inl ⟨h1, h2, h3, fun θ => (h4 θ).trans ⟨fun ⟨m, q⟩ => ⟨m, q2h.2 ⟨?_, q⟩⟩, fun ⟨m, q⟩ => ⟨m, (q2h.1 q).2⟩⟩, h5⟩
    show θ a = θ b
    rw [← hxa m, ← hyb m, he]
   ·exact .inr (.inl h)
   ·exact .inr (.inr ⟨h1, fun θ ⟨m, q⟩ => h2 θ ⟨m, (q2h.1 q).2⟩⟩)
  ·rw [if_neg he]
   have hgb : q1n (ji s (qp s a) (qp s b)).2 = true := by
    refine z6m hv ?_ (qn5.2 (.inl hx)) (qn5.2 (.inl hy)) he
    simp only [q1n, Bool.and_eq_true] at hg
    exact hg.1
   rcases zcc hg hn hx hy kx ky he with ⟨h1, h2, h3, h4⟩ | ⟨h1, hx0, hy0⟩
   ·rw [if_pos h1]
    rcases qmw k _ l hgb h2 (fun p hp => by
     obtain ⟨⟨q1, q2⟩, q3, q4⟩ := hl' p hp
     exact ⟨⟨by rw [h4 _ q2]; exact q1, q2⟩, by rw [h4 _ q4]; exact q3, q4⟩) with ⟨g1, g2, g3, g4, g5⟩ | h | ⟨g1, g2⟩
    ·refine .inl ⟨g1, g2, g3, fun θ => (g4 θ).trans ?_, fun c hc => (g5 c hc).trans (h4 c hc)⟩
     rw [h3 θ]
     constructor
     ·rintro ⟨⟨m, q⟩, r⟩
      exact ⟨m, q2h.2 ⟨by show θ a = θ b; rw [← hxa m, ← hyb m, q], r⟩⟩
     ·rintro ⟨m, q⟩
      obtain ⟨q1, q2⟩ := q2h.1 q
      have q1 : θ a = θ b := q1
      exact ⟨⟨m, by rw [hxa m, hyb m, q1]⟩, q2⟩
    ·exact .inr (.inl h)
    ·refine .inr (.inr ⟨g1, fun θ ⟨m, q⟩ => g2 θ ⟨(h3 θ).2 ⟨m, ?_⟩, (q2h.1 q).2⟩⟩)
     rw [hxa m, hyb m]
     exact (q2h.1 q).1
   ·rw [h1]
    simp only [Bool.false_eq_true, if_false]
    generalize hX : qp s a = x at hx hy kx ky he hx0 hxa
    generalize hY : qp s b = y at hx hy kx ky he hy0 hyb
    have hxv := (q28.1 hx).1
    have hyv := (q28.1 hy).1
    -- a clash
    have clash : (∀ θ, Mod s θ → θ x ≠ θ y) → zbt s ((a, b) :: l) (4, s) := fun h => .inr (.inr ⟨rfl, fun θ ⟨m, q⟩ => h θ m (by rw [hxa m, hyb m]; exact (q2h.1 q).1)⟩)
    by_cases hx3 : x.t = 3
    ·obtain ⟨x4, xs⟩ := qw4 hxv hx3
     have hxi : inS s x.n = true := qbe (by omega)
     obtain ⟨xa, -, xargs⟩ := qf1 hv hxi (by rw [z9 hxi] at x4; exact x4)
     have hxr := q6w (s := s) (n := (cellAt s x.n).n) (by omega)
     have hxm : ∀ {θ}, Mod s θ → θ x = q09 (q3q s (cellAt s x.n).n).name (arS s (cellAt s x.n).n).toNat fun j => θ (cellAt s (x.n + 1 + (j : Nat))) := fun {θ} m => by
      have := m.str x.n x4
      have e : (⟨3, x.n⟩ : Ce) = x := by
       obtain ⟨t, n⟩ := x
       have hx3 : t = 3 := hx3
       rw [hx3]
      rw [e] at this
      exact this
     by_cases hy3 : y.t = 3
     ·obtain ⟨y4, ys⟩ := qw4 hyv hy3
      have hyi : inS s y.n = true := qbe (by omega)
      obtain ⟨ya, -, yargs⟩ := qf1 hv hyi (by rw [z9 hyi] at y4; exact y4)
      have hyr := q6w (s := s) (n := (cellAt s y.n).n) (by omega)
      have hym : ∀ {θ}, Mod s θ → θ y = q09 (q3q s (cellAt s y.n).n).name (arS s (cellAt s y.n).n).toNat fun j => θ (cellAt s (y.n + 1 + (j : Nat))) := fun {θ} m => by
       have := m.str y.n y4
       have e : (⟨3, y.n⟩ : Ce) = y := by
        obtain ⟨t, n⟩ := y
        have hy3 : t = 3 := hy3
        rw [hy3]
       rw [e] at this
       exact this
      by_cases hs : (cellAt s x.n).n = (cellAt s y.n).n
      ·rw [if_neg (by rw [xs, ys, hs]; omega)]
       have hsx : ¬ jb s x < 0 := by rw [xs]; omega
       have hsy : ¬ jb s y < 0 := by rw [ys]; omega
       obtain ⟨l1, -, -, -, -, l2⟩ := qtr hv hsx
       obtain ⟨m1, -, -, -, -, m2⟩ := qtr hv hsy
       have hk : jb s x = jb s y := by rw [xs, ys, hs]
       have hlen : (q1e s x).length = (q1e s y).length := by rw [l1, m1, hk]
       have hkn : (q1e s x).length = (arS s (cellAt s x.n).n).toNat := by rw [l1, xs]
       have hsol : ∀ {θ}, Mod s θ → (Sol θ ((q1e s x).zip (q1e s y)) ↔ θ x = θ y) := fun {θ} m => by
        rw [hxm m, hym m, hs]
        constructor
        ·intro q
         refine qnj fun j hj => ?_
         have hj1 : j < (q1e s x).length := by rw [hkn, hs]; exact hj
         have hj2 : j < (q1e s y).length := by omega
         have hjz : j < ((q1e s x).zip (q1e s y)).length := by rw [List.length_zip]; omega
         have := q ((q1e s x).zip (q1e s y))[j] (List.getElem_mem hjz)
         rw [List.getElem_zip] at this
         have e1 := (l2 j hj1)
         have e2 := (m2 j hj2)
         rw [List.getD_eq_getElem?_getD, List.getElem?_eq_getElem hj1] at e1
         rw [List.getD_eq_getElem?_getD, List.getElem?_eq_getElem hj2] at e2
         simp only [Option.getD_some] at e1 e2
         simp only [e1, e2] at this
         exact this
        ·intro q p hp
         obtain ⟨j, hj, rfl⟩ := List.mem_iff_getElem.1 hp
         have hj' : j < (q1e s x).length ∧ j < (q1e s y).length := by rw [List.length_zip] at hj; omega
         have := (qgq q).2.2 j (by rw [← hs, ← hkn]; exact hj'.1)
         rw [List.getElem_zip]
         have e1 := (l2 j hj'.1)
         have e2 := (m2 j hj'.2)
         rw [List.getD_eq_getElem?_getD, List.getElem?_eq_getElem hj'.1] at e1
         rw [List.getD_eq_getElem?_getD, List.getElem?_eq_getElem hj'.2] at e2
         simp only [Option.getD_some] at e1 e2
         simp only [e1, e2]
         exact this
       have hvs : ∀ p ∈ (q1e s x).zip (q1e s y), (vcR s p.1 = true ∧ p.1.t ≠ 5) ∧ vcR s p.2 = true ∧ p.2.t ≠ 5 := fun p hp => by
        obtain ⟨j, hj, rfl⟩ := List.mem_iff_getElem.1 hp
        have hj' : j < (q1e s x).length ∧ j < (q1e s y).length := by rw [List.length_zip] at hj; omega
        rw [List.getElem_zip]
        have e1 := (l2 j hj'.1)
        have e2 := (m2 j hj'.2)
        rw [List.getD_eq_getElem?_getD, List.getElem?_eq_getElem hj'.1] at e1
        rw [List.getD_eq_getElem?_getD, List.getElem?_eq_getElem hj'.2] at e2
        simp only [Option.getD_some] at e1 e2
        simp only [e1, e2]
        have a1 := xargs j (by rw [hkn] at hj'; omega)
        have a2 := yargs j (by rw [← hlen, hkn, hs] at hj'; omega)
        exact ⟨⟨a1.2, hn _ a1.1⟩, a2.2, hn _ a2.1⟩
       rcases qmw k s ((q1e s x).zip (q1e s y) ++ l) hg hn (fun p hp => by
        rcases List.mem_append.1 hp with h | h
        ·exact hvs p h
        ·exact hl' p h) with ⟨g1, g2, g3, g4, g5⟩ | h | ⟨g1, g2⟩
       ·refine .inl ⟨g1, g2, g3, fun θ => (g4 θ).trans ⟨fun ⟨m, q⟩ => ⟨m, ?_⟩, fun ⟨m, q⟩ => ⟨m, ?_⟩⟩, g5⟩
        ·obtain ⟨q1, q2⟩ := qy1.1 q
         refine q2h.2 ⟨?_, q2⟩
         show θ a = θ b
         rw [← hxa m, ← hyb m]
         exact (hsol m).1 q1
        ·obtain ⟨q1, q2⟩ := q2h.1 q
         refine qy1.2 ⟨(hsol m).2 ?_, q2⟩
         rw [hxa m, hyb m]
         exact q1
       ·exact .inr (.inl h)
       ·refine .inr (.inr ⟨g1, fun θ ⟨m, q⟩ => g2 θ ⟨m, ?_⟩⟩)
        obtain ⟨q1, q2⟩ := q2h.1 q
        refine qy1.2 ⟨(hsol m).2 ?_, q2⟩
        rw [hxa m, hyb m]
        exact q1
      ·rw [if_pos (by rw [xs, ys]; exact .inr hs)]
       refine clash fun θ m e => hs ?_
       rw [hxm m, hym m] at e
       obtain ⟨e1, e2, -⟩ := qgq e
       exact z99 hv (by omega) (by omega) e1 (by omega)
     ·rw [if_pos (.inr (by rw [xs]; have := z4e (s := s) hy3; omega))]
      refine clash fun θ m e => ?_
      rw [hxm m] at e
      obtain ⟨t, n⟩ := y
      have ky : t = 1 ∨ t = 2 := by simp only at hy3 hy0 ky; omega
      rcases ky with rfl | rfl
      ·rw [m.int] at e
       exact q1w (fun _ _ => by simp) e
      ·rw [m.atm n (by simpa [vcR] using hyv)] at e
       exact q1w (fun _ _ => by simp) e
    ·rw [if_pos (.inl (z4e hx3))]
     refine clash fun θ m e => ?_
     have kx' : x.t = 1 ∨ x.t = 2 := by omega
     have hym : y.t = 3 → ∃ nm k f, θ y = q09 nm k f := fun hy3 => by
      obtain ⟨y4, -⟩ := qw4 hyv hy3
      have := m.str y.n y4
      have e : (⟨3, y.n⟩ : Ce) = y := by
       obtain ⟨t, n⟩ := y
       have hy3 : t = 3 := hy3
       rw [hy3]
      rw [e] at this
      exact ⟨_, _, _, this⟩
     have hxl : (x.t = 1 ∧ θ x = jj (.i x.n)) ∨ (x.t = 2 ∧ arS s x.n = 0 ∧ θ x = jj (.at (q3q s x.n).name)) := by
      obtain ⟨t, n⟩ := x
      rcases kx' with h | h
      ·have h : t = 1 := h
       subst h
       exact .inl ⟨rfl, m.int n⟩
      ·have h : t = 2 := h
       subst h
       have h0 : arS s n = 0 := by simpa [vcR] using hxv
       exact .inr ⟨rfl, h0, m.atm n h0⟩
     by_cases hy3 : y.t = 3
     ·obtain ⟨nm, k, f, h⟩ := hym hy3
      rw [h] at e
      rcases hxl with ⟨-, h⟩ | ⟨-, -, h⟩ <;> rw [h] at e <;> exact q1w (fun _ _ => by simp) e.symm
     ·have hyl : (y.t = 1 ∧ θ y = jj (.i y.n)) ∨ (y.t = 2 ∧ arS s y.n = 0 ∧ θ y = jj (.at (q3q s y.n).name)) := by
       obtain ⟨t, n⟩ := y
       have ky : t = 1 ∨ t = 2 := by simp only at hy3 hy0 ky; omega
       rcases ky with rfl | rfl
       ·exact .inl ⟨rfl, m.int n⟩
       ·have h0 : arS s n = 0 := by simpa [vcR] using hyv
        exact .inr ⟨rfl, h0, m.atm n h0⟩
      refine he ?_
      rcases hxl with ⟨t1, h1⟩ | ⟨t1, z1, h1⟩ <;> rcases hyl with ⟨t2, h2⟩ | ⟨t2, z2, h2⟩ <;> rw [h1, h2] at e <;> have e := qbc e
      ·injection e with e
       cases x
       cases y
       simp_all
      ·cases e
      ·cases e
      ·injection e with e
       have := z99 hv (by omega) (by omega) e (z1.trans z2.symm)
       cases x
       cases y
       simp_all
end
end
def Fr (all : List Vc) (n : Nat) (H : Nat → Prop) : Prop := ∀ v c, ofV all v = some c → ∃ p : Nat, c = ⟨0, p⟩ ∧ p < n ∧ ¬ H p
def Inj (all : List Vc) : Prop := ∀ v w c, ofV all v = some c → ofV all w = some c → v = w
theorem Inj.ins {all : List Vc} {n : Int} {c : Ce} (h : Inj all) (ho : ofV all n = none) (hc : ∀ v, ofV all v ≠ some c) : Inj (q6s all n c) := fun v w d hv hw => by
 rw [q44 ho] at hv hw
 split at hv <;> split at hw
 ·rename_i h1 h2; exact h1.trans h2.symm
 ·cases hv; exact absurd hw (hc w)
 ·cases hw; exact absurd hv (hc v)
 ·exact h v w d hv hw
mutual
theorem qzt : ∀ (t : Te) (q : Sv) (a : Int) (H : Nat → Prop), qu t = true → SV q.2 → Fr q.2 q.1.cs.length H → (0 ≤ a → H a.toNat) → (∀ p, H p → p < q.1.cs.length) → Inj q.2 → Inj (qr q t a).2.2 ∧ Fr (qr q t a).2.2 (qr q t a).2.1.cs.length (fun p => H p ∧ (p : Int) ≠ a)
 | .mk k n nm l, q, a, H, hn, hs, hf, ha, hH, hi => by
  have hm := q6n (a := a) hn hs
  rw [qu, Bool.and_eq_true] at hn
  rcases q05 hn.1 with ⟨rfl, rfl, h1, h2⟩ | ⟨rfl, rfl⟩ | ⟨rfl, rfl, h1⟩ | ⟨rfl, h1, h2, h3⟩
  ·rw [q61] at hm ⊢
   cases ho : ofV q.2 n with
   | some c =>
    simp only [ho] at hm ⊢
    exact ⟨hi, fun v c hv => (hf v c hv).imp fun p ⟨e1, e2, e3⟩ => ⟨e1, e2, fun q => e3 q.1⟩⟩
   | none =>
    by_cases h0 : a < 0
    ·simp only [ho, if_pos h0] at hm ⊢
     refine ⟨hi.ins ho fun v hv => ?_, fun v c hv => ?_⟩
     ·obtain ⟨p, e1, e2, -⟩ := hf v _ hv
      have := congrArg Ce.n e1
      simp only at this
      omega
     ·rw [q44 ho] at hv
      split at hv
      ·cases hv
       exact ⟨_, rfl, by simp, fun h => absurd (hH _ h.1) (Nat.lt_irrefl _)⟩
      ·obtain ⟨p, e1, e2, e3⟩ := hf v c hv
       exact ⟨p, e1, by omega, fun q => e3 q.1⟩
    ·simp only [ho, if_neg h0] at hm ⊢
     have e : (a.toNat : Int) = a := Int.toNat_of_nonneg (by omega)
     have haH := ha (by omega)
     refine ⟨hi.ins ho fun v hv => ?_, fun v c hv => ?_⟩
     ·obtain ⟨p, e1, e2, e3⟩ := hf v _ hv
      have := congrArg Ce.n e1
      simp only at this
      have : p = a.toNat := by omega
      subst this
      exact e3 haH
     ·rw [q44 ho] at hv
      split at hv
      ·cases hv
       exact ⟨a.toNat, by rw [e], hH _ haH, fun h => h.2 e⟩
      ·obtain ⟨p, e1, e2, e3⟩ := hf v c hv
       exact ⟨p, e1, by omega, fun q => e3 q.1⟩
  ·rw [q9j]
   exact ⟨hi, fun v c hv => (hf v c hv).imp fun p ⟨e1, e2, e3⟩ => ⟨e1, e2, fun q => e3 q.1⟩⟩
  ·rw [q9g] at hm ⊢
   exact ⟨hi, fun v c hv => (hf v c hv).imp fun p ⟨e1, e2, e3⟩ => ⟨e1, by have hm := hm; simp only at hm ⊢; omega, fun q => e3 q.1⟩⟩
  ·rw [q9m] at hm ⊢
   have hg := qfq q.1 (yy q.1 nm (l.length : Nat)).1 l.length
   have ih := qu0 l ({ (yy q.1 nm (l.length : Nat)).2 with cs := grow q.1 (yy q.1 nm (l.length : Nat)).1 l.length }, q.2) (q.1.cs.length + 1) (fun p => H p ∨ q.1.cs.length + 1 ≤ p ∧ p < q.1.cs.length + 1 + l.length) hn.2 hs (fun v c hv => by
    obtain ⟨p, e1, e2, e3⟩ := hf v c hv
    refine ⟨p, e1, ?_, ?_⟩
    ·show p < (grow _ _ _).length
     omega
    ·rintro (h | h)
     ·exact e3 h
     ·omega) (fun p hp => by
    show p < (grow _ _ _).length
    rcases hp with h | h
    ·have := hH p h
     omega
    ·omega) (fun i g1 g2 => .inr ⟨g1, g2⟩) hi
   obtain ⟨i1, i2⟩ := ih
   refine ⟨i1, fun v c hv => ?_⟩
   obtain ⟨p, e1, e2, e3⟩ := i2 v c hv
   refine ⟨p, e1, e2, fun h => e3 ⟨.inl h.1, fun r => ?_⟩⟩
   have := hH p h.1
   omega
theorem qu0 : ∀ (l : List Te) (q : Sv) (to : Nat) (H : Nat → Prop), zj l = true → SV q.2 → Fr q.2 q.1.cs.length H → (∀ p, H p → p < q.1.cs.length) → (∀ i, to ≤ i → i < to + l.length → H i) → Inj q.2 → Inj (yc q l to).2 ∧ Fr (yc q l to).2 (yc q l to).1.cs.length (fun p => H p ∧ ¬ (to ≤ p ∧ p < to + l.length))
 | [], q, to, H, _, _, hf, _, _, hi => by
  rw [yc]
  exact ⟨hi, fun v c hv => (hf v c hv).imp fun p ⟨e1, e2, e3⟩ => ⟨e1, e2, fun q => e3 q.1⟩⟩
 | t :: l, q, to, H, hn, hs, hf, hH, hr, hi => by
  rw [zj, Bool.and_eq_true] at hn
  rw [List.length_cons] at hr
  rw [yc]
  have h4 := (q1y t q (to : Nat) hn.1 hs).2.2.2
  have hm := q6n (a := (to : Nat)) hn.1 hs
  obtain ⟨i1, i2⟩ := qzt t q (to : Nat) H hn.1 hs hf (fun _ => by rw [Int.toNat_natCast]; exact hr to (Nat.le_refl _) (by omega)) hH hi
  have hL := q39 (qr q t (to : Nat)).2.1 to (qr q t (to : Nat)).1
  obtain ⟨j1, j2⟩ := qu0 l (q90 (qr q t (to : Nat)).2.1 to (qr q t (to : Nat)).1, (qr q t (to : Nat)).2.2) (to + 1) (fun p => H p ∧ (p : Int) ≠ (to : Nat)) hn.2 h4 (by rw [hL]; exact i2) (fun p hp => by
   rw [hL]
   have := hH p hp.1
   omega) (fun i g1 g2 => ⟨hr i (by omega) (by omega), by omega⟩) i1
  refine ⟨j1, fun v c hv => ?_⟩
  obtain ⟨p, e1, e2, e3⟩ := j2 v c hv
  refine ⟨p, e1, e2, fun h => e3 ⟨⟨h.1, fun r => ?_⟩, fun r => ?_⟩⟩
  ·have h2 := h.2
   rw [List.length_cons] at h2
   omega
  ·have h2 := h.2
   rw [List.length_cons] at h2
   omega
end
theorem z8p {l : List Vc} (h : SV l) {x : Vc} (hx : x ∈ l) : ofV l x.v = some x.c := by
 have h1 := h.1
 clear h
 induction l with
 | nil => cases hx
 | cons y l ih =>
  rw [List.pairwise_cons] at h1
  rw [ofV]
  rcases List.mem_cons.1 hx with rfl | hx
  ·rw [if_pos rfl]
  ·have := h1.1 x hx
   rw [if_neg (by omega)]
   exact ih hx h1.2
def fOf (all : List Vc) (v : Int) : Ce := yr ((ofV all v).getD default)
theorem q8r {all : List Vc} {v : Int} {c : Ce} (h : ofV all v = some c) : fOf all v = yr c := by rw [fOf, h]; rfl
structure PutOk (s : So) (t : Te) (l : List Vc) (c : Ce) (all : List Vc) (S : So) : Prop where
 ext : Ext s S
 rst : Rst s S
 valid : qs S = true
 rep : Rh S (fOf all) t c
 sv : SV all
 of : ∀ v d, ofV l v = some d → ofV all v = some d
 new : ∀ v d, ofV all v = some d → ofV l v = some d ∨ ∃ p : Nat, d = ⟨0, p⟩ ∧ S.cs[p]? = some d
 vc : vcR S c = true
 vv : vvP S all = true
 len : S.cs.length = s.cs.length + q7k t l
 ys : ∃ m, S.ys = s.ys ++ m
 vars : ∀ v, v ∈ zm (l.map Vc.v) t ↔ (ofV all v).isSome = true
 varsG : ∀ vs : List Int, (∀ v, v ∈ vs ↔ (ofV l v).isSome = true) → (∀ v, v ∈ zm vs t ↔ (ofV all v).isSome = true) ∧ all.length + vs.length = l.length + (zm vs t).length
 cnt : all.length = (zm (l.map Vc.v) t).length
 inj : ∀ H : Inj l, (∀ v d, ofV l v = some d → ∃ p : Nat, d = ⟨0, p⟩ ∧ p < s.cs.length) → Inj all ∧ ∀ v d, ofV all v = some d → ∃ p : Nat, d = ⟨0, p⟩ ∧ p < S.cs.length
theorem mem_of {l : List Vc} (v : Int) : v ∈ l.map Vc.v ↔ (ofV l v).isSome = true := by
 induction l with
 | nil => simp [ofV]
 | cons x l ih =>
  rw [List.map_cons, List.mem_cons, ih, ofV]
  by_cases h : x.v = v
  ·simp [h]
  ·have h' : ¬ v = x.v := fun e => h e.symm
   simp [h, h']
theorem z6w {s S : So} (h : qs s = true) (E : Ext s S) (hl : 0 < S.cs.length) {c : Ce} (hc : vcR s c = true) : Vgood S (yr c) := by
 have hL := E.len
 unfold yr
 split
 ·rename_i h5
  have ht : q08 s c.n = 5 := by
   unfold vcR at hc
   rw [if_neg (by omega), if_neg (by omega), if_neg (by omega), if_neg (by omega), if_pos h5] at hc
   exact of_decide_eq_true hc
  have hi := q2s (by decide) ht
  have hT := E.tag (qn.1 hi).2
  have hI := (E.inS hi).1
  refine ⟨?_, fun h => absurd h (by decide : ¬ (0 : Int) = 5), fun _ => ?_⟩
  ·unfold vcR
   rw [if_pos rfl]
   simp only [hI, hT, ht]
   rfl
  ·obtain ⟨k, hk⟩ : ∃ k, S.cs.length = k + 1 := ⟨S.cs.length - 1, by omega⟩
   rw [hk]
   exact q37 fun q => by have := q.1; simp only [hT, ht] at this; omega
 ·rename_i h5
  refine ⟨E.vc hc, h5, fun h0 => ?_⟩
  have := (q4h hc h0).1
  exact qbr hL (E.ends h _ _ this (q81 h this))
theorem qiq {S : So} {p : Nat} (h : S.cs[p]? = some ⟨0, p⟩) : Vgood S ⟨0, p⟩ := by
 obtain ⟨h1, h2⟩ := cell_of h
 have hl := (List.getElem?_eq_some_iff.1 h).1
 refine ⟨?_, fun h => absurd h (by decide : ¬ (0 : Int) = 5), fun _ => ?_⟩
 ·unfold vcR
  rw [if_pos rfl]
  simp only [h1, z9 h1, h2]
  rfl
 ·obtain ⟨k, hk⟩ : ∃ k, S.cs.length = k + 1 := ⟨S.cs.length - 1, by omega⟩
  rw [hk]
  refine q37 fun q => q.2 ?_
  show (cellAt S (p : Nat)).n = _
  rw [h2]
theorem z85 {s : So} {t : Te} {l : List Vc} (hs : qs s = true) (ht : qi t = true) (hl : vvP s l = true) (hr : qb2 s t l = true) : PutOk s t l (qr (s, l) t (-1)).1 (qr (s, l) t (-1)).2.2 (qr (s, l) t (-1)).2.1 := by
 have hA := zca hs ht hl hr
 simp only [zgt, Bool.and_eq_true, decide_eq_true_eq] at hA
 obtain ⟨hn, hsv, hcs, hmx, hys, -⟩ := hA
 obtain ⟨g1, g2, ⟨r1, r2, r3, r4⟩, g4⟩ := q1y t (s, l) (-1) hn hsv
 have hk := fun i h => quu t (s, l) (-1) i hn hsv h
 have hof := z5r t (s, l) (-1) hn
 obtain ⟨v1, v2⟩ := qj9 t (s, l) (-1) (l.map Vc.v) hn (fun v => mem_of v)
 have hvg := fun vs h => qj9 t (s, l) (-1) vs hn h
 have hnew := z18 (S := (qr (s, l) t (-1)).2.1) t (s, l) (-1) hn hsv (fun i _ _ => rfl) (fun h => absurd h (by decide))
 have hinj := fun H h1 h2 h3 h4 => qzt t (s, l) (-1) H hn hsv h1 h2 h3 h4
 have hm := q6n (a := -1) (q := (s, l)) hn hsv
 rw [if_pos (by decide)] at g1 hcs
 obtain ⟨hd1, hd2, hd3, hd4⟩ := z4q hs
 obtain ⟨m, hpre⟩ := qti t s.ys
 have hrep := qzp (S := (qr (s, l) t (-1)).2.1) (f := fOf (qr (s, l) t (-1)).2.2) (P := fun u => qu u = true ∧ inV (zm (l.map Vc.v) t) u) (fun k n nm l' hp u hu => by
  rw [qu, Bool.and_eq_true, qxt] at hp
  exact ⟨q7z.1 hp.1.2 u hu, z13.1 hp.2.2 u hu⟩) t (s, l) (-1) ⟨hn, q5m t _⟩ hn hsv (fun i _ _ => rfl) (fun i y h => h) (fun v c h => q8r h)
 have hcz := qh7 t
 simp only [qi, Bool.and_eq_true, decide_eq_true_eq] at ht
 generalize qr (s, l) t (-1) = R at *
 obtain ⟨rep, news⟩ := hrep
 have E : Ext s R.2.1 := ⟨fun i h => hk i h, hm, fun i y h => by rw [g2]; show (q2x s.ys t)[i]? = _; rw [hpre]; exact z95 h⟩
 have hvs := q3u hs
 have hlv := (qcd.1 hl).2
 have hvP : ∀ c, vcP s c = vcR s c := hvs.vc
 have hsome : ∀ v d, ofV R.2.2 v = some d → Vgood R.2.1 (yr d) := fun v d hv => by
  rcases hnew v d hv with h | ⟨p, e, h, -⟩
  ·have hmem := qve h
   have hvd : vcR s d = true := by rw [← hvP]; exact hlv _ hmem
   have hpos : 0 < R.2.1.cs.length ∨ d.t ≠ 0 ∧ d.t ≠ 5 := by
    rcases Nat.eq_zero_or_pos R.2.1.cs.length with h0 | h0
    ·right
     have hs0 : s.cs.length = 0 := by have : s.cs.length ≤ R.2.1.cs.length := hm; omega
     refine ⟨fun q => ?_, fun q => ?_⟩
     ·have := qn.1 (q4h hvd q).1
      omega
     ·unfold vcR at hvd
      rw [if_neg (by omega), if_neg (by omega), if_neg (by omega), if_neg (by omega), if_pos q] at hvd
      have := qn.1 (q2s (by decide) (of_decide_eq_true hvd))
      omega
    ·exact .inl h0
   rcases hpos with h0 | h0
   ·exact z6w hs E h0 hvd
   ·have : yr d = d := if_neg h0.2
    rw [this]
    exact ⟨E.vc hvd, h0.2, fun q => absurd q h0.1⟩
  ·subst e
   exact qiq h
 have hgood : ∀ v ∈ zm (l.map Vc.v) t, Vgood R.2.1 (fOf R.2.2 v) := fun v hv => by
  have := (v1 v).1 hv
  cases ho : ofV R.2.2 v with
  | none => rw [ho] at this; cases this
  | some d => rw [q8r ho]; exact hsome v d ho
 have hsy : qbl R.2.1.ys = true := by
  have h0 := qhx.1 (qmv hs)
  refine qhx.2 ⟨by rw [g2]; exact hys, ?_⟩
  rw [g2]
  exact z05 t s.ys hn ⟨h0.2.1, h0.2.2⟩
 have hval : qs R.2.1 = true := z76 (V := zm (l.map Vc.v) t) (f := fOf R.2.2) hs E r1 r2 r3 r4 (by rw [g1, r1]; show ((s.cs.length + q7k t l : Nat) : Int) ≤ s.mx; have hcs : (s.cs.length : Int) + ((q7k t l : Nat) : Int) ≤ s.mx := hcs; omega) hsy hgood news
 have hvP2 : ∀ c, vcP R.2.1 c = vcR R.2.1 c := (q3u hval).vc
 refine ⟨E, ⟨r1, r2, r3, r4⟩, hval, rep, g4, hof, fun v d hv => (hnew v d hv).imp id fun ⟨p, e, h, _⟩ => ⟨p, e, h⟩, (qh6 hgood (q5m t _) hn rep).vc, qcd.2 ⟨g4, fun x hx => ?_⟩, g1, ⟨m, by rw [g2]; exact hpre⟩, v1, hvg, ?_, fun H hb => ?_⟩
 ·rw [hvP2]
  rcases hnew _ _ (z8p g4 hx) with h | ⟨p, e, h, -⟩
  ·exact E.vc (by rw [← hvP]; exact hlv _ (qve h))
  ·rw [e] at h ⊢
   exact (qiq h).vc
 ·rw [List.length_map] at v2
  have v2 : R.2.2.length + l.length = l.length + (zm (l.map Vc.v) t).length := v2
  omega
 ·obtain ⟨i1, i2⟩ := hinj (fun _ => False) (fun v c hv => (hb v c hv).imp fun p ⟨e1, e2⟩ => ⟨e1, e2, id⟩) (fun h => absurd h (by decide)) (fun p h => h.elim) H
  exact ⟨i1, fun v d hv => (i2 v d hv).imp fun p ⟨e1, e2, _⟩ => ⟨e1, e2⟩⟩
def qm9 (t : Te) : Te := if qi t then zb4 (zm [] t) t else zT
theorem qpp : FOk q01 (gTT qm9) := qkx q0s qsn ql3 fun ds outs hw hg => by
 obtain ⟨d, r, rfl, hd, rfl⟩ := hw
 obtain ⟨t, rfl, ht⟩ := wfT hd
 simp only [gTT, zb, Option.some.injEq] at hg
 subst hg
 simp only [q59, q9, qd, qa, qb, qc, X.says, X.ev, X.evs, evl, qe, gnA, gnT, gTb, qum, z67, qm9]
 cases hv : qi t
 ·simp [zh2]
 ·have h2 := hv
  simp only [qi, Bool.and_eq_true, decide_eq_true_eq] at h2
  have e : dIs (.r []) = [] := rfl
  have : (dIs (.r [])).length + szT t ≤ 1000000 := by rw [e]; simp; omega
  have h3 : szT t ≤ 1000000 := by omega
  simp only [if_pos this, e]
  simp [h3, q3f]
def zdj (u t : Te) : Bool := qi u && (qi t && decide (qm9 u = qm9 t))
theorem qhn : FOk j3 (qpv zdj) := qga q0s qpp q7c fun ds outs hw hg => by
 obtain ⟨d, r, rfl, hd, e, r', rfl, he, rfl⟩ := hw
 obtain ⟨t, rfl, ht⟩ := wfT hd
 obtain ⟨u, rfl, hu⟩ := wfT he
 simp only [qpv, zb, Option.some.injEq] at hg
 subst hg
 have e1 : idT (qm9 t) (qm9 u) = decide (qm9 t = qm9 u) := by
  rw [Bool.eq_iff_iff, q98, decide_eq_true_eq]
 simp [q3l, q9, qd, qa, qb, qc, X.says, X.ev, X.evs, evl, qe, gnA, gnT, gTb, gTT, qpv, zdj, e1, Bool.and_assoc]
theorem zf1 {t : Te} {f : Int → Int} (hi : ∀ x ∈ zm [] t, ∀ y ∈ zm [] t, f x = f y → x = y) (hr : ∀ x ∈ zm [] t, 0 ≤ f x ∧ f x ≤ 1099511627776) (hv : qi t = true) : zm [] (q34 f t) = (zm [] t).map f ∧ qi (q34 f t) = true ∧ qm9 (q34 f t) = qm9 t := by
 have h1 := qux (f := f) t [] hi
 have h2 := z2k hr (q5m t []) hv
 refine ⟨h1, h2, ?_⟩
 have h1' : zm [] (q34 f t) = (zm [] t).map f := h1
 rw [qm9, qm9, if_pos h2, if_pos hv, h1']
 show q34 _ _ = q34 _ _
 rw [qtm]
 exact qr1 (fun x hx => z03 hx fun y hy e => hi y hy x hx e) t (q5m t [])
def trT (σ : Int → Tr) : List Nat → Te → Option Lab
 | [], t => if t.k = 0 then σ t.n [] else if t.k = 1 then some (.i t.n) else if t.k = 2 then some (.at t.s) else if t.k = 3 then some (.fn t.s t.l.length) else none
 | j :: p, t => if t.k = 0 then σ t.n (j :: p) else if t.k = 3 ∧ j < t.l.length then trT σ p (t.l.getD j default) else none
def zs (σ : Int → Tr) (t : Te) : Tr := fun p => trT σ p t
theorem qnm (σ : Int → Tr) (n : Int) (nm : ByteArray) (l : List Te) : zs σ (.mk 0 n nm l) = σ n := by
 funext p
 match p with
 | [] => rfl
 | j :: p => rfl
theorem qna (σ : Int → Tr) (n : Int) (nm : ByteArray) (l : List Te) : zs σ (.mk 1 n nm l) = jj (.i n) := by
 funext p
 match p with
 | [] => rfl
 | j :: p =>
  simp [zs, trT, jj, Te.k]
theorem qn1 (σ : Int → Tr) (n : Int) (nm : ByteArray) (l : List Te) : zs σ (.mk 2 n nm l) = jj (.at nm) := by
 funext p
 match p with
 | [] => rfl
 | j :: p =>
  simp [zs, trT, jj, Te.k]
theorem qnc (σ : Int → Tr) (n : Int) (nm : ByteArray) (l : List Te) : zs σ (.mk 3 n nm l) = q09 nm l.length fun j => zs σ (l.getD j default) := by
 funext p
 match p with
 | [] => rfl
 | j :: p =>
  simp [zs, trT, q09, Te.k, Te.l]
theorem qz5 {S : So} {f : Int → Ce} {θ : Ce → Tr} (m : Mod S θ) : ∀ (p : List Nat) (t : Te) (c : Ce), Rh S f t c → θ c p = zs (fun v => θ (f v)) t p
 | p, .mk k n nm l, c, h => by
  rw [Rh] at h
  rcases h with ⟨rfl, rfl⟩ | ⟨rfl, rfl⟩ | ⟨rfl, h2, y, hn, hy⟩ | ⟨rfl, h3, q, y, hn, hq, hy, hs⟩
  ·rw [qnm]
  ·rw [qna, m.int]
  ·rw [qn1]
   obtain ⟨a1, a2⟩ := qv3 hy
   have e : c = ⟨2, (y : Int)⟩ := by
    obtain ⟨t, n'⟩ := c
    simp only at h2 hn
    rw [h2, hn]
   rw [e, m.atm _ a1, a2]
  ·rw [qnc]
   obtain ⟨a1, a2⟩ := qv3 hy
   obtain ⟨i1, i2⟩ := cell_of hq
   have e : c = ⟨3, (q : Int)⟩ := by
    obtain ⟨t, n'⟩ := c
    simp only at h3 hn
    rw [h3, hn]
   have h4 : q08 S q = 4 := by rw [z9 i1, i2]
   rw [e, m.str _ h4, i2]
   show q09 (q3q S (y : Int)).name (arS S (y : Int)).toNat _ p = _
   rw [a1, a2]
   match p with
   | [] => simp [q09]
   | j :: p =>
    show (if j < ((l.length : Nat) : Int).toNat then _ else none) = if j < l.length then _ else none
    rw [Int.toNat_natCast]
    split
    ·rename_i hj
     obtain ⟨c', hc', hr⟩ := z34 hs hj
     obtain ⟨-, g2⟩ := cell_of hc'
     have : cellAt S ((q : Int) + 1 + (j : Nat)) = c' := by
      rw [← g2]
      congr 1
     rw [this]
     exact qz5 m p _ _ hr
    ·rfl
theorem zdq {all : List Vc} {v p : Int} (h : ofV all v = some ⟨0, p⟩) : fOf all v = ⟨0, p⟩ := by
 rw [q8r h]
 rfl
open Classical in
theorem zhi {S : So} (hv : qs S = true) {all : List Vc} (hi : Inj all) (hn : ∀ v d, ofV all v = some d → ∃ p : Nat, d = ⟨0, p⟩ ∧ S.cs[p]? = some d) (σ : Int → Tr) : ∃ θ, Mod S θ ∧ ∀ v d, ofV all v = some d → θ (fOf all v) = σ v := by
 refine ⟨fun c => q1q (fun p => if h : ∃ v, ofV all v = some ⟨0, p⟩ then σ h.choose else jj (.v p)) (q1s S c), qp4 hv _, fun v d hd => ?_⟩
 obtain ⟨p, rfl, hp⟩ := hn v d hd
 obtain ⟨i1, i2⟩ := cell_of hp
 have hvc : vcR S ⟨0, (p : Int)⟩ = true := by simp [vcR, i1, z9 i1, i2]
 have hder : qp S ⟨0, (p : Int)⟩ = ⟨0, (p : Int)⟩ := zhs hvc (.inr i2)
 rw [zdq hd]
 show q1q _ (q1s S ⟨0, (p : Int)⟩) = _
 rw [q5j, hder]
 rw [if_neg (fun e => by cases e), if_neg (fun e => by cases e), if_neg (fun e => by cases e), qnw]
 have hex : ∃ v, ofV all v = some ⟨0, (p : Int)⟩ := ⟨v, hd⟩
 show (if h : ∃ v, ofV all v = some ⟨0, (p : Int)⟩ then σ h.choose else jj (.v (p : Int))) = σ v
 rw [dif_pos hex]
 congr 1
 exact hi _ _ _ hex.choose_spec hd
theorem z3m {V : List Int} : ∀ {l : List Te} {j : Nat}, qfu V l → j < l.length → inV V (l.getD j default)
 | t :: l, 0, h, _ => h.1
 | t :: l, j + 1, h, hj => z3m (l := l) h.2 (by simpa using hj)
theorem qtk {V : List Int} {σ τ : Int → Tr} (h : ∀ v ∈ V, σ v = τ v) : ∀ (p : List Nat) (t : Te), inV V t → qu t = true → zs σ t p = zs τ t p
 | p, .mk k n nm l, hi, hnd => by
  have hnl := (q3z (.mk k n nm l)).1 hnd
  obtain ⟨hk, hl⟩ := (qxt V k n nm l).1 hi
  rcases q05 hnl.1 with ⟨rfl, rfl, -, -⟩ | ⟨rfl, rfl⟩ | ⟨rfl, rfl, -⟩ | ⟨rfl, -, -, -⟩
  ·rw [qnm, qnm, h n (hk rfl)]
  ·rw [qna, qna]
  ·rw [qn1, qn1]
  ·rw [qnc, qnc]
   match p with
   | [] => rfl
   | j :: p =>
    show (if _ then _ else _) = (if _ then _ else _)
    split
    ·rename_i hj
     exact qtk h p _ (z3m hl hj) (hnl.2 j hj)
    ·rfl
def rdL (g : Tr → Int → Te × Int) : List Tr → Int → List Te × Int
 | [], l => ([], l)
 | T :: Ts, l => if l < 0 then ([], l) else ((g T l).1 :: (rdL g Ts (g T l).2).1, (rdL g Ts (g T l).2).2)
def kid (T : Tr) (j : Nat) : Tr := fun q => T (j :: q)
def rdT : Nat → Tr → Int → Te × Int
 | 0, _, left => (zT, left - 1)
 | f + 1, T, left => if left - 1 < 0 then (zT, left - 1) else match T [] with
  | some (.i n) => (.mk 1 n ⟨#[]⟩ [], left - 1)
  | some (.at nm) => (.mk 2 0 nm [], left - 1)
  | some (.fn nm k) => (.mk 3 0 nm (rdL (rdT f) ((List.range k).map (kid T)) (left - 1)).1, (rdL (rdT f) ((List.range k).map (kid T)) (left - 1)).2)
  | some (.v w) => (.mk 0 w ⟨#[]⟩ [], left - 1)
  | none => (zT, -1)
theorem z0l {nm : ByteArray} {k : Nat} {f : Nat → Tr} {j : Nat} (h : j < k) : kid (q09 nm k f) j = f j := by
 funext q
 show (if j < k then f j q else none) = f j q
 rw [if_pos h]
theorem qhg (s : So) : ∀ (f : Nat) (c : Ce) (l : Int), q1l s f c l = rdT f (q1s s c) l
 | 0, c, l => rfl
 | f + 1, c, l => by
  have hL : ∀ (cs : List Ce) (l : Int), q8d (q1l s f) cs l = rdL (rdT f) (cs.map (q1s s)) l := by
   intro cs
   induction cs with
   | nil => intro l; rfl
   | cons c cs ih =>
    intro l
    show (if l < 0 then _ else _) = (if l < 0 then _ else _)
    split
    ·rfl
    ·rw [qhg s f c l, ih]
  unfold q1l rdT
  split
  ·rfl
  ·rw [q5j]
   split
   ·rfl
   ·split
    ·rfl
    ·split
     ·have hm : (q2g s (qp s c).n (arS s (cellAt s (qp s c).n).n).toNat).map (q1s s) = (List.range (arS s (cellAt s (qp s c).n).n).toNat).map (kid (q09 (q3q s (cellAt s (qp s c).n).n).name (arS s (cellAt s (qp s c).n).n).toNat fun j => q1s s (cellAt s ((qp s c).n + 1 + (j : Nat))))) := by
       unfold q2g
       rw [List.map_map]
       refine List.map_congr_left fun j hj => ?_
       rw [z0l (List.mem_range.1 hj)]
       rfl
      rw [hL, hm]
      rfl
     ·rfl
def relab (π : Int → Int) : Lab → Lab
 | .v w => .v (π w)
 | x => x
def Good (T : Tr) : Prop := ∀ p w, T p = some (.v w) → ∀ j q, T (p ++ j :: q) = none
theorem Good.kid {T : Tr} (h : Good T) (j : Nat) : Good (kid T j) := fun p w hp i q => h (j :: p) w hp i q
theorem qtj : ∀ (p : List Nat) {T U : Tr} {σ ρ : Int → Tr}, Good T → Good U → (∀ q, T q = q1q σ U q) → (∀ q, U q = q1q ρ T q) → U p = (T p).map (relab fun w => match ρ w [] with | some (.v u) => u | _ => 0) ∧ ∀ w, T p = some (.v w) → ∃ u, ρ w [] = some (.v u) ∧ σ u [] = some (.v w)
 | p, T, U, σ, ρ, hT, hU, h1, h2 => by
  have t0 : T [] = (match U [] with | some (.v w) => σ w [] | x => x) := h1 []
  have u0 : U [] = (match T [] with | some (.v w) => ρ w [] | x => x) := h2 []
  -- the roots
  have root : (∃ w u, T [] = some (.v w) ∧ U [] = some (.v u) ∧ ρ w [] = some (.v u) ∧ σ u [] = some (.v w)) ∨ (U [] = T [] ∧ ∀ w, T [] ≠ some (.v w)) := by
   cases hT0 : T [] with
   | none =>
    rw [hT0] at u0
    exact .inr ⟨u0, fun w e => by cases e⟩
   | some x =>
    cases x with
    | v w =>
     rw [hT0] at u0 t0
     have u0 : U [] = ρ w [] := u0
     cases hU0 : U [] with
     | none => rw [hU0] at t0; cases t0
     | some y =>
      cases y with
      | v u =>
       rw [hU0] at t0
       exact .inl ⟨w, u, rfl, rfl, by rw [← u0, hU0], t0.symm⟩
      | i n => rw [hU0] at t0; cases t0
      | «at» nm => rw [hU0] at t0; cases t0
      | fn nm k => rw [hU0] at t0; cases t0
    | i n => rw [hT0] at u0; exact .inr ⟨u0, fun w e => by cases e⟩
    | «at» nm => rw [hT0] at u0; exact .inr ⟨u0, fun w e => by cases e⟩
    | fn nm k => rw [hT0] at u0; exact .inr ⟨u0, fun w e => by cases e⟩
  match p with
  | [] =>
   rcases root with ⟨w, u, e1, e2, e3, e4⟩ | ⟨e1, e2⟩
   ·rw [e1, e2]
    refine ⟨by simp [relab, e3], fun w' hw => ?_⟩
    injection hw with hw
    injection hw with hw
    subst hw
    exact ⟨u, e3, e4⟩
   ·rw [e1]
    refine ⟨?_, fun w hw => absurd hw (e2 w)⟩
    cases hT0 : T [] with
    | none => rfl
    | some x =>
     cases x with
     | v w => exact absurd hT0 (e2 w)
     | _ => rfl
  | j :: p =>
   rcases root with ⟨w, u, e1, e2, e3, e4⟩ | ⟨e1, e2⟩
   ·have a1 : T (j :: p) = none := hT [] w e1 j p
    have a2 : U (j :: p) = none := hU [] u e2 j p
    rw [a1, a2]
    exact ⟨rfl, fun w hw => by cases hw⟩
   ·refine qtj p (hT.kid j) (hU.kid j) (σ := σ) (ρ := ρ) (fun q => ?_) (fun q => ?_)
    ·have := h1 (j :: q)
     show T (j :: q) = _
     rw [this]
     show (match U [] with | some (.v w) => σ w (j :: q) | _ => q1q σ (fun q => U (j :: q)) q) = _
     rw [e1]
     cases hT0 : T [] with
     | none => rfl
     | some x =>
      cases x with
      | v w => exact absurd hT0 (e2 w)
      | _ => rfl
    ·have := h2 (j :: q)
     show U (j :: q) = _
     rw [this]
     show (match T [] with | some (.v w) => ρ w (j :: q) | _ => q1q ρ (fun q => T (j :: q)) q) = _
     cases hT0 : T [] with
     | none => rfl
     | some x =>
      cases x with
      | v w => exact absurd hT0 (e2 w)
      | _ => rfl
theorem qwy {g : Tr → Int → Te × Int} (h : ∀ T l, (g T l).2 ≤ l - 1) : ∀ (Ts : List Tr) (l : Int), (rdL g Ts l).2 ≤ l
 | [], l => Int.le_refl _
 | T :: Ts, l => by
  unfold rdL
  split
  ·exact Int.le_refl _
  ·have h1 := h T l
   have h2 := qwy h Ts (g T l).2
   show (rdL g Ts (g T l).2).2 ≤ l
   omega
theorem qop : ∀ (f : Nat) (T : Tr) (l : Int), (rdT f T l).2 ≤ l - 1
 | 0, T, l => Int.le_refl _
 | f + 1, T, l => by
  unfold rdT
  split
  ·exact Int.le_refl _
  ·rename_i hl
   split
   ·exact Int.le_refl _
   ·exact Int.le_refl _
   ·exact qwy (qop f) _ _
   ·exact Int.le_refl _
   ·show (-1 : Int) ≤ l - 1
    omega
theorem qk0 (π : Int → Int) (k n : Int) (s : ByteArray) : q34 π (.mk k n s []) = .mk k (if k = 0 then π n else n) s [] := by
 rw [qxw]
 rfl
theorem qyh {π : Int → Int} : ∀ (f : Nat) {T U : Tr} (l : Int), l ≤ f → (∀ p, U p = (T p).map (relab π)) → (rdT f U l).2 = (rdT f T l).2 ∧ (0 ≤ (rdT f T l).2 → (rdT f U l).1 = q34 π (rdT f T l).1)
 | 0, T, U, l, hl, h => ⟨rfl, fun h0 => by
   have h0 : (0 : Int) ≤ l - 1 := h0
   have hl : l ≤ (0 : Int) := hl
   omega⟩
 | f + 1, T, U, l, hl, h => by
  have hl : l ≤ ((f + 1 : Nat) : Int) := hl
  have hL : ∀ (js : List Nat) (m : Int), m ≤ f → (rdL (rdT f) (js.map (kid U)) m).2 = (rdL (rdT f) (js.map (kid T)) m).2 ∧ (0 ≤ (rdL (rdT f) (js.map (kid T)) m).2 → (rdL (rdT f) (js.map (kid U)) m).1 = q3a π (rdL (rdT f) (js.map (kid T)) m).1) := by
   intro js
   induction js with
   | nil => exact fun m _ => ⟨rfl, fun _ => rfl⟩
   | cons j js ih =>
    intro m hm
    have h1 := qyh f (T := kid T j) (U := kid U j) m hm fun p => h (j :: p)
    have hle := qop f (kid T j) m
    have h2 := ih (rdT f (kid T j) m).2 (by omega)
    simp only [List.map_cons, rdL]
    by_cases hm0 : m < 0
    ·simp only [if_pos hm0]
     exact ⟨trivial, fun h0 => by omega⟩
    ·simp only [if_neg hm0]
     rw [h1.1]
     refine ⟨h2.1, fun h0 => ?_⟩
     have hle2 := qwy (qop f) (js.map (kid T)) (rdT f (kid T j) m).2
     rw [h1.2 (by omega), h2.2 h0]
     rfl
  have h0 := h []
  unfold rdT
  by_cases hb : l - 1 < 0
  ·simp only [if_pos hb]
   exact ⟨trivial, fun h0 => by omega⟩
  ·simp only [if_neg hb]
   cases hT : T [] with
   | none =>
    rw [hT] at h0
    rw [show U [] = none from h0]
    exact ⟨rfl, fun h0 => by cases (show (0 : Int) ≤ -1 from h0)⟩
   | some x =>
    rw [hT] at h0
    cases x with
    | i n =>
     rw [show U [] = some (.i n) from h0]
     exact ⟨rfl, fun _ => (qk0 ..).symm⟩
    | «at» n =>
     rw [show U [] = some (.at n) from h0]
     exact ⟨rfl, fun _ => (qk0 ..).symm⟩
    | v n =>
     rw [show U [] = some (.v (π n)) from h0]
     exact ⟨rfl, fun _ => (qk0 ..).symm⟩
    | fn nm k =>
     rw [show U [] = some (.fn nm k) from h0]
     obtain ⟨g1, g2⟩ := hL (List.range k) (l - 1) (by omega)
     refine ⟨g1, fun hp => ?_⟩
     show Te.mk 3 0 nm _ = _
     rw [g2 hp, qxw, qcg]
     rfl
theorem yt {t : Te} : qi t = true ↔ szT t ≤ 2000 ∧ qu t = true := by simp [qi]
theorem q7p {t u : Te} (h : qi t = true) (hu : u ∈ t.l) : qi u = true := by
 obtain ⟨h1, h2⟩ := yt.1 h
 have := z5q hu
 refine yt.2 ⟨by omega, ?_⟩
 cases t with
 | mk k n s l =>
  rw [qu, Bool.and_eq_true, q7z] at h2
  exact h2.2 u hu
theorem q4z {t : Te} {j : Nat} (h : qi t = true) (hj : j < t.l.length) : qi (t.l.getD j default) = true := q7p h (q19 hj)
theorem q41 {t : Te} (h : qi t = true) : (t.k = 0 ∧ 0 ≤ t.n ∧ t.n ≤ 1099511627776 ∧ t.s = ⟨#[]⟩ ∧ t.l = []) ∨ (t.k = 1 ∧ t.s = ⟨#[]⟩ ∧ t.l = []) ∨ (t.k = 2 ∧ t.n = 0 ∧ t.l = []) ∨ (t.k = 3 ∧ t.n = 0) := by
 have h := ((q3z t).1 (yt.1 h).2).1
 have hl : (t.l.length : Int) = 0 → t.l = [] := fun h => List.length_eq_zero_iff.1 (by omega)
 unfold q2y at h
 split at h
 ·simp only [Bool.and_eq_true, decide_eq_true_eq] at h
  exact .inl ⟨by assumption, h.1, h.2.1, h.2.2.1, hl h.2.2.2⟩
 ·split at h
  ·simp only [Bool.and_eq_true, decide_eq_true_eq] at h
   exact .inr (.inl ⟨by assumption, h.1, hl h.2⟩)
  ·split at h
   ·simp only [Bool.and_eq_true, decide_eq_true_eq] at h
    exact .inr (.inr (.inl ⟨by assumption, h.1, hl h.2.2⟩))
   ·split at h
    ·simp only [Bool.and_eq_true, decide_eq_true_eq] at h
     exact .inr (.inr (.inr ⟨by assumption, h.1⟩))
    ·cases h
theorem q6d {t : Te} (h : qi t = true) (h0 : t.k = 0) : 0 ≤ t.n ∧ t.n ≤ 1099511627776 ∧ t.l = [] := by
 rcases q41 h with h | h | h | h
 ·exact ⟨h.2.1, h.2.2.1, h.2.2.2.2⟩
 all_goals omega
theorem q6j (σ : Int → Tr) {t : Te} (h : t.k = 0) : zs σ t = σ t.n := by
 cases t with
 | mk k n s l =>
  have h : k = 0 := h
  subst h
  exact qnm ..
theorem q5a (σ : Int → Tr) {t : Te} (h : t.k = 1) : zs σ t = jj (.i t.n) := by
 cases t with
 | mk k n s l =>
  have h : k = 1 := h
  subst h
  exact qna ..
theorem q5b (σ : Int → Tr) {t : Te} (h : t.k = 2) : zs σ t = jj (.at t.s) := by
 cases t with
 | mk k n s l =>
  have h : k = 2 := h
  subst h
  exact qn1 ..
theorem q5d (σ : Int → Tr) {t : Te} (h : t.k = 3) : zs σ t = q09 t.s t.l.length fun j => zs σ (t.l.getD j default) := by
 cases t with
 | mk k n s l =>
  have h : k = 3 := h
  subst h
  exact qnc ..
inductive Oc (w : Int) : Te → Prop
 | here {t : Te} : t.k = 0 → t.n = w → Oc w t
 | arg {t u : Te} : u ∈ t.l → Oc w u → Oc w t
theorem qr6 {w : Int} {t : Te} (h : qi t = true) (h0 : t.k = 0) (ho : Oc w t) : t.n = w := by
 cases ho with
 | here _ h => exact h
 | arg hu _ =>
  rw [(q6d h h0).2.2] at hu
  cases hu
theorem z9f {w : Int} {t : Te} (h0 : t.k ≠ 0) (ho : Oc w t) : ∃ u ∈ t.l, Oc w u := by
 cases ho with
 | here h _ => exact absurd h h0
 | arg hu h => exact ⟨_, hu, h⟩
structure Bg where
 v : Int
 u : Te
instance : Inhabited Bg := ⟨⟨0, default⟩⟩
def eB (x : Bg) : D := .a [.i x.v, eT x.u]
def dB (d : D) : Bg := ⟨(d.fld 0).int, dT (d.fld 1)⟩
theorem ziw (x : Bg) : dB (eB x) = x := by
 show Bg.mk x.v (dT (eT x.u)) = x
 rw [zb]
theorem z8i (x : Bg) : (eB x).fld 0 = .i x.v := rfl
theorem zfh (x : Bg) : (eB x).fld 1 = eT x.u := rfl
theorem zg9 (n : Int) (t : Te) : D.a [.i n, eT t] = eB ⟨n, t⟩ := rfl
def dBs (d : D) : List Bg := d.rs.map dB
theorem zl (l : List Bg) : dBs (.r (l.map eB)) = l := by
 show (l.map eB).map dB = l
 rw [List.map_map]
 exact List.map_id'' (fun x => ziw x) l
theorem wfB {d : D} (h : Wf d qjy) : ∃ c, d = eB c ∧ i64 c.v ∧ okT c.u := by
 obtain ⟨ds, rfl, hl⟩ := h.st_of (fs := [.int .i64, qe5]) rfl
 obtain ⟨a, b, rfl, ha, hb⟩ := qvi hl
 obtain ⟨x, rfl, hx⟩ := wfI ha
 obtain ⟨y, rfl, hy⟩ := wfT hb
 exact ⟨⟨x, y⟩, rfl, hx, hy⟩
theorem qji {d : D} (h : Wf d qoh) : ∃ l : List Bg, d = .r (l.map eB) ∧ l.length ≤ 2199023255488 ∧ ∀ x ∈ l, i64 x.v ∧ okT x.u := by
 obtain ⟨l, e, h1, h2⟩ := h.row_of (te := qjy) rfl
 subst e
 obtain ⟨m, rfl, h3⟩ := q95 (e := eB) (P := fun x => i64 x.v ∧ okT x.u) fun x hx => wfB (h2 x hx)
 have e : LM qjy = 2199023255488 := by kernel_rfl
 rw [e, List.length_map] at h1
 exact ⟨m, rfl, h1, h3⟩
def lkB : List Bg → Int → Option Te
 | [], _ => none
 | x :: l, v => if x.v = v then some x.u else lkB l v
def q5w : List Bg → Int → Te → List Bg
 | [], v, t => [⟨v, t⟩]
 | x :: l, v, t => if v < x.v then ⟨v, t⟩ :: x :: l else x :: q5w l v t
def bgB (x : Bg) : Bool := decide (0 ≤ x.v) && (decide (x.v ≤ 1099511627776) && (qi x.u && decide (x.u.k = 0 → x.u.n < x.v)))
theorem qj8 {x : Bg} : bgB x = true ↔ 0 ≤ x.v ∧ x.v ≤ 1099511627776 ∧ qi x.u = true ∧ (x.u.k = 0 → x.u.n < x.v) := by simp only [bgB, Bool.and_eq_true, decide_eq_true_eq]
def SB (l : List Bg) : Prop := l.Pairwise (fun a b => a.v < b.v) ∧ ∀ x ∈ l, bgB x = true
instance (l : List Bg) : Decidable (SB l) := inferInstanceAs (Decidable (_ ∧ _))
theorem qns {v : Int} {t : Te} : ∀ {l : List Bg}, lkB l v = some t → ⟨v, t⟩ ∈ l
 | [], h => by cases h
 | x :: l, h => by
  unfold lkB at h
  split at h
  ·rename_i e
   injection h with h
   subst e h
   exact List.mem_cons_self
  ·exact List.mem_cons_of_mem _ (qns h)
theorem z47 : ∀ {l : List Bg}, l.Pairwise (fun a b => a.v < b.v) → ∀ {x}, x ∈ l → lkB l x.v = some x.u
 | y :: l, h, x, hx => by
  unfold lkB
  rcases List.mem_cons.1 hx with rfl | hx
  ·rw [if_pos rfl]
  ·have := (List.pairwise_cons.1 h).1 x hx
   rw [if_neg (by omega)]
   exact z47 (List.pairwise_cons.1 h).2 hx
theorem qn0 {v : Int} : ∀ {l : List Bg}, lkB l v = none → ∀ x ∈ l, x.v ≠ v
 | y :: l, h, x, hx => by
  unfold lkB at h
  split at h
  ·cases h
  ·rcases List.mem_cons.1 hx with rfl | hx
   ·assumption
   ·exact qn0 h x hx
theorem qcc {v : Int} {t : Te} {x : Bg} : ∀ {l : List Bg}, x ∈ q5w l v t ↔ x = ⟨v, t⟩ ∨ x ∈ l
 | [] => by simp [q5w]
 | y :: l => by
  unfold q5w
  split
  ·simp
  ·rw [List.mem_cons, qcc, List.mem_cons]
   exact ⟨fun h => h.elim (fun h => .inr (.inl h)) (fun h => h.elim .inl fun h => .inr (.inr h)), fun h => h.elim (fun h => .inr (.inl h)) (fun h => h.elim .inl fun h => .inr (.inr h))⟩
theorem z3s (v : Int) (t : Te) : ∀ l, (q5w l v t).length = l.length + 1
 | [] => rfl
 | y :: l => by
  unfold q5w
  split
  ·simp
  ·simp [z3s v t l]
theorem zaj {v : Int} {t : Te} {l : List Bg} (h : SB l) (hn : lkB l v = none) (hb : bgB ⟨v, t⟩ = true) : SB (q5w l v t) := by
 refine ⟨?_, fun x hx => (qcc.1 hx).elim (fun e => e ▸ hb) (h.2 x)⟩
 have hne := qn0 hn
 have h1 := h.1
 clear hn h hb
 induction l with
 | nil => simp [q5w]
 | cons y l ih =>
  obtain ⟨g1, g2⟩ := List.pairwise_cons.1 h1
  unfold q5w
  split
  ·rename_i hlt
   refine List.pairwise_cons.2 ⟨fun a ha => ?_, h1⟩
   rcases List.mem_cons.1 ha with rfl | ha
   ·exact hlt
   ·have := g1 a ha
    show v < a.v
    omega
  ·rename_i hlt
   refine List.pairwise_cons.2 ⟨fun a ha => ?_, ih (fun x hx => hne x (List.mem_cons_of_mem _ hx)) g2⟩
   rcases qcc.1 ha with rfl | ha
   ·have := hne y List.mem_cons_self
    show y.v < v
    omega
   ·exact g1 a ha
theorem qxr {v : Int} {t : Te} {l : List Bg} (h : SB l) (hn : lkB l v = none) (hb : bgB ⟨v, t⟩ = true) (w : Int) : lkB (q5w l v t) w = if w = v then some t else lkB l w := by
 have hs := zaj h hn hb
 split
 ·rename_i e
  subst e
  exact z47 hs.1 (x := ⟨w, t⟩) (qcc.2 (.inl rfl))
 ·rename_i e
  cases hw : lkB l w with
  | some u => exact z47 hs.1 (x := ⟨w, u⟩) (qcc.2 (.inr (qns hw)))
  | none =>
   cases hq : lkB (q5w l v t) w with
   | none => rfl
   | some u =>
    rcases qcc.1 (qns hq) with h | h
    ·injection h with h
     exact absurd h e
    ·exact absurd rfl (qn0 hw _ h)
theorem SB.bg {l : List Bg} (h : SB l) {v : Int} {u : Te} (e : lkB l v = some u) : 0 ≤ v ∧ v ≤ 1099511627776 ∧ qi u = true ∧ (u.k = 0 → u.n < v) := qj8.1 (h.2 _ (qns e))
def qlf : Nat → List Bg → Te → Te
 | 0, _, t => t
 | k + 1, l, t => if t.k = 0 then (match lkB l t.n with
  | none => t
  | some u => qlf k l u) else t
def fol (l : List Bg) (t : Te) : Te := qlf (t.n.toNat + 1) l t
theorem q70 {l : List Bg} {t : Te} (h : t.k ≠ 0) : ∀ k, qlf k l t = t
 | 0 => rfl
 | k + 1 => by unfold qlf; rw [if_neg h]
theorem qjc {l : List Bg} {t : Te} (h : lkB l t.n = none) : ∀ k, qlf k l t = t
 | 0 => rfl
 | k + 1 => by
  unfold qlf
  split
  ·rw [h]
  ·rfl
theorem qth {l : List Bg} (h : SB l) : ∀ (k : Nat) (t : Te), (t.k = 0 → t.n.toNat < k) → qlf (k + 1) l t = qlf k l t
 | 0, t, ht => by
  have h0 : t.k ≠ 0 := fun e => absurd (ht e) (Nat.not_lt_zero _)
  rw [q70 h0, q70 h0]
 | k + 1, t, ht => by
  by_cases h0 : t.k = 0
  ·cases e : lkB l t.n with
   | none => rw [qjc e, qjc e]
   | some u =>
    obtain ⟨b1, -, b3, b4⟩ := h.bg e
    have hk := ht h0
    have hs := qth h k u fun hu => by
     have := b4 hu
     have := (q6d b3 hu).1
     omega
    show (if t.k = 0 then _ else _) = (if t.k = 0 then _ else _)
    rw [if_pos h0, if_pos h0, e]
    exact hs
  ·rw [q70 h0, q70 h0]
theorem z3o {l : List Bg} (h : SB l) (t : Te) : ∀ d k, (t.k = 0 → t.n.toNat < k) → qlf (k + d) l t = qlf k l t
 | 0, k, _ => rfl
 | d + 1, k, hk => by
  rw [← Nat.add_assoc, qth h (k + d) t fun h0 => by have := hk h0; omega]
  exact z3o h t d k hk
theorem qc9 {l : List Bg} {t : Te} (h : t.k ≠ 0) : fol l t = t := q70 h _
theorem z0s {l : List Bg} {t : Te} (h : lkB l t.n = none) : fol l t = t := qjc h _
theorem qpf {l : List Bg} (h : SB l) {t u : Te} (h0 : t.k = 0) (e : lkB l t.n = some u) : fol l t = fol l u := by
 obtain ⟨b1, -, b3, b4⟩ := h.bg e
 unfold fol
 rw [qlf, if_pos h0, e]
 show qlf t.n.toNat l u = _
 by_cases hu : u.k = 0
 ·have := b4 hu
  have := (q6d b3 hu).1
  have e : t.n.toNat = u.n.toNat + 1 + (t.n.toNat - (u.n.toNat + 1)) := by omega
  rw [e]
  exact z3o h u _ _ fun _ => Nat.lt_succ_self _
 ·rw [q70 hu, q70 hu]
theorem qvs {l : List Bg} (h : SB l) {P : Te → Te → Prop} (h0 : ∀ t, (t.k = 0 → lkB l t.n = none) → P t t) (h1 : ∀ t u, t.k = 0 → lkB l t.n = some u → P u (fol l u) → P t (fol l u)) (t : Te) : P t (fol l t) := by
 have key : ∀ (k : Nat) (t : Te), (t.k = 0 → t.n.toNat < k) → P t (fol l t) := by
  intro k
  induction k with
  | zero =>
   intro t ht
   have hk : t.k ≠ 0 := fun e => absurd (ht e) (Nat.not_lt_zero _)
   rw [qc9 hk]
   exact h0 t fun e => absurd e hk
  | succ k ih =>
   intro t ht
   by_cases hk : t.k = 0
   ·cases e : lkB l t.n with
    | none =>
     rw [z0s e]
     exact h0 t fun _ => e
    | some u =>
     rw [qpf h hk e]
     obtain ⟨b1, -, b3, b4⟩ := h.bg e
     refine h1 t u hk e (ih u fun hu => ?_)
     have := b4 hu
     have := (q6d b3 hu).1
     have := ht hk
     omega
   ·rw [qc9 hk]
    exact h0 t fun e => absurd e hk
 exact key (t.n.toNat + 1) t fun _ => Nat.lt_succ_self _
theorem z4d {l : List Bg} (h : SB l) (t : Te) : (fol l t).k = 0 → lkB l (fol l t).n = none :=
 qvs h (P := fun _ r => r.k = 0 → lkB l r.n = none) (fun t ht => ht) (fun _ _ _ _ ih => ih) t
theorem q3x {l : List Bg} (h : SB l) (t : Te) : qi t = true → qi (fol l t) = true :=
 qvs h (P := fun t r => qi t = true → qi r = true) (fun t _ h => h) (fun t u _ e ih _ => ih (h.bg e).2.2.1) t
def ocL (g : Te → List Int → Bool × List Int) : List Te → List Int → Bool × List Int
 | [], s => (false, s)
 | t :: l, s => if (g t s).1 = true then (true, (g t s).2) else ocL g l (g t s).2
def ocS (g : Te → List Int → Bool × List Int) (l : List Bg) (v : Int) (t : Te) (s : List Int) : Bool × List Int :=
 if t.k = 0 then (match lkB l t.n with
  | none => (decide (t.n = v), s)
  | some u => if t.n ∈ s then (false, s) else g u (s ++ [t.n])) else ocL g t.l s
def ocD : Nat → List Bg → Int → Te → List Int → Bool × List Int
 | 0, _, _, _, s => (true, s)
 | f + 1, l, v, t, s => ocS (ocD f l v) l v t s
def OkS (l : List Bg) (s : List Int) : Prop := s.Nodup ∧ ∀ w ∈ s, lkB l w ≠ none
theorem qui : ∀ {s m : List Int}, s.Nodup → (∀ w ∈ s, w ∈ m) → s.length ≤ m.length
 | [], m, _, _ => Nat.zero_le _
 | x :: s, m, h, hm => by
  obtain ⟨h1, h2⟩ := List.nodup_cons.1 h
  have hx := hm x List.mem_cons_self
  have := qui (s := s) (m := m.erase x) h2 fun w hw => by
   have hne : w ≠ x := fun e => h1 (e ▸ hw)
   exact (List.mem_erase_of_ne hne).2 (hm w (List.mem_cons_of_mem _ hw))
  rw [List.length_erase_of_mem hx] at this
  have := List.length_pos_of_mem hx
  simp only [List.length_cons]
  omega
theorem OkS.len {l : List Bg} {s : List Int} (h : OkS l s) : s.length ≤ l.length := by
 have := qui (m := l.map Bg.v) h.1 fun w hw => by
  cases e : lkB l w with
  | none => exact absurd e (h.2 w hw)
  | some u => exact List.mem_map.2 ⟨_, qns e, rfl⟩
 simpa using this
theorem OkS.snoc {l : List Bg} {s : List Int} (h : OkS l s) {w : Int} {u : Te} (hw : w ∉ s) (e : lkB l w = some u) : OkS l (s ++ [w]) :=
 ⟨List.nodup_append.2 ⟨h.1, List.pairwise_singleton _ _, fun a ha b hb => by rw [List.mem_singleton.1 hb]; exact fun e => hw (e ▸ ha)⟩, fun x hx => by
  rcases List.mem_append.1 hx with hx | hx
  ·exact h.2 x hx
  ·rw [List.mem_singleton.1 hx, e]
   exact fun h => by cases h⟩
def mO (l : List Bg) (t : Te) (s : List Int) : Nat := (l.length - s.length) * 2001 + szT t
def zcd (l : List Bg) (s : List Int) (r : Bool × List Int) : Prop := OkS l r.2 ∧ s.length ≤ r.2.length
theorem qc2 {l : List Bg} {v : Int} : ∀ (f : Nat) (t : Te) (s : List Int), OkS l s → zcd l s (ocD f l v t s)
 | 0, t, s, h => ⟨h, Nat.le_refl _⟩
 | f + 1, t, s, h => by
  unfold ocD ocS
  split
  ·split
   ·exact ⟨h, Nat.le_refl _⟩
   ·rename_i u e
    split
    ·exact ⟨h, Nat.le_refl _⟩
    ·rename_i hs
     have := qc2 f (v := v) u _ (h.snoc hs e)
     refine ⟨this.1, Nat.le_trans ?_ this.2⟩
     simp
  ·have key : ∀ (ts : List Te) (s : List Int), OkS l s → zcd l s (ocL (ocD f l v) ts s) := by
    intro ts
    induction ts with
    | nil => exact fun s h => ⟨h, Nat.le_refl _⟩
    | cons t ts ih =>
     intro s h
     have h1 := qc2 f (v := v) t s h
     unfold ocL
     split
     ·exact h1
     ·have h2 := ih _ h1.1
      exact ⟨h2.1, Nat.le_trans h1.2 h2.2⟩
   exact key _ _ h
theorem qp9 {l : List Bg} (hb : SB l) {v : Int} : ∀ (f : Nat) (t : Te) (s : List Int), OkS l s → mO l t s ≤ f → ocD (f + 1) l v t s = ocD f l v t s
 | 0, t, s, _, h => by
  have := qca t
  unfold mO at h
  omega
 | f + 1, t, s, h, hf => by
  have hL : ∀ (ts : List Te) (s : List Int), OkS l s → (l.length - s.length) * 2001 + q02 ts ≤ f → ocL (ocD (f + 1) l v) ts s = ocL (ocD f l v) ts s := by
   intro ts
   induction ts with
   | nil => exact fun s _ _ => rfl
   | cons t ts ih =>
    intro s h hf
    rw [q02] at hf
    have h1 := qp9 hb (v := v) f t s h (by unfold mO; omega)
    have h2 := qc2 f (v := v) t s h
    unfold ocL
    rw [h1]
    split
    ·rfl
    ·refine ih _ h2.1 ?_
     have : (l.length - (ocD f l v t s).2.length) * 2001 ≤ (l.length - s.length) * 2001 := Nat.mul_le_mul_right _ (Nat.sub_le_sub_left h2.2 _)
     exact Nat.le_trans (Nat.add_le_add this (Nat.le_add_left _ _)) hf
  rw [ocD, ocD]
  unfold ocS
  split
  ·split
   ·rfl
   ·rename_i u e
    split
    ·rfl
    ·rename_i hs
     have h1 := h.snoc hs e
     refine qp9 hb f u _ h1 ?_
     have := h1.len
     have := (yt.1 (hb.bg e).2.2.1).1
     unfold mO at hf ⊢
     have := qca t
     simp only [List.length_append, List.length_cons, List.length_nil] at *
     have e2 : l.length - s.length = (l.length - (s.length + 0 + 1)) + 1 := by omega
     rw [e2] at hf
     omega
  ·refine hL _ _ h ?_
   have := qp3 t
   unfold mO at hf
   omega
theorem zad {l : List Bg} (hb : SB l) {v : Int} {t : Te} {s : List Int} (h : OkS l s) : ∀ (d f : Nat), mO l t s ≤ f → ocD (f + d) l v t s = ocD f l v t s
 | 0, f, _ => rfl
 | d + 1, f, hf => by
  rw [← Nat.add_assoc, qp9 hb (f + d) t s h (by omega)]
  exact zad hb h d f hf
def ocA (l : List Bg) (v : Int) (t : Te) (s : List Int) : Bool × List Int := ocD (mO l t s) l v t s
theorem z8u {l : List Bg} {v : Int} {t : Te} {s : List Int} (h : OkS l s) : zcd l s (ocA l v t s) := qc2 _ _ _ h
theorem z92 {l : List Bg} (hb : SB l) {v : Int} {t : Te} {s : List Int} (h : OkS l s) : ocA l v t s = ocS (ocA l v) l v t s := by
 unfold ocA
 obtain ⟨f, hf⟩ : ∃ f, mO l t s = f + 1 := ⟨mO l t s - 1, by have := qca t; unfold mO; omega⟩
 have any : ∀ {u : Te} {s' : List Int}, OkS l s' → mO l u s' ≤ f → ocD f l v u s' = ocD (mO l u s') l v u s' := fun {u s'} h hu => by
  have := zad hb (v := v) h (f - mO l u s') (mO l u s') (Nat.le_refl _)
  rw [show mO l u s' + (f - mO l u s') = f by omega] at this
  exact this
 rw [hf, ocD]
 unfold ocS
 split
 ·split
  ·rfl
  ·rename_i u e
   split
   ·rfl
   ·rename_i hs
    have h1 := h.snoc hs e
    refine any h1 ?_
    have := h1.len
    have := (yt.1 (hb.bg e).2.2.1).1
    unfold mO at hf ⊢
    have := qca t
    simp only [List.length_append, List.length_cons, List.length_nil] at *
    have e2 : l.length - s.length = (l.length - (s.length + 0 + 1)) + 1 := by omega
    rw [e2] at hf
    omega
 ·have key : ∀ (ts : List Te) (s' : List Int), OkS l s' → (l.length - s'.length) * 2001 + q02 ts ≤ f → ocL (ocD f l v) ts s' = ocL (fun t s => ocD (mO l t s) l v t s) ts s' := by
   intro ts
   induction ts with
   | nil => exact fun s _ _ => rfl
   | cons t ts ih =>
    intro s h hf
    rw [q02] at hf
    have h1 := any (u := t) h (by unfold mO; omega)
    have h2 := qc2 f (v := v) t s h
    unfold ocL
    simp only [← h1]
    split
    ·rfl
    ·refine ih _ h2.1 ?_
     have : (l.length - (ocD f l v t s).2.length) * 2001 ≤ (l.length - s.length) * 2001 := Nat.mul_le_mul_right _ (Nat.sub_le_sub_left h2.2 _)
     exact Nat.le_trans (Nat.add_le_add this (Nat.le_add_left _ _)) hf
  refine key _ _ h ?_
  have := qp3 t
  unfold mO at hf
  omega
def z1i (l : List Bg) (v : Int) (t : Te) : Bool := (ocA l v t []).1
def Qv (l : List Bg) (v : Int) (s : List Int) (w : Int) : Prop := (lkB l w ≠ none → w ∈ s) ∧ (lkB l w = none → w ≠ v)
theorem Qv.mono {l : List Bg} {v : Int} {s s' : List Int} {w : Int} (h : Qv l v s w) (hs : ∀ x ∈ s, x ∈ s') : Qv l v s' w := ⟨fun q => hs _ (h.1 q), h.2⟩
def zk3 (l : List Bg) (v : Int) (s : List Int) (P : Int → Prop) (s' : List Int) : Prop :=
 (∀ x ∈ s, x ∈ s') ∧ (∀ w, P w → Qv l v s' w) ∧ ∀ w ∈ s', w ∈ s ∨ ∃ u, lkB l w = some u ∧ ∀ x, Oc x u → Qv l v s' x
theorem qjp {l : List Bg} (hb : SB l) {v : Int} : ∀ (f : Nat) (t : Te) (s : List Int), qi t = true → (ocD f l v t s).1 = false → zk3 l v s (fun w => Oc w t) (ocD f l v t s).2
 | 0, t, s, _, h => by cases h
 | f + 1, t, s, ht, h => by
  rw [ocD] at h ⊢
  unfold ocS at h ⊢
  by_cases h0 : t.k = 0
  ·rw [if_pos h0] at h ⊢
   cases e : lkB l t.n with
   | none =>
    rw [e] at h
    have h : decide (t.n = v) = false := h
    have h : t.n ≠ v := by simpa using h
    refine ⟨fun x hx => hx, fun w hw => ?_, fun w hw => .inl hw⟩
    rw [← qr6 ht h0 hw]
    exact ⟨fun q => absurd e q, fun _ => h⟩
   | some u =>
    rw [e] at h
    simp only at h ⊢
    by_cases hs : t.n ∈ s
    ·rw [if_pos hs]
     refine ⟨fun x hx => hx, fun w hw => ?_, fun w hw => .inl hw⟩
     rw [← qr6 ht h0 hw]
     exact ⟨fun _ => hs, fun q => by rw [e] at q; cases q⟩
    ·rw [if_neg hs] at h ⊢
     obtain ⟨g1, g2, g3⟩ := qjp hb f u _ (hb.bg e).2.2.1 h
     refine ⟨fun x hx => g1 x (List.mem_append_left _ hx), fun w hw => ?_, fun w hw => ?_⟩
     ·rw [← qr6 ht h0 hw]
      exact ⟨fun _ => g1 _ (List.mem_append_right _ (List.mem_singleton.2 rfl)), fun q => by rw [e] at q; cases q⟩
     ·rcases g3 w hw with h | h
      ·rcases List.mem_append.1 h with h | h
       ·exact .inl h
       ·rw [List.mem_singleton.1 h]
        exact .inr ⟨u, e, g2⟩
      ·exact .inr h
  ·rw [if_neg h0] at h ⊢
   have key : ∀ (ts : List Te) (s : List Int), (∀ u ∈ ts, qi u = true) → (ocL (ocD f l v) ts s).1 = false → zk3 l v s (fun w => ∃ u ∈ ts, Oc w u) (ocL (ocD f l v) ts s).2 := by
    intro ts
    induction ts with
    | nil => exact fun s _ _ => ⟨fun x hx => hx, fun w ⟨u, hu, _⟩ => (by cases hu), fun w hw => .inl hw⟩
    | cons t ts ih =>
     intro s hv h
     unfold ocL at h ⊢
     by_cases hq : (ocD f l v t s).1 = true
     ·rw [if_pos hq] at h
      cases h
     ·rw [if_neg hq] at h ⊢
      obtain ⟨a1, a2, a3⟩ := qjp hb f t s (hv t List.mem_cons_self) (by simpa using hq)
      obtain ⟨b1, b2, b3⟩ := ih _ (fun u hu => hv u (List.mem_cons_of_mem _ hu)) h
      refine ⟨fun x hx => b1 _ (a1 x hx), fun w ⟨u, hu, ho⟩ => ?_, fun w hw => ?_⟩
      ·rcases List.mem_cons.1 hu with rfl | hu
       ·exact (a2 w ho).mono b1
       ·exact b2 w ⟨u, hu, ho⟩
      ·rcases b3 w hw with h | h
       ·rcases a3 w h with h | ⟨u, e, h⟩
        ·exact .inl h
        ·exact .inr ⟨u, e, fun x hx => (h x hx).mono b1⟩
       ·exact .inr h
   obtain ⟨g1, g2, g3⟩ := key t.l s (fun u hu => q7p ht hu) h
   exact ⟨g1, fun w hw => g2 w (z9f h0 hw), g3⟩
inductive Rch (l : List Bg) (v : Int) : Int → Prop
 | refl : Rch l v v
 | step {w x : Int} {u : Te} : lkB l w = some u → Oc x u → Rch l v x → Rch l v w
theorem z5j {l : List Bg} (hb : SB l) {v : Int} (hv : lkB l v = none) {t : Te} (ht : qi t = true) (h : z1i l v t = false) : ∀ w, Oc w t → ¬ Rch l v w := by
 obtain ⟨-, g2, g3⟩ := qjp hb _ t [] ht h
 have key : ∀ w, Rch l v w → ¬ Qv l v (ocD (mO l t []) l v t []).2 w := by
  intro w hw
  induction hw with
  | refl => exact fun q => q.2 hv rfl
  | step e ho _ ih =>
   intro q
   have hm := q.1 (by rw [e]; exact fun h => by cases h)
   rcases g3 _ hm with h | ⟨u, e', h⟩
   ·cases h
   ·rw [e] at e'
    injection e' with e'
    subst e'
    exact ih (h _ ho)
 exact fun w hw hr => key w hr (g2 w hw)
def qls (l : List Bg) : Prop := ∃ r : Int → Nat, ∀ v u, lkB l v = some u → ∀ w, Oc w u → r w < r v
theorem qz7 : qls [] := ⟨fun _ => 0, fun v u e => by cases e⟩
theorem z7m (r : Int → Nat) : ∀ t : Te, ∃ K, ∀ w, Oc w t → r w ≤ K := by
 refine Te.ind fun k n s l ih => ?_
 have : ∃ K, ∀ u ∈ l, ∀ w, Oc w u → r w ≤ K := by
  induction l with
  | nil => exact ⟨0, fun u hu => by cases hu⟩
  | cons u l ih2 =>
   obtain ⟨K, hK⟩ := ih u List.mem_cons_self
   obtain ⟨M, hM⟩ := ih2 fun t ht => ih t (List.mem_cons_of_mem _ ht)
   refine ⟨K + M, fun x hx w hw => ?_⟩
   rcases List.mem_cons.1 hx with rfl | hx
   ·have := hK w hw
    omega
   ·have := hM x hx w hw
    omega
 obtain ⟨K, hK⟩ := this
 refine ⟨K + r n, fun w hw => ?_⟩
 cases hw with
 | here _ h =>
  have h : n = w := h
  rw [← h]
  omega
 | arg hu h =>
  have := hK _ hu w h
  omega
open Classical in
theorem z9h {l : List Bg} (hb : SB l) (ha : qls l) {v : Int} {t : Te} (hn : lkB l v = none) (hg : bgB ⟨v, t⟩ = true) (h : ∀ w, Oc w t → ¬ Rch l v w) : qls (q5w l v t) := by
 obtain ⟨r, hr⟩ := ha
 obtain ⟨K, hK⟩ := z7m r t
 refine ⟨fun w => if Rch l v w then r w + K + 1 else r w, fun x u e w hw => ?_⟩
 rw [qxr hb hn hg] at e
 split at e
 ·rename_i hx
  injection e with e
  subst hx e
  have h1 := hK w hw
  show (if _ then _ else _) < (if _ then _ else _)
  rw [if_neg (h w hw), if_pos .refl]
  omega
 ·have h1 := hr x u e w hw
  show (if _ then _ else _) < (if _ then _ else _)
  by_cases hw' : Rch l v w
  ·rw [if_pos hw', if_pos (.step e hw hw')]
   omega
  ·rw [if_neg hw']
   by_cases hx' : Rch l v x
   ·rw [if_pos hx']
    exact Nat.lt_of_lt_of_le h1 (Nat.le_trans (Nat.le_add_right _ K) (Nat.le_add_right _ 1))
   ·rw [if_neg hx']
    exact h1
def prL (g : List Bg → Int → Te → Te → Int × List Bg × Int) : List (Te × Te) → List Bg → Int → Int × List Bg × Int
 | [], l, n => (0, l, n)
 | p :: ps, l, n => if (g l n p.1 p.2).1 = 0 then prL g ps (g l n p.1 p.2).2.1 (g l n p.1 p.2).2.2 else g l n p.1 p.2
def prX (g : List Bg → Int → Te → Te → Int × List Bg × Int) (l : List Bg) (n : Int) (x y : Te) : Int × List Bg × Int :=
 if x.k = 0 ∧ y.k = 0 then (if y.n < x.n then (0, q5w l x.n y, n) else if x.n < y.n then (0, q5w l y.n x, n) else (0, l, n))
 else if y.k = 0 then (if z1i l y.n x = true then (9, l, n) else (0, q5w l y.n x, n))
 else if x.k = 0 then (if z1i l x.n y = true then (9, l, n) else (0, q5w l x.n y, n))
 else if x.k = y.k ∧ x.n = y.n ∧ x.s = y.s ∧ x.l.length = y.l.length then prL g (x.l.zip y.l) l n else (4, l, n)
def prS (g : List Bg → Int → Te → Te → Int × List Bg × Int) (l : List Bg) (n : Int) (a b : Te) : Int × List Bg × Int :=
 if 1048576 ≤ n then (2, l, n) else prX g l (n + 1) (fol l a) (fol l b)
def prD : Nat → List Bg → Int → Te → Te → Int × List Bg × Int
 | 0, l, n, _, _ => (2, l, n)
 | f + 1, l, n, a, b => prS (prD f) l n a b
def prA (l : List Bg) (n : Int) (a b : Te) : Int × List Bg × Int := prD (1048576 - n.toNat) l n a b
theorem z9v : ∀ (f : Nat) (l : List Bg) (n : Int) (a b : Te), n ≤ (prD f l n a b).2.2
 | 0, l, n, a, b => Int.le_refl _
 | f + 1, l, n, a, b => by
  have hL : ∀ (ps : List (Te × Te)) (l : List Bg) (n : Int), n ≤ (prL (prD f) ps l n).2.2 := by
   intro ps
   induction ps with
   | nil => exact fun l n => Int.le_refl _
   | cons p ps ih =>
    intro l n
    have h1 := z9v f l n p.1 p.2
    unfold prL
    split
    ·exact Int.le_trans h1 (ih _ _)
    ·exact h1
  unfold prD prS
  split
  ·exact Int.le_refl _
  ·have hx : n + 1 ≤ (prX (prD f) l (n + 1) (fol l a) (fol l b)).2.2 := by
    unfold prX
    split
    ·split
     ·exact Int.le_refl _
     ·split <;> exact Int.le_refl _
    ·split
     ·split <;> exact Int.le_refl _
     ·split
      ·split <;> exact Int.le_refl _
      ·split
       ·exact hL _ _ _
       ·exact Int.le_refl _
   omega
theorem qt7 {g g' : List Bg → Int → Te → Te → Int × List Bg × Int} {l : List Bg} {n : Int} {x y : Te} (h : ∀ ps, prL g ps l n = prL g' ps l n) : prX g l n x y = prX g' l n x y := by
 unfold prX
 rw [h]
theorem qjj {g g' : List Bg → Int → Te → Te → Int × List Bg × Int} {m : Int} (h : ∀ l n a b, m ≤ n → g l n a b = g' l n a b) (hn : ∀ l n a b, n ≤ (g' l n a b).2.2) : ∀ (ps : List (Te × Te)) (l : List Bg) (n : Int), m ≤ n → prL g ps l n = prL g' ps l n
 | [], l, n, _ => rfl
 | p :: ps, l, n, hm => by
  have h1 := h l n p.1 p.2 hm
  have h2 := hn l n p.1 p.2
  unfold prL
  rw [h1]
  split
  ·exact qjj h hn ps _ _ (by omega)
  ·rfl
theorem z0o : ∀ (f : Nat) (l : List Bg) (n : Int) (a b : Te), 1048576 ≤ f + n → prD (f + 1) l n a b = prD f l n a b
 | 0, l, n, a, b, h => by
  have h : (1048576 : Int) ≤ 0 + n := h
  show prS _ l n a b = _
  unfold prS
  rw [if_pos (by omega)]
  rfl
 | f + 1, l, n, a, b, h => by
  have h : (1048576 : Int) ≤ (f : Int) + 1 + n := by simpa using h
  rw [prD, prD]
  unfold prS
  split
  ·rfl
  ·refine qt7 fun ps => qjj (m := n + 1) (fun l m a b hm => ?_) (fun l m a b => ?_) ps l (n + 1) (Int.le_refl _)
   ·exact z0o f l m a b (by omega)
   ·exact z9v f l m a b
theorem zan {l : List Bg} {n : Int} {a b : Te} : ∀ (d f : Nat), 1048576 ≤ f + n → prD (f + d) l n a b = prD f l n a b
 | 0, f, _ => rfl
 | d + 1, f, hf => by
  rw [← Nat.add_assoc, z0o (f + d) l n a b (by omega)]
  exact zan d f hf
theorem z9n {l : List Bg} {n : Int} {a b : Te} (hn : 0 ≤ n) : prA l n a b = prS prA l n a b := by
 unfold prA
 by_cases hm : 1048576 ≤ n
 ·have e : 1048576 - n.toNat = 0 := by omega
  rw [e]
  unfold prS
  rw [if_pos hm]
  rfl
 ·obtain ⟨f, hf⟩ : ∃ f, 1048576 - n.toNat = f + 1 := ⟨1048576 - n.toNat - 1, by omega⟩
  rw [hf, prD]
  unfold prS
  rw [if_neg hm, if_neg hm]
  refine qt7 fun ps => qjj (m := n + 1) (fun l m a b hm => ?_) (fun l m a b => z9v _ l m a b) ps l (n + 1) (Int.le_refl _)
  have := zan (l := l) (n := m) (a := a) (b := b) (f - (1048576 - m.toNat)) (1048576 - m.toNat) (by omega)
  rw [show 1048576 - m.toNat + (f - (1048576 - m.toNat)) = f by omega] at this
  exact this
def rsL (g : Te → Int → Te × Int) : List Te → Int → List Te × Int
 | [], m => ([], m)
 | t :: l, m => if m < 0 then ([], m) else ((g t m).1 :: (rsL g l (g t m).2).1, (rsL g l (g t m).2).2)
def rsS (g : Te → Int → Te × Int) (l : List Bg) (t : Te) (m : Int) : Te × Int :=
 (.mk (fol l t).k (fol l t).n (fol l t).s (rsL g (fol l t).l (m - 1)).1, (rsL g (fol l t).l (m - 1)).2)
def rsD : Nat → List Bg → Te → Int → Te × Int
 | 0, _, _, m => (zT, m - 1)
 | f + 1, l, t, m => rsS (rsD f l) l t m
theorem z2x {g : Te → Int → Te × Int} (h : ∀ t m, (g t m).2 ≤ m - 1) : ∀ (ts : List Te) (m : Int), (rsL g ts m).2 ≤ m
 | [], m => Int.le_refl _
 | t :: ts, m => by
  unfold rsL
  split
  ·exact Int.le_refl _
  ·have h1 := h t m
   have h2 := z2x h ts (g t m).2
   show (rsL g ts (g t m).2).2 ≤ m
   omega
theorem qwn : ∀ (f : Nat) (l : List Bg) (t : Te) (m : Int), (rsD f l t m).2 ≤ m - 1
 | 0, l, t, m => Int.le_refl _
 | f + 1, l, t, m => by
  unfold rsD rsS
  exact z2x (fun t m => qwn f l t m) _ _
theorem qhy {g g' : Te → Int → Te × Int} {M : Int} (h : ∀ t m, 0 ≤ m → m ≤ M → g t m = g' t m) (hn : ∀ t m, (g' t m).2 ≤ m - 1) : ∀ (ts : List Te) (m : Int), m ≤ M → rsL g ts m = rsL g' ts m
 | [], m, _ => rfl
 | t :: ts, m, hm => by
  unfold rsL
  split
  ·rfl
  ·have h1 := h t m (by omega) hm
   have h2 := hn t m
   rw [h1, qhy h hn ts _ (by omega)]
theorem qym : ∀ (f : Nat) (l : List Bg) (t : Te) (m : Int), 0 ≤ m → m < f → rsD (f + 1) l t m = rsD f l t m
 | 0, l, t, m, h0, h => by
  have h : m < (0 : Int) := h
  omega
 | f + 1, l, t, m, h0, h => by
  have h : m < ((f + 1 : Nat) : Int) := h
  rw [rsD, rsD]
  unfold rsS
  rw [qhy (M := m - 1) (fun t k hk hm => qym f l t k hk (by omega)) (fun t k => qwn f l t k) _ _ (Int.le_refl _)]
theorem zbk {l : List Bg} {t : Te} {m : Int} : ∀ (d f : Nat), 0 ≤ m → m < f → rsD (f + d) l t m = rsD f l t m
 | 0, f, _, _ => rfl
 | d + 1, f, h0, hf => by
  rw [← Nat.add_assoc, qym (f + d) l t m h0 (by omega)]
  exact zbk d f h0 hf
def rsA (l : List Bg) (t : Te) (m : Int) : Te × Int := rsD (m.toNat + 1) l t m
theorem z2o (l : List Bg) (t : Te) (m : Int) : (rsA l t m).2 ≤ m - 1 := qwn _ _ _ _
theorem qov {l : List Bg} {t : Te} {m : Int} (h0 : 0 ≤ m) : rsA l t m = rsS (rsA l) l t m := by
 unfold rsA
 rw [rsD]
 unfold rsS
 rw [qhy (g := rsD m.toNat l) (g' := fun t m => rsD (m.toNat + 1) l t m) (M := m - 1) (fun t k hk hm => ?_) (fun t k => qwn _ l t k) _ _ (Int.le_refl _)]
 have := zbk (l := l) (t := t) (m := k) (m.toNat - (k.toNat + 1)) (k.toNat + 1) hk (by omega)
 rw [show k.toNat + 1 + (m.toNat - (k.toNat + 1)) = m.toNat by omega] at this
 exact this
section
def qsy (σ : Int → Tr) (l : List Bg) : Prop := ∀ v u, lkB l v = some u → σ v = zs σ u
theorem z3v (σ : Int → Tr) : qsy σ [] := fun v u e => by cases e
theorem q9k {l : List Bg} (h : SB l) {σ : Int → Tr} (hs : qsy σ l) (t : Te) : zs σ (fol l t) = zs σ t :=
 qvs h (P := fun t r => zs σ r = zs σ t) (fun t _ => rfl) (fun t u h0 e ih => by rw [ih, q6j σ h0, hs _ _ e]) t
theorem zer {l : List Bg} (h : SB l) {v : Int} {t : Te} (hn : lkB l v = none) (hb : bgB ⟨v, t⟩ = true) (σ : Int → Tr) : qsy σ (q5w l v t) ↔ qsy σ l ∧ σ v = zs σ t := by
 constructor
 ·intro q
  refine ⟨fun w u e => q w u ?_, q v t ?_⟩
  ·rw [qxr h hn hb, if_neg fun e' => ?_]
   ·exact e
   ·rw [e', hn] at e
    cases e
  ·rw [qxr h hn hb, if_pos rfl]
 ·rintro ⟨q1, q2⟩ w u e
  rw [qxr h hn hb] at e
  split at e
  ·rename_i hw
   injection e with e
   subst hw e
   exact q2
  ·exact q1 w u e
theorem qt9 {σ : Int → Tr} {x y : Te} (hx : qi x = true) (hx0 : x.k ≠ 0) (hs : x.k = y.k ∧ x.n = y.n ∧ x.s = y.s ∧ x.l.length = y.l.length) : zs σ x = zs σ y ↔ ∀ p ∈ x.l.zip y.l, zs σ p.1 = zs σ p.2 := by
 obtain ⟨h1, h2, h3, h4⟩ := hs
 rcases q41 hx with h | h | h | h
 ·exact absurd h.1 hx0
 ·rw [q5a σ h.1, q5a σ (h1 ▸ h.1), h.2.2, h2]
  simp
 ·rw [q5b σ h.1, q5b σ (h1 ▸ h.1), h.2.2, h3]
  simp
 ·rw [q5d σ h.1, q5d σ (h1 ▸ h.1), h3, h4]
  constructor
  ·intro q p hp
   obtain ⟨j, hj, rfl⟩ := List.mem_iff_getElem.1 hp
   have hj' : j < x.l.length ∧ j < y.l.length := by rw [List.length_zip] at hj; omega
   have := (qgq q).2.2 j hj'.2
   rw [List.getElem_zip]
   simp only [List.getD_eq_getElem?_getD, List.getElem?_eq_getElem hj'.1, List.getElem?_eq_getElem hj'.2, Option.getD_some] at this
   exact this
  ·intro q
   refine qnj fun j hj => ?_
   have hj1 : j < x.l.length := by omega
   have hjz : j < (x.l.zip y.l).length := by rw [List.length_zip]; omega
   have := q (x.l.zip y.l)[j] (List.getElem_mem hjz)
   rw [List.getElem_zip] at this
   simp only [List.getD_eq_getElem?_getD, List.getElem?_eq_getElem hj, List.getElem?_eq_getElem hj1, Option.getD_some]
   exact this
theorem z1o {σ : Int → Tr} {x y : Te} (hx : qi x = true) (hy : qi y = true) (hx0 : x.k ≠ 0) (hy0 : y.k ≠ 0) (hs : ¬ (x.k = y.k ∧ x.n = y.n ∧ x.s = y.s ∧ x.l.length = y.l.length)) : zs σ x ≠ zs σ y := by
 intro e
 rcases q41 hx with h | h | h | h <;> rcases q41 hy with g | g | g | g
 all_goals first
  | exact (hx0 h.1).elim
  | exact (hy0 g.1).elim
  | skip
 ·rw [q5a σ h.1, q5a σ g.1] at e
  have e := qbc e
  injection e with e
  exact hs ⟨h.1.trans g.1.symm, e, h.2.1.trans g.2.1.symm, by rw [h.2.2, g.2.2]⟩
 ·rw [q5a σ h.1, q5b σ g.1] at e
  have e := qbc e
  cases e
 ·rw [q5a σ h.1, q5d σ g.1] at e
  exact q1w (fun _ _ => by simp) e.symm
 ·rw [q5b σ h.1, q5a σ g.1] at e
  have e := qbc e
  cases e
 ·rw [q5b σ h.1, q5b σ g.1] at e
  have e := qbc e
  injection e with e
  exact hs ⟨h.1.trans g.1.symm, h.2.1.trans g.2.1.symm, e, by rw [h.2.2, g.2.2]⟩
 ·rw [q5b σ h.1, q5d σ g.1] at e
  exact q1w (fun _ _ => by simp) e.symm
 ·rw [q5d σ h.1, q5a σ g.1] at e
  exact q1w (fun _ _ => by simp) e
 ·rw [q5d σ h.1, q5b σ g.1] at e
  exact q1w (fun _ _ => by simp) e
 ·rw [q5d σ h.1, q5d σ g.1] at e
  obtain ⟨e1, e2, -⟩ := qgq e
  exact hs ⟨h.1.trans g.1.symm, h.2.trans g.2.symm, e1, e2⟩
structure PrOk (l : List Bg) (n : Int) (E : (Int → Tr) → Prop) (r : Int × List Bg × Int) : Prop where
 sb : SB r.2.1
 len : (r.2.1.length : Int) ≤ r.2.2
 n1 : n ≤ r.2.2
 n2 : r.2.2 ≤ 1048576
 ac : qls l → qls r.2.1
 code : r.1 = 0 ∨ r.1 = 2 ∨ r.1 = 4 ∨ r.1 = 9
 ok : r.1 = 0 → ∀ σ, qsy σ r.2.1 ↔ qsy σ l ∧ E σ
 no : r.1 = 4 → ∀ σ, qsy σ l → ¬ E σ
theorem qnf {l : List Bg} {n : Int} {E : (Int → Tr) → Prop} {c : Int} (h : SB l) (hl : (l.length : Int) ≤ n) (hn : n ≤ 1048576) (hc : c = 2 ∨ c = 9) : PrOk l n E (c, l, n) :=
 ⟨h, hl, Int.le_refl _, hn, fun h => h, by rcases hc with h | h <;> simp [h], fun h => (by rcases hc with rfl | rfl <;> cases h), fun h => (by rcases hc with rfl | rfl <;> cases h)⟩
theorem qni {l : List Bg} {n : Int} {E : (Int → Tr) → Prop} {v : Int} {t : Te} (h : SB l) (hl : (l.length : Int) + 1 ≤ n) (hn : n ≤ 1048576) (hv : lkB l v = none) (hb : bgB ⟨v, t⟩ = true) (hr : ∀ w, Oc w t → ¬ Rch l v w) (hE : ∀ σ, E σ ↔ σ v = zs σ t) : PrOk l n E (0, q5w l v t, n) :=
 ⟨zaj h hv hb, by rw [z3s]; simpa using hl, Int.le_refl _, hn, fun ha => z9h h ha hv hb hr, .inl rfl, fun _ σ => by rw [hE σ]; exact zer h hv hb σ, fun h => by cases h⟩
theorem z8o {g : List Bg → Int → Te → Te → Int × List Bg × Int} (hg : ∀ l n a b, SB l → (l.length : Int) ≤ n → n ≤ 1048576 → qi a = true → qi b = true → PrOk l n (fun σ => zs σ a = zs σ b) (g l n a b)) : ∀ (ps : List (Te × Te)) (l : List Bg) (n : Int), SB l → (l.length : Int) ≤ n → n ≤ 1048576 → (∀ p ∈ ps, qi p.1 = true ∧ qi p.2 = true) → PrOk l n (fun σ => ∀ p ∈ ps, zs σ p.1 = zs σ p.2) (prL g ps l n)
 | [], l, n, h, hl, hn, hv => ⟨h, hl, Int.le_refl _, hn, fun h => h, .inl rfl, fun _ σ => ⟨fun q => ⟨q, fun p hp => by cases hp⟩, fun q => q.1⟩, fun h => by cases h⟩
 | p :: ps, l, n, h, hl, hn, hv => by
  obtain ⟨v1, v2⟩ := hv p List.mem_cons_self
  have a := hg l n p.1 p.2 h hl hn v1 v2
  unfold prL
  split
  ·rename_i h0
   have b := z8o hg ps _ _ a.sb a.len a.n2 fun q hq => hv q (List.mem_cons_of_mem _ hq)
   refine ⟨b.sb, b.len, Int.le_trans a.n1 b.n1, b.n2, fun q => b.ac (a.ac q), b.code, fun q σ => ?_, fun q σ hs hE => ?_⟩
   ·rw [b.ok q σ, a.ok h0 σ]
    simp only [List.mem_cons, forall_eq_or_imp]
    exact ⟨fun q => ⟨q.1.1, q.1.2, q.2⟩, fun q => ⟨⟨q.1, q.2.1⟩, q.2.2⟩⟩
   ·exact b.no q σ ((a.ok h0 σ).2 ⟨hs, hE p List.mem_cons_self⟩) fun p hp => hE p (List.mem_cons_of_mem _ hp)
  ·rename_i h0
   exact ⟨a.sb, a.len, a.n1, a.n2, a.ac, a.code, fun q => absurd q h0, fun q σ hs hE => a.no q σ hs (hE p List.mem_cons_self)⟩
theorem z5x {l : List Bg} {v w : Int} (hw : lkB l w = none) (hne : v ≠ w) : ¬ Rch l v w := fun h => by
 cases h with
 | refl => exact hne rfl
 | step e _ _ =>
  rw [hw] at e
  cases e
theorem zhl {g : List Bg → Int → Te → Te → Int × List Bg × Int} (hg : ∀ l n a b, SB l → (l.length : Int) ≤ n → n ≤ 1048576 → qi a = true → qi b = true → PrOk l n (fun σ => zs σ a = zs σ b) (g l n a b)) {l : List Bg} {n : Int} {x y : Te} (h : SB l) (hl : (l.length : Int) + 1 ≤ n) (hn : n ≤ 1048576) (hx : qi x = true) (hy : qi y = true) (ex : x.k = 0 → lkB l x.n = none) (ey : y.k = 0 → lkB l y.n = none) : PrOk l n (fun σ => zs σ x = zs σ y) (prX g l n x y) := by
 unfold prX
 by_cases c1 : x.k = 0 ∧ y.k = 0
 ·rw [if_pos c1]
  obtain ⟨x1, x2, -⟩ := q6d hx c1.1
  obtain ⟨y1, y2, -⟩ := q6d hy c1.2
  by_cases c2 : y.n < x.n
  ·rw [if_pos c2]
   refine qni h hl hn (ex c1.1) (qj8.2 ⟨x1, x2, hy, fun _ => c2⟩) (fun w hw => ?_) fun σ => ?_
   ·rw [← qr6 hy c1.2 hw]
    exact z5x (ey c1.2) (by omega)
   ·rw [q6j σ c1.1]
  ·rw [if_neg c2]
   by_cases c3 : x.n < y.n
   ·rw [if_pos c3]
    refine qni h hl hn (ey c1.2) (qj8.2 ⟨y1, y2, hx, fun _ => c3⟩) (fun w hw => ?_) fun σ => ?_
    ·rw [← qr6 hx c1.1 hw]
     exact z5x (ex c1.1) (by omega)
    ·rw [q6j σ c1.2]
     exact eq_comm
   ·rw [if_neg c3]
    refine ⟨h, by show (l.length : Int) ≤ n; omega, Int.le_refl _, hn, fun h => h, .inl rfl, fun _ σ => ⟨fun q => ⟨q, ?_⟩, fun q => q.1⟩, fun h => by cases h⟩
    rw [q6j σ c1.1, q6j σ c1.2]
    congr 1
    omega
 ·rw [if_neg c1]
  by_cases c2 : y.k = 0
  ·rw [if_pos c2]
   have hx0 : x.k ≠ 0 := fun e => c1 ⟨e, c2⟩
   obtain ⟨y1, y2, -⟩ := q6d hy c2
   by_cases c3 : z1i l y.n x = true
   ·rw [if_pos c3]
    exact qnf h (by omega) hn (.inr rfl)
   ·rw [if_neg c3]
    refine qni h hl hn (ey c2) (qj8.2 ⟨y1, y2, hx, fun e => absurd e hx0⟩) (z5j h (ey c2) hx (by simpa using c3)) fun σ => ?_
    rw [q6j σ c2]
    exact eq_comm
  ·rw [if_neg c2]
   by_cases c3 : x.k = 0
   ·rw [if_pos c3]
    obtain ⟨x1, x2, -⟩ := q6d hx c3
    by_cases c4 : z1i l x.n y = true
    ·rw [if_pos c4]
     exact qnf h (by omega) hn (.inr rfl)
    ·rw [if_neg c4]
     refine qni h hl hn (ex c3) (qj8.2 ⟨x1, x2, hy, fun e => absurd e c2⟩) (z5j h (ex c3) hy (by simpa using c4)) fun σ => ?_
     rw [q6j σ c3]
   ·rw [if_neg c3]
    by_cases c4 : x.k = y.k ∧ x.n = y.n ∧ x.s = y.s ∧ x.l.length = y.l.length
    ·rw [if_pos c4]
     have a := z8o hg (x.l.zip y.l) l n h (by omega) hn fun p hp => by
      obtain ⟨p1, p2⟩ := List.of_mem_zip (show (p.1, p.2) ∈ x.l.zip y.l from hp)
      exact ⟨q7p hx p1, q7p hy p2⟩
     exact ⟨a.sb, a.len, a.n1, a.n2, a.ac, a.code, fun q σ => by rw [qt9 hx c3 c4]; exact a.ok q σ, fun q σ hs hE => a.no q σ hs ((qt9 hx c3 c4).1 hE)⟩
    ·rw [if_neg c4]
     exact ⟨h, by show (l.length : Int) ≤ n; omega, Int.le_refl _, hn, fun h => h, .inr (.inr (.inl rfl)), fun h => (by cases h), fun _ σ _ => z1o hx hy c3 c2 c4⟩
theorem z9l : ∀ (f : Nat) (l : List Bg) (n : Int) (a b : Te), SB l → (l.length : Int) ≤ n → n ≤ 1048576 → qi a = true → qi b = true → PrOk l n (fun σ => zs σ a = zs σ b) (prD f l n a b)
 | 0, l, n, a, b, h, hl, hn, ha, hb => qnf h hl hn (.inl rfl)
 | f + 1, l, n, a, b, h, hl, hn, ha, hb => by
  unfold prD prS
  split
  ·exact qnf h hl hn (.inl rfl)
  ·have q := zhl (z9l f) (l := l) (n := n + 1) (x := fol l a) (y := fol l b) h (by omega) (by omega) (q3x h a ha) (q3x h b hb) (z4d h a) (z4d h b)
   refine ⟨q.sb, q.len, by have := q.n1; omega, q.n2, q.ac, q.code, fun c σ => ?_, fun c σ hs hE => q.no c σ hs ?_⟩
   ·rw [q.ok c σ]
    constructor
    ·rintro ⟨r1, r2⟩
     rw [q9k h r1, q9k h r1] at r2
     exact ⟨r1, r2⟩
    ·rintro ⟨r1, r2⟩
     refine ⟨r1, ?_⟩
     rw [q9k h r1, q9k h r1]
     exact r2
   ·show zs σ (fol l a) = zs σ (fol l b)
    rw [q9k h hs, q9k h hs]
    exact hE
theorem z9g {l : List Bg} {n : Int} {a b : Te} (h : SB l) (hl : (l.length : Int) ≤ n) (hn : n ≤ 1048576) (ha : qi a = true) (hb : qi b = true) : PrOk l n (fun σ => zs σ a = zs σ b) (prA l n a b) := z9l _ l n a b h hl hn ha hb
def qll (l : List Bg) : List Nat → Te → Option Lab
 | [], t => if (fol l t).k = 0 then some (.v (fol l t).n) else if (fol l t).k = 1 then some (.i (fol l t).n) else if (fol l t).k = 2 then some (.at (fol l t).s) else if (fol l t).k = 3 then some (.fn (fol l t).s (fol l t).l.length) else none
 | j :: p, t => if (fol l t).k = 3 ∧ j < (fol l t).l.length then qll l p ((fol l t).l.getD j default) else none
def jz (l : List Bg) (t : Te) : Tr := fun p => qll l p t
section
variable {l : List Bg} {t : Te}
theorem qwd (h : (fol l t).k = 0) : jz l t = jj (.v (fol l t).n) := by
 funext p
 match p with
 | [] => simp [jz, qll, jj, h]
 | j :: p => simp [jz, qll, jj, h]
theorem qmz (h : (fol l t).k = 1) : jz l t = jj (.i (fol l t).n) := by
 funext p
 match p with
 | [] => simp [jz, qll, jj, h]
 | j :: p => simp [jz, qll, jj, h]
theorem qmy (h : (fol l t).k = 2) : jz l t = jj (.at (fol l t).s) := by
 funext p
 match p with
 | [] => simp [jz, qll, jj, h]
 | j :: p => simp [jz, qll, jj, h]
theorem qnn (h : (fol l t).k = 3) : jz l t = q09 (fol l t).s (fol l t).l.length fun j => jz l ((fol l t).l.getD j default) := by
 funext p
 match p with
 | [] => simp [jz, qll, q09, h]
 | j :: p => simp [jz, qll, q09, h]
theorem z7f {u : Te} (h : fol l t = fol l u) : jz l t = jz l u := by
 funext p
 match p with
 | [] => simp only [jz, qll, h]
 | j :: p => simp only [jz, qll, h]
end
theorem z5s {l : List Bg} (h : SB l) {σ : Int → Tr} (hs : qsy σ l) : ∀ (p : List Nat) (t : Te), qi t = true → q1q σ (jz l t) p = zs σ t p
 | p, t, ht => by
  rw [← q9k h hs t]
  have hf := q3x h t ht
  rcases q41 hf with q | q | q | q
  ·rw [qwd q.1, qnw, q6j σ q.1]
  ·rw [qmz q.1, q6q _ (fun w => by simp), q5a σ q.1]
  ·rw [qmy q.1, q6q _ (fun w => by simp), q5b σ q.1]
  ·rw [qnn q.1, qjh, q5d σ q.1]
   match p with
   | [] => rfl
   | j :: p =>
    show (if _ then _ else _) = (if _ then _ else _)
    split
    ·rename_i hj
     exact z5s h hs p _ (q4z hf hj)
    ·rfl
def z2d (l : List Bg) (v : Int) : Tr := jz l (.mk 0 v ⟨#[]⟩ [])
theorem qo2 {l : List Bg} : ∀ (p : List Nat) (t : Te), qi t = true → zs (z2d l) t p = jz l t p
 | p, t, ht => by
  rcases q41 ht with q | q | q | q
  ·rw [q6j _ q.1]
   have e : t = .mk 0 t.n ⟨#[]⟩ [] := by
    cases t with
    | mk k n s l =>
     obtain ⟨q1, -, -, q2, q3⟩ := q
     have q1 : k = 0 := q1
     have q2 : s = ⟨#[]⟩ := q2
     have q3 : l = [] := q3
     rw [q1, q2, q3]
     rfl
   show jz l (.mk 0 t.n ⟨#[]⟩ []) p = jz l t p
   rw [← e]
  ·have hf : fol l t = t := qc9 (by omega)
   rw [q5a _ q.1, qmz (by rw [hf]; exact q.1), hf]
  ·have hf : fol l t = t := qc9 (by omega)
   rw [q5b _ q.1, qmy (by rw [hf]; exact q.1), hf]
  ·have hf : fol l t = t := qc9 (by omega)
   rw [q5d _ q.1, qnn (by rw [hf]; exact q.1), hf]
   match p with
   | [] => rfl
   | j :: p =>
    show (if _ then _ else _) = (if _ then _ else _)
    split
    ·rename_i hj
     exact qo2 p _ (q4z ht hj)
    ·rfl
theorem zd6 {l : List Bg} (h : SB l) : qsy (z2d l) l := fun v u e => by
 rw [show zs (z2d l) u = jz l u from funext fun p => qo2 p u (h.bg e).2.2.1]
 exact z7f (qpf h (t := .mk 0 v ⟨#[]⟩ []) rfl e)
theorem z1j {l : List Bg} (h : SB l) : ∀ (p : List Nat) (t : Te), qi t = true → ∀ w, jz l t p = some (.v w) → (0 ≤ w ∧ w ≤ 1099511627776) ∧ ∀ j q, jz l t (p ++ j :: q) = none
 | p, t, ht, w, hw => by
  have hf := q3x h t ht
  rcases q41 hf with q | q | q | q
  ·rw [qwd q.1] at hw ⊢
   match p with
   | [] =>
    have hw := Option.some.inj hw
    injection hw with hw
    subst hw
    exact ⟨⟨q.2.1, q.2.2.1⟩, fun j q => rfl⟩
   | j :: p => cases hw
  ·rw [qmz q.1] at hw
   match p with
   | [] => cases Option.some.inj hw
   | j :: p => cases hw
  ·rw [qmy q.1] at hw
   match p with
   | [] => cases Option.some.inj hw
   | j :: p => cases hw
  ·rw [qnn q.1] at hw ⊢
   match p with
   | [] => cases Option.some.inj hw
   | i :: p =>
    have hw : (if i < _ then _ else none) = _ := hw
    split at hw
    ·rename_i hi
     obtain ⟨g1, g2⟩ := z1j h p _ (q4z hf hi) w hw
     refine ⟨g1, fun j q => ?_⟩
     show (if i < _ then _ else none) = none
     rw [if_pos hi]
     exact g2 j q
    ·cases hw
theorem z8h (s : So) (c : Ce) : Good (q1s s c) := by
 have key : ∀ (p : List Nat) (c : Ce) (w : Int), qsm s p c = some (.v w) → ∀ j q, qsm s (p ++ j :: q) c = none := by
  intro p
  induction p with
  | nil =>
   intro c w h j q
   unfold qsm at h
   show (if _ ∧ _ then _ else none) = none
   rw [if_neg fun e => ?_]
   rw [if_neg (by omega), if_neg (by omega), if_pos e.1] at h
   cases h
  | cons i p ih =>
   intro c w h j q
   unfold qsm at h
   show (if _ ∧ _ then _ else none) = none
   split at h
   ·rename_i hi
    rw [if_pos hi]
    exact ih _ w h j q
   ·cases h
 exact fun p w hw j q => key p c w hw j q
theorem qwg {g : Te → Int → Te × Int} {m : Int} (h : m < 0) : ∀ ts, rsL g ts m = ([], m)
 | [] => rfl
 | t :: ts => by unfold rsL; rw [if_pos h]
theorem z2e {α : Type} [Inhabited α] (f : α → Tr) (nm : ByteArray) (ts : List α) : (List.range ts.length).map (kid (q09 nm ts.length fun j => f (ts.getD j default))) = ts.map f := by
 refine List.ext_getElem (by simp) fun i h1 h2 => ?_
 have hi : i < ts.length := by simpa using h2
 rw [List.getElem_map, List.getElem_map, List.getElem_range, z0l hi, List.getD_eq_getElem?_getD, List.getElem?_eq_getElem hi]
 rfl
theorem zfu {l : List Bg} (h : SB l) : ∀ (f : Nat) (t : Te) (m : Int), qi t = true → 0 ≤ m → m ≤ f → (rsA l t m).2 = (rdT f (jz l t) m).2 ∧ (0 ≤ (rsA l t m).2 → (rsA l t m).1 = (rdT f (jz l t) m).1)
 | 0, t, m, ht, h0, hm => by
  have hm : m ≤ (0 : Int) := hm
  rw [qov h0]
  unfold rsS
  rw [qwg (by omega)]
  exact ⟨rfl, fun q => by have q : (0 : Int) ≤ m - 1 := q; omega⟩
 | f + 1, t, m, ht, h0, hm => by
  have hm : m ≤ ((f + 1 : Nat) : Int) := hm
  have hf := q3x h t ht
  rw [qov h0]
  unfold rsS rdT
  by_cases hb : m - 1 < 0
  ·rw [qwg hb, if_pos hb]
   exact ⟨rfl, fun q => by have q : (0 : Int) ≤ m - 1 := q; omega⟩
  ·rw [if_neg hb]
   rcases q41 hf with q | q | q | q
   ·rw [qwd q.1, q.1, q.2.2.2.1, q.2.2.2.2]
    exact ⟨rfl, fun _ => rfl⟩
   ·rw [qmz q.1, q.1, q.2.1, q.2.2]
    exact ⟨rfl, fun _ => rfl⟩
   ·rw [qmy q.1, q.1, q.2.1, q.2.2]
    exact ⟨rfl, fun _ => rfl⟩
   ·rw [qnn q.1, q.1, q.2]
    have hL : ∀ (ts : List Te) (k : Int), (∀ u ∈ ts, qi u = true) → k ≤ f → (rsL (rsA l) ts k).2 = (rdL (rdT f) (ts.map (jz l)) k).2 ∧ (0 ≤ (rsL (rsA l) ts k).2 → (rsL (rsA l) ts k).1 = (rdL (rdT f) (ts.map (jz l)) k).1) := by
     intro ts
     induction ts with
     | nil => exact fun k _ _ => ⟨rfl, fun _ => rfl⟩
     | cons u ts ih =>
      intro k hv hk
      simp only [List.map_cons, rsL, rdL]
      by_cases hk0 : k < 0
      ·simp only [if_pos hk0]
       exact ⟨trivial, fun _ => trivial⟩
      ·simp only [if_neg hk0]
       obtain ⟨a1, a2⟩ := zfu h f u k (hv u List.mem_cons_self) (by omega) hk
       have hle := z2o l u k
       obtain ⟨b1, b2⟩ := ih (rsA l u k).2 (fun x hx => hv x (List.mem_cons_of_mem _ hx)) (by omega)
       rw [← a1]
       refine ⟨b1, fun hp => ?_⟩
       have hle2 := z2x (g := rsA l) (fun t m => z2o l t m) ts (rsA l u k).2
       rw [a2 (by omega), b2 hp]
    have hk := hL (fol l t).l (m - 1) (fun u hu => q7p hf hu) (by omega)
    rw [← z2e (jz l) (fol l t).s] at hk
    exact ⟨hk.1, fun hp => by
     show Te.mk 3 0 _ _ = Te.mk 3 0 _ _
     rw [hk.2 hp]⟩
end
theorem zkg (a b : Int) : fnD 17 [.i a, .i b] = .i (a / b) := rfl
theorem SB.lt {l : List Bg} (h : SB l) {i j : Nat} (hij : i < j) (hj : j < l.length) : (l.getD i default).v < (l.getD j default).v := by
 have := List.pairwise_iff_getElem.1 h.1 i j (by omega) hj hij
 rw [List.getD_eq_getElem?_getD, List.getD_eq_getElem?_getD, List.getElem?_eq_getElem hj, List.getElem?_eq_getElem (show i < l.length by omega)]
 exact this
def qnz (v : Int) : Nat → List Bg → Int
 | _, [] => -1
 | k, x :: l => if x.v = v then (k : Int) else qnz v (k + 1) l
theorem q9r {v : Int} : ∀ (k : Nat) (l : List Bg), (qnz v k l = -1 ∧ lkB l v = none) ∨ ∃ j : Nat, j < l.length ∧ qnz v k l = ((k + j : Nat) : Int) ∧ lkB l v = some (l.getD j default).u ∧ (l.getD j default).v = v
 | k, [] => .inl ⟨rfl, rfl⟩
 | k, y :: l => by
  unfold qnz lkB
  split
  ·rename_i h
   exact .inr ⟨0, by simp, by simp, rfl, h⟩
  ·rcases q9r (v := v) (k + 1) l with h | ⟨j, h1, h2, h3, h4⟩
   ·exact .inl h
   ·exact .inr ⟨j + 1, by simpa using h1, by rw [h2]; omega, by rw [h3]; rfl, h4⟩
theorem zds {l : List Bg} (h : SB l) {v : Int} {j : Nat} (hj : j < l.length) (e : (l.getD j default).v = v) : qnz v 0 l = j := by
 rcases q9r (v := v) 0 l with ⟨-, h2⟩ | ⟨i, h1, h2, -, h4⟩
 ·exact absurd e (qn0 h2 _ (q19 hj))
 ·rw [h2]
  rcases Nat.lt_trichotomy i j with q | q | q
  ·have := h.lt q hj
   omega
  ·omega
  ·have := h.lt q h1
   omega
theorem z5m {l : List Bg} {v : Int} (h : ∀ j, j < l.length → (l.getD j default).v ≠ v) : qnz v 0 l = -1 := by
 rcases q9r (v := v) 0 l with ⟨h1, -⟩ | ⟨i, h1, -, -, h4⟩
 ·exact h1
 ·exact absurd h4 (h i h1)
def qgv : List D → Option (List D)
 | [l, v] => if SB (dBs l) then some [.i (qnz v.int 0 (dBs l))] else none
 | _ => none
theorem q8h : FOk zp qgv := qr5 fun ds outs hw hg => by
 obtain ⟨d, r, rfl, hd, e, r', rfl, he, rfl⟩ := hw
 obtain ⟨l, rfl, hl, hok⟩ := qji hd
 obtain ⟨v, rfl, hv⟩ := wfI he
 simp only [qgv, zl, z5, Option.ite_none_right_eq_some, Option.some.injEq] at hg
 obtain ⟨hs, rfl⟩ := hg
 rw [q5r, zi]
 refine ⟨fun st => ∃ lo hi : Nat, lo ≤ hi ∧ hi ≤ l.length ∧ st = [.i lo, .i hi] ∧ (∀ j, j < lo → (l.getD j default).v < v) ∧ (∀ j, hi ≤ j → j < l.length → v ≤ (l.getD j default).v), fun st => (st.getD 1 .u).int.toNat - (st.getD 0 .u).int.toNat, ⟨0, l.length, Nat.zero_le _, Nat.le_refl _, by simp only [X.evs, q9, qd, qa, qb, qc, X.says, X.ev, X.evs, evl, qe, gnA, gnT] <;> rfl, fun j hj => absurd hj (Nat.not_lt_zero _), fun j h1 h2 => by omega⟩, ?_⟩
 rintro st - ⟨lo, hi, h1, h2, rfl, hA, hB⟩
 rw [qd]
 refine ⟨fun hlt => ?_, fun hlt => ?_⟩
 ·simp only [q9, qd, qa, qb, qc, X.says, X.ev, X.evs, evl, qe, gnA, gnT] at hlt
  obtain ⟨m, hm⟩ : ∃ m : Nat, ((lo : Int) + (hi : Int)) / 2 = (m : Int) := ⟨(lo + hi) / 2, by omega⟩
  have hmk : m < l.length := by omega
  simp only [q9, qd, qa, qb, qc, X.says, X.ev, X.evs, evl, qe, gnA, gnT, zkg, hm, q27 eB hmk, z8i]
  refine ⟨⟨⟨by omega, by omega⟩, by omega⟩, ⟨by omega, by omega⟩, fun hx => ⟨⟨by omega, by omega⟩, ?_⟩, fun hx => ?_⟩
  ·rw [jm, if_pos rfl]
   refine ⟨⟨m + 1, hi, by omega, h2, by simp, fun j hj => ?_, hB⟩, ?_⟩
   ·rcases Nat.lt_or_ge j m with q | q
    ·have := hs.lt q hmk
     omega
    ·have : j = m := by omega
     rw [this]
     exact hx
   ·simp [D.int]
    omega
  ·rw [jm, if_pos rfl]
   refine ⟨⟨lo, m, by omega, by omega, by simp, hA, fun j h3 h4 => ?_⟩, ?_⟩
   ·rcases Nat.lt_or_ge m j with q | q
    ·have := hs.lt q h4
     omega
    ·have : j = m := by omega
     rw [this]
     omega
   ·simp [D.int]
    omega
 ·simp only [q9, qd, qa, qb, qc, X.says, X.ev, X.evs, evl, qe, gnA, gnT] at hlt
  have hlh : lo = hi := by omega
  subst hlh
  by_cases hll : lo < l.length
  ·simp only [q9, qd, qa, qb, qc, X.says, X.ev, X.evs, evl, qe, gnA, gnT, q27 eB hll, z8i]
   have e0 : decide ((lo : Int) < (l.length : Int)) = true := by simp; omega
   have e1 : decide (0 ≤ (lo : Int)) = true := by simp
   simp only [e0, e1, Bool.not_true, Bool.false_or, Bool.true_and, true_and, and_self]
   refine ⟨fun hx => ?_, fun hx => ?_⟩
   ·rw [zds hs hll (by simpa using hx)]
   ·rw [z5m fun j hj he => ?_]
    rcases Nat.lt_trichotomy j lo with q | q | q
    ·have := hA j q
     omega
    ·rw [q] at he
     exact absurd he (by simpa using hx)
    ·have h3 := hs.lt q hj
     have h4 := hB lo (Nat.le_refl _) hll
     omega
  ·have e0 : decide ((lo : Int) < (l.length : Int)) = false := by simp; omega
   simp only [q9, qd, qa, qb, qc, X.says, X.ev, X.evs, evl, qe, gnA, gnT, e0, Bool.not_false, Bool.true_or, Bool.false_and, true_and, and_self]
   refine ⟨fun hx => (by cases hx), fun _ => ?_⟩
   rw [z5m fun j hj he => ?_]
   have := hA j (by omega)
   omega
def qyq : List D → Option (List D)
 | [l, t] => if SB (dBs l) ∧ qi (dT t) = true then some [eT (fol (dBs l) (dT t))] else none
 | _ => none
theorem q9u : FOk zu qyq := qj3 q8h fun ds outs hw hg => by
 obtain ⟨d, r, rfl, hd, e, r', rfl, he, rfl⟩ := hw
 obtain ⟨l, rfl, hl, hok⟩ := qji hd
 obtain ⟨t, rfl, ht⟩ := wfT he
 simp only [qyq, zl, zb, Option.ite_none_right_eq_some, Option.some.injEq] at hg
 obtain ⟨⟨hs, hv⟩, rfl⟩ := hg
 rw [q47, zi]
 refine ⟨fun st => ∃ u : Te, st = [eT u, eT zT] ∧ qi u = true ∧ fol l u = fol l t, fun st => if (dT (st.getD 0 .u)).k = 0 then (dT (st.getD 0 .u)).n.toNat + 1 else 0, ⟨t, by simp only [X.evs, q9, qd, qa, qb, qc, X.says, X.ev, X.evs, evl, qe, gnA, gnT] <;> rfl, hv, rfl⟩, ?_⟩
 rintro st - ⟨u, rfl, hu, hf⟩
 rw [qd]
 refine ⟨fun hk => ?_, fun hk => ?_⟩
 ·simp only [q9, qd, qa, qb, qc, X.says, X.ev, X.evs, evl, qe, gnA, gnT] at hk
  rcases q9r (v := u.n) 0 l with ⟨e1, e2⟩ | ⟨j, hj, e1, e2, e3⟩
  ·simp only [q9, qd, qa, qb, qc, X.says, X.ev, X.evs, evl, qe, gnA, gnT, qgv, zl, if_pos hs, e1]
   refine ⟨fun _ => ?_, fun h => absurd h (by decide)⟩
   rw [← hf, z0s e2]
  ·rw [Nat.zero_add] at e1
   simp only [q9, qd, qa, qb, qc, X.says, X.ev, X.evs, evl, qe, gnA, gnT, qgv, zl, if_pos hs, e1, q27 eB hj, zfh]
   refine ⟨fun h => by omega, fun _ => ⟨⟨by omega, by omega⟩, ?_⟩⟩
   rw [jm, if_pos rfl]
   obtain ⟨b1, -, b3, b4⟩ := hs.bg e2
   refine ⟨⟨(l.getD j default).u, rfl, b3, by rw [← hf, qpf hs hk e2]⟩, ?_⟩
   simp only [List.getD_cons_zero, zb, if_pos hk]
   split
   ·rename_i h0
    have := b4 h0
    have := (q6d b3 h0).1
    omega
   ·omega
 ·simp only [q9, qd, qa, qb, qc, X.says, X.ev, X.evs, evl, qe, gnA, gnT] at hk ⊢
  rw [← hf, qc9 hk]
def z4j : List D → Option (List D)
 | [l, v, t] => if (dBs l).length ≤ 9000000 then some [.r ((q5w (dBs l) v.int (dT t)).map eB)] else none
 | _ => none
theorem qod : FOk jx z4j := qm0 fun ds outs hw hg => by
 obtain ⟨d, r, rfl, hd, e, r', rfl, he, f, r2, rfl, hf, rfl⟩ := hw
 obtain ⟨l, rfl, hl, hok⟩ := qji hd
 obtain ⟨v, rfl, hv⟩ := wfI he
 obtain ⟨t, rfl, ht⟩ := wfT hf
 simp only [z4j, zl, z5, zb, Option.ite_none_right_eq_some, Option.some.injEq] at hg
 obtain ⟨hll, rfl⟩ := hg
 rw [q55, zi]
 refine ⟨fun st => ∃ (k : Nat) (out : List Bg) (put : Bool), k ≤ l.length ∧ st = [.r (out.map eB), .b put, .i k] ∧ q5w l v t = out ++ (if put then l.drop k else q5w (l.drop k) v t) ∧ out.length ≤ k + 1 ∧ (put = false → out.length ≤ k), fun st => l.length - (st.getD 2 .u).int.toNat, ⟨0, [], false, Nat.zero_le _, by simp only [X.evs, q9, qd, qa, qb, qc, X.says, X.ev, X.evs, evl, qe, gnA, gnT] <;> rfl, rfl, by simp, fun _ => by simp⟩, ?_⟩
 rintro st - ⟨k, out, put, hk, rfl, hP, ho, ho2⟩
 have hol : (out.map eB).length = out.length := List.length_map _
 rw [qd]
 refine ⟨fun hlt => ?_, fun hlt => ?_⟩
 ·simp only [q9, qd, qa, qb, qc, X.says, X.ev, X.evs, evl, qe, gnA, gnT] at hlt
  have hkl : k < l.length := by omega
  have hdr := q4o hkl
  rw [hdr] at hP
  have e0 : decide ((k : Int) < (l.length : Int)) = true := by simp; omega
  have e1 : decide (0 ≤ (k : Int)) = true := by simp
  have ha2 : ∀ x : Bg, out.map eB ++ [eB x] = (out ++ [x]).map eB := fun x => by simp
  have ha3 : ∀ x y : Bg, out.map eB ++ [eB x] ++ [eB y] = (out ++ [x] ++ [y]).map eB := fun x y => by simp
  simp only [q9, qd, qa, qb, qc, X.says, X.ev, X.evs, evl, qe, gnA, gnT, q27 eB hkl, z8i, e0, e1, Bool.or_true, true_and, and_self, zg9]
  generalize l.getD k default = z at hP
  refine ⟨fun hx => ?_, fun hx => ?_⟩
  ·simp only [Bool.and_eq_true, Bool.not_eq_true', decide_eq_true_eq] at hx
   obtain ⟨rfl, hx⟩ := hx
   have ho2 := ho2 rfl
   simp only [List.length_append, List.length_cons, List.length_nil, hol]
   refine ⟨by omega, by omega, ⟨by omega, by omega⟩, ?_⟩
   rw [jm, if_pos rfl]
   refine ⟨⟨k + 1, out ++ [⟨v, t⟩] ++ [z], true, by omega, by rw [ha3]; simp, ?_, by simp; omega, fun h => by cases h⟩, ?_⟩
   ·rw [hP]
    simp [q5w, hx]
   ·simp [D.int]
    omega
  ·refine ⟨by omega, ⟨by omega, by omega⟩, ?_⟩
   rw [jm, if_pos rfl]
   refine ⟨⟨k + 1, out ++ [z], put, by omega, by rw [ha2]; simp, ?_, by simp; omega, fun h => by have := ho2 h; simp; omega⟩, ?_⟩
   ·rw [hP]
    cases put with
    | true => simp
    | false =>
     have hx : ¬ v < z.v := by simpa using hx
     simp [q5w, hx]
   ·simp [D.int]
    omega
 ·simp only [q9, qd, qa, qb, qc, X.says, X.ev, X.evs, evl, qe, gnA, gnT] at hlt
  have hkn : k = l.length := by omega
  subst hkn
  rw [List.drop_length] at hP
  simp only [q9, qd, qa, qb, qc, X.says, X.ev, X.evs, evl, qe, gnA, gnT, hol, zg9]
  refine ⟨fun hx => ⟨by omega, ?_⟩, fun hx => ?_⟩
  ·have hx : put = false := by simpa using hx
   rw [hP, hx]
   simp [q5w]
  ·have hx : put = true := by simpa using hx
   rw [hP, hx]
   simp
def mOc (ds : List D) : Nat := mO (dBs (ds.getD 0 .u)) (dT (ds.getD 2 .u)) (dIs (ds.getD 3 .u))
instance (l : List Bg) (s : List Int) : Decidable (OkS l s) := inferInstanceAs (Decidable (_ ∧ _))
def z1w : List D → Option (List D)
 | [l, v, t, s] => if SB (dBs l) ∧ (dBs l).length ≤ 9000000 ∧ qi (dT t) = true ∧ OkS (dBs l) (dIs s) then some [.b (ocA (dBs l) v.int (dT t) (dIs s)).1, eIs (ocA (dBs l) v.int (dT t) (dIs s)).2] else none
 | _ => none
theorem qlx : FOk zy z1w := q2t (m := mOc) q7o fun N ih => qjt q8h ih fun ds outs hw hg => by
 obtain ⟨d, r, rfl, hd, e, r', rfl, he, f, r2, rfl, hf, q, r3, rfl, hq, rfl⟩ := hw
 obtain ⟨l, rfl, hl, hok⟩ := qji hd
 obtain ⟨v, rfl, hv⟩ := wfI he
 obtain ⟨t, rfl, ht⟩ := wfT hf
 obtain ⟨s, rfl, hsl, hsi⟩ := zdc qw5 hq
 simp only [q15, mOc, z1w, List.getD_cons_zero, List.getD_cons_succ, zl, z5, zb, q3f, Option.ite_none_right_eq_some, Option.some.injEq] at hg
 obtain ⟨hm, ⟨hb, hll, hvt, hS⟩, rfl⟩ := hg
 have hlen := hS.len
 have hrec : ∀ {u : Te} {s' : List Int}, qi u = true → OkS l s' → mO l u s' < N → q15 mOc N z1w [.r (l.map eB), .i v, eT u, eIs s'] = some [.b (ocA l v u s').1, eIs (ocA l v u s').2] := fun {u s'} h1 h2 h3 => by
  simp only [q15, mOc, z1w, List.getD_cons_zero, List.getD_cons_succ, zl, z5, zb, q3f]
  rw [if_pos h3, if_pos ⟨hb, hll, h1, h2⟩]
 rw [z92 hb hS]
 unfold ocS
 rw [q4e, qd]
 refine ⟨fun hk => ?_, fun hk => ?_⟩
 ·simp only [q9, qd, qa, qb, qc, X.says, X.ev, X.evs, evl, qe, gnA, gnT] at hk
  rw [if_pos hk]
  rcases q9r (v := t.n) 0 l with ⟨e1, e2⟩ | ⟨j, hj, e1, e2, e3⟩
  ·simp only [q9, qd, qa, qb, qc, X.says, X.ev, X.evs, evl, qe, gnA, gnT, qgv, zl, if_pos hb, e1, e2]
   refine ⟨fun _ => trivial, fun h => absurd h (by decide)⟩
  ·rw [Nat.zero_add] at e1
   rw [e2]
   have hF : qgv [.r (l.map eB), .i t.n] = some [.i (j : Int)] := by simp only [qgv, zl, z5, if_pos hb, e1]
   rw [q9, qd]
   refine ⟨by simp only [q9, qd, qa, qb, qc, X.says, X.ev, X.evs, evl, qe, gnA, gnT, hF], fun h => ?_, fun _ => ?_⟩
   ·simp only [q9, qd, qa, qb, qc, X.says, X.ev, X.evs, evl, qe, gnA, gnT, hF] at h
    omega
   rw [zi]
   refine ⟨fun st => ∃ k : Nat, k ≤ s.length ∧ st = [.b false, .i k] ∧ ∀ i, i < k → s.getD i 0 ≠ t.n, fun st => s.length - (st.getD 1 .u).int.toNat, ⟨0, Nat.zero_le _, rfl, fun i hi => absurd hi (Nat.not_lt_zero _)⟩, ?_⟩
   rintro st - ⟨k, hk1, rfl, hP⟩
   rw [qd]
   refine ⟨fun hlt => ?_, fun hlt => ?_⟩
   ·simp only [q9, qd, qa, qb, qc, X.says, X.ev, X.evs, evl, qe, gnA, gnT, q7v] at hlt
    have hkl : k < s.length := by omega
    simp only [q9, qd, qa, qb, qc, X.says, X.ev, X.evs, evl, qe, gnA, gnT, q7v, z52 hkl]
    refine ⟨⟨by omega, by omega⟩, fun hx => ?_, fun hx => ⟨⟨by omega, by omega⟩, ?_⟩⟩
    ·have hmem : t.n ∈ s := by
      rw [← hx]
      exact q19 hkl
     simp [hmem]
    ·rw [jm, if_pos rfl]
     refine ⟨⟨k + 1, by omega, by simp, q4q hP hx⟩, ?_⟩
     simp [D.int]
     omega
   ·simp only [q9, qd, qa, qb, qc, X.says, X.ev, X.evs, evl, qe, gnA, gnT, q7v] at hlt
    have hkn : k = s.length := by omega
    subst hkn
    have hns : t.n ∉ s := fun hm => by
     obtain ⟨i, hi, e⟩ := List.getElem_of_mem hm
     exact hP i hi (by rw [List.getD_eq_getElem?_getD, List.getElem?_eq_getElem hi]; exact e)
    have h1 := hS.snoc hns e2
    have hlt2 : mO l (l.getD j default).u (s ++ [t.n]) < N := by
     have h2 := h1.len
     have h3 := (yt.1 (hb.bg e2).2.2.1).1
     have h4 := qca t
     unfold mO at hm ⊢
     simp only [List.length_append, List.length_cons, List.length_nil] at *
     have e4 : l.length - s.length = (l.length - (s.length + 0 + 1)) + 1 := by omega
     rw [e4] at hm
     omega
    have hR := hrec (hb.bg e2).2.2.1 h1 hlt2
    simp only [q9, qd, qa, qb, qc, X.says, X.ev, X.evs, evl, qe, gnA, gnT, hF, q7v, q27 eB hj, zfh, z11, hR, if_neg hns]
    exact ⟨by omega, by omega, by omega⟩
 ·simp only [q9, qd, qa, qb, qc, X.says, X.ev, X.evs, evl, qe, gnA, gnT] at hk
  rw [if_neg hk, zi]
  refine ⟨fun st => ∃ (k : Nat) (s' : List Int), k ≤ t.l.length ∧ st = [.b false, .i k, eIs s'] ∧ OkS l s' ∧ s.length ≤ s'.length ∧ ocL (ocA l v) (t.l.drop k) s' = ocL (ocA l v) t.l s, fun st => t.l.length - (st.getD 1 .u).int.toNat, ⟨0, s, Nat.zero_le _, rfl, hS, Nat.le_refl _, rfl⟩, ?_⟩
  rintro st - ⟨k, s', hk1, rfl, hS', hsl', hP⟩
  have htl := ht.l
  rw [qd]
  refine ⟨fun hlt => ?_, fun hlt => ?_⟩
  ·simp only [q9, qd, qa, qb, qc, X.says, X.ev, X.evs, evl, qe, gnA, gnT] at hlt
   have hkl : k < t.l.length := by omega
   rw [q4o hkl] at hP
   have ha := q6y hkl
   have hlt2 : mO l (t.l.getD k default) s' < N := by
    unfold mO at hm ⊢
    have : (l.length - s'.length) * 2001 ≤ (l.length - s.length) * 2001 := Nat.mul_le_mul_right _ (Nat.sub_le_sub_left hsl' _)
    generalize (l.length - s'.length) * 2001 = A at this ⊢
    generalize (l.length - s.length) * 2001 = B at this hm
    omega
   have hR := hrec (q4z hvt hkl) hS' hlt2
   have hG := z8u (v := v) (t := t.l.getD k default) hS'
   simp only [q9, qd, qa, qb, qc, X.says, X.ev, X.evs, evl, qe, gnA, gnT, q87 hkl, hR]
   rw [ocL] at hP
   generalize ocA l v (t.l.getD k default) s' = R at hP hG
   refine ⟨⟨by omega, by omega⟩, fun hx => ?_, fun hx => ⟨⟨by omega, by omega⟩, ?_⟩⟩
   ·rw [if_pos hx] at hP
    rw [← hP]
   ·rw [if_neg (by simpa using hx)] at hP
    rw [jm, if_pos rfl]
    refine ⟨⟨k + 1, R.2, by omega, by simp, hG.1, Nat.le_trans hsl' hG.2, hP⟩, ?_⟩
    simp [D.int]
    omega
  ·simp only [q9, qd, qa, qb, qc, X.says, X.ev, X.evs, evl, qe, gnA, gnT] at hlt
   have hkn : k = t.l.length := by omega
   subst hkn
   rw [List.drop_length] at hP
   simp only [q9, qd, qa, qb, qc, X.says, X.ev, X.evs, evl, qe, gnA, gnT]
   rw [← hP]
   rfl
def ze5 : List D → Option (List D)
 | [l, v, t] => if SB (dBs l) ∧ (dBs l).length ≤ 9000000 ∧ qi (dT t) = true then some [.b (z1i (dBs l) v.int (dT t))] else none
 | _ => none
theorem qlk : FOk jh ze5 := qi6 qlx fun ds outs hw hg => by
 obtain ⟨d, r, rfl, hd, e, r', rfl, he, f, r2, rfl, hf, rfl⟩ := hw
 obtain ⟨l, rfl, hl, hok⟩ := qji hd
 obtain ⟨v, rfl, hv⟩ := wfI he
 obtain ⟨t, rfl, ht⟩ := wfT hf
 simp only [ze5, zl, z5, zb, Option.ite_none_right_eq_some, Option.some.injEq] at hg
 obtain ⟨⟨hb, hll, hvt⟩, rfl⟩ := hg
 have hR : z1w [.r (l.map eB), .i v, eT t, .r []] = some [.b (ocA l v t []).1, eIs (ocA l v t []).2] := by
  show z1w [.r (l.map eB), .i v, eT t, eIs []] = _
  simp only [z1w, zl, z5, zb, q3f]
  rw [if_pos ⟨hb, hll, hvt, List.nodup_nil, fun w hw => by cases hw⟩]
 simp only [q4f, q9, qd, qa, qb, qc, X.says, X.ev, X.evs, evl, qe, gnA, gnT, hR]
 rfl
def eSt (l : List Bg) (n : Int) : D := .a [.r (l.map eB), .i n]
theorem qko (l : List Bg) (n : Int) : (eSt l n).fld 0 = .r (l.map eB) := rfl
theorem qbj (l : List Bg) (n : Int) : (eSt l n).fld 1 = .i n := rfl
theorem qqh (l : List Bg) (n m : Int) : D.a ((eSt l n).fs.set 1 (.i m)) = eSt l m := rfl
theorem zi6 (l m : List Bg) (n : Int) : D.a ((eSt l n).fs.set 0 (.r (m.map eB))) = eSt m n := rfl
def prQ (l : List Bg) (n : Int) (a b : Te) : Bool := decide (SB l) && (decide ((l.length : Int) ≤ n) && (decide (n ≤ 1048576) && (qi a && qi b)))
def qv0 : List D → Option (List D)
 | [q, a, b] => if prQ (dBs (q.fld 0)) (q.fld 1).int (dT a) (dT b) = true then some [.i (prA (dBs (q.fld 0)) (q.fld 1).int (dT a) (dT b)).1, eSt (prA (dBs (q.fld 0)) (q.fld 1).int (dT a) (dT b)).2.1 (prA (dBs (q.fld 0)) (q.fld 1).int (dT a) (dT b)).2.2] else none
 | _ => none
def mPr (ds : List D) : Nat := 1048576 - ((ds.getD 0 .u).fld 1).int.toNat
theorem zhk {l m : List Te} {k : Nat} (h1 : k < l.length) (h2 : k < m.length) : (l.zip m).drop k = (l.getD k default, m.getD k default) :: (l.zip m).drop (k + 1) := by
 have h3 : k < (l.zip m).length := by rw [List.length_zip]; omega
 rw [List.drop_eq_getElem_cons h3, List.getElem_zip, List.getD_eq_getElem?_getD, List.getD_eq_getElem?_getD, List.getElem?_eq_getElem h1, List.getElem?_eq_getElem h2]
 rfl
theorem qrp : FOk z4 qv0 := q2t (m := mPr) q4j fun N ih => qbg ih q9u qod qlk fun ds outs hw hg => by
 obtain ⟨d, r, rfl, hd, e, r', rfl, he, f, r2, rfl, hf, rfl⟩ := hw
 obtain ⟨ds0, rfl, hl0⟩ := hd.st_of (fs := [qoh, .int .i64]) rfl
 obtain ⟨d0, d1, rfl, h0, h1⟩ := qvi hl0
 obtain ⟨l, rfl, hl, hok⟩ := qji h0
 obtain ⟨n, rfl, hn⟩ := wfI h1
 obtain ⟨a, rfl, ha⟩ := wfT he
 obtain ⟨b, rfl, hb⟩ := wfT hf
 have hE : D.a [.r (l.map eB), .i n] = eSt l n := rfl
 rw [hE] at hg ⊢
 simp only [q15, mPr, qv0, List.getD_cons_zero, qko, qbj, zl, z5, zb, Option.ite_none_right_eq_some, Option.some.injEq] at hg
 obtain ⟨hm, hQ, rfl⟩ := hg
 simp only [prQ, Bool.and_eq_true, decide_eq_true_eq] at hQ
 obtain ⟨hs, hln, hnm, hva, hvb⟩ := hQ
 have hFa : qyq [.r (l.map eB), eT a] = some [eT (fol l a)] := by simp only [qyq, zl, zb]; rw [if_pos ⟨hs, hva⟩]
 have hFb : qyq [.r (l.map eB), eT b] = some [eT (fol l b)] := by simp only [qyq, zl, zb]; rw [if_pos ⟨hs, hvb⟩]
 have hB : ∀ v t, z4j [.r (l.map eB), .i v, eT t] = some [.r ((q5w l v t).map eB)] := fun v t => by simp only [z4j, zl, zb, z5]; rw [if_pos (by omega)]
 have hW : ∀ v t, qi t = true → ze5 [.r (l.map eB), .i v, eT t] = some [.b (z1i l v t)] := fun v t h => by simp only [ze5, zl, zb, z5]; rw [if_pos ⟨hs, by omega, h⟩]
 have hx := q3x hs a hva
 have hy := q3x hs b hvb
 rw [z9n (by omega)]
 unfold prS
 rw [q23, qd]
 refine ⟨fun hk => ?_, fun hk => ?_⟩
 ·simp only [q9, qd, qa, qb, qc, X.says, X.ev, X.evs, evl, qe, gnA, gnT, qbj] at hk ⊢
  rw [if_pos hk]
 ·simp only [q9, qd, qa, qb, qc, X.says, X.ev, X.evs, evl, qe, gnA, gnT, qbj] at hk
  rw [if_neg hk]
  have hWx := hW (fol l b).n _ hx
  have hWy := hW (fol l a).n _ hy
  simp only [q9, qd, qa, qb, qc, X.says, X.ev, X.evs, evl, qe, gnA, gnT, qko, qbj, qqh, zi6, hFa, hFb, hB, hWx, hWy]
  generalize hxe : fol l a = x at *
  generalize hye : fol l b = y at *
  unfold prX
  refine ⟨⟨by omega, by omega⟩, fun hc => ?_, fun hc => ?_⟩
  ·simp only [Bool.and_eq_true, decide_eq_true_eq] at hc
   rw [if_pos hc]
   refine ⟨fun h => ?_, fun h => ⟨fun h' => ?_, fun h' => ?_⟩⟩
   ·rw [if_pos h]
   ·rw [if_neg h, if_pos h']
   ·rw [if_neg h, if_neg h']
  ·have hc : ¬ (x.k = 0 ∧ y.k = 0) := by simpa using hc
   rw [if_neg hc]
   refine ⟨fun hy0 => ⟨fun _ => ⟨fun h => ?_, fun h => ?_⟩, fun h => absurd hy0 h⟩, fun hy0 => ⟨fun hx0 => ⟨fun h => ?_, fun h => ?_⟩, fun hx0 => ⟨fun h => ?_, fun h => ?_⟩⟩⟩
   ·rw [if_pos hy0, if_pos h]
   ·rw [if_pos hy0, if_neg (by simp [h])]
   ·rw [if_neg hy0, if_pos hx0, if_pos h]
   ·rw [if_neg hy0, if_pos hx0, if_neg (by simp [h])]
   ·rw [if_neg hy0, if_neg hx0, if_neg fun q => by simp [q.1, q.2.1, q.2.2.1, q.2.2.2] at h]
   ·have hsame : x.k = y.k ∧ x.n = y.n ∧ x.s = y.s ∧ x.l.length = y.l.length := by
     simp at h
     obtain ⟨⟨⟨q1, q2⟩, q3⟩, q4⟩ := h
     exact ⟨q1, q2, q3, by omega⟩
    rw [if_neg hy0, if_neg hx0, if_pos hsame, zi]
    have hxl : (x.l.length : Int) ≤ 2513169434843 := by
     have := qft x.l
     have := qp3 x
     have := (yt.1 hx).1
     omega
    refine ⟨fun st => ∃ (k : Nat) (l' : List Bg) (n' : Int), k ≤ x.l.length ∧ st = [.i 0, .i k, eSt l' n'] ∧ SB l' ∧ (l'.length : Int) ≤ n' ∧ n + 1 ≤ n' ∧ n' ≤ 1048576 ∧ prL prA ((x.l.zip y.l).drop k) l' n' = prL prA (x.l.zip y.l) l (n + 1), fun st => x.l.length - (st.getD 1 .u).int.toNat, ⟨0, l, n + 1, Nat.zero_le _, by simp only [X.evs, q9, qd, qa, qb, qc, X.says, X.ev, X.evs, evl, qe, gnA, gnT, qbj, qqh] <;> rfl, hs, by omega, by omega, by omega, rfl⟩, ?_⟩
    rintro st - ⟨k, l', n', hk1, rfl, hs', hln', hnn', hnm', hP⟩
    rw [qd]
    refine ⟨fun hlt => ?_, fun hlt => ?_⟩
    ·simp only [q9, qd, qa, qb, qc, X.says, X.ev, X.evs, evl, qe, gnA, gnT, qko, qbj, qqh, hFa, hxe] at hlt
     have hkx : k < x.l.length := by omega
     have hky : k < y.l.length := by omega
     have hvx := q4z hx hkx
     have hvy := q4z hy hky
     rw [zhk hkx hky, prL] at hP
     have hR : q15 mPr N qv0 [eSt l' n', eT (x.l.getD k default), eT (y.l.getD k default)] = some [.i (prA l' n' (x.l.getD k default) (y.l.getD k default)).1, eSt (prA l' n' (x.l.getD k default) (y.l.getD k default)).2.1 (prA l' n' (x.l.getD k default) (y.l.getD k default)).2.2] := by
      simp only [q15, mPr, qv0, List.getD_cons_zero, qko, qbj, zl, z5, zb]
      rw [if_pos (by omega), if_pos (by simp only [prQ, Bool.and_eq_true, decide_eq_true_eq]; exact ⟨hs', hln', hnm', hvx, hvy⟩)]
     have hG := z9g hs' hln' hnm' hvx hvy
     simp only [q9, qd, qa, qb, qc, X.says, X.ev, X.evs, evl, qe, gnA, gnT, qko, qbj, qqh, hFa, hFb, hxe, hye, q87 hkx, q87 hky, hR]
     generalize prA l' n' (x.l.getD k default) (y.l.getD k default) = R at hP hG
     refine ⟨⟨by omega, by omega, by omega, by omega⟩, fun h => ?_, fun h => ⟨⟨by omega, by omega⟩, ?_⟩⟩
     ·rw [if_neg (by simpa using h)] at hP
      rw [← hP]
     ·rw [if_pos (by simpa using h)] at hP
      rw [jm, if_pos rfl]
      refine ⟨⟨k + 1, R.2.1, R.2.2, by omega, by simp, hG.sb, hG.len, by have := hG.n1; omega, hG.n2, hP⟩, ?_⟩
      simp [D.int]
      omega
    ·simp only [q9, qd, qa, qb, qc, X.says, X.ev, X.evs, evl, qe, gnA, gnT, qko, qbj, qqh, hFa, hxe] at hlt
     have hkn : k = x.l.length := by omega
     rw [List.drop_eq_nil_of_le (by rw [List.length_zip]; omega)] at hP
     simp only [q9, qd, qa, qb, qc, X.says, X.ev, X.evs, evl, qe, gnA, gnT]
     rw [← hP]
     rfl
def qrr (l : List Bg) (a b : Te) : List Bg × Int × Int := if (prA l l.length a b).1 = 0 then ((prA l l.length a b).2.1, (prA l l.length a b).2.2, 0) else ([], (prA l l.length a b).2.2, (prA l l.length a b).1)
def zdm : List D → Option (List D)
 | [q, a, b] => if dBs q = [] ∧ qi (dT a) = true ∧ qi (dT b) = true then some [.r ((qrr [] (dT a) (dT b)).1.map eB), .i (qrr [] (dT a) (dT b)).2.1, .i (qrr [] (dT a) (dT b)).2.2] else none
 | _ => none
theorem z2p : SB [] := ⟨.nil, fun x hx => by cases hx⟩
theorem qit : FOk ja zdm := qh8 qrp fun ds outs hw hg => by
 obtain ⟨d, r, rfl, hd, e, r', rfl, he, f, r2, rfl, hf, rfl⟩ := hw
 obtain ⟨l, rfl, hl, hok⟩ := qji hd
 obtain ⟨a, rfl, ha⟩ := wfT he
 obtain ⟨b, rfl, hb⟩ := wfT hf
 simp only [zdm, zl, zb, Option.ite_none_right_eq_some, Option.some.injEq] at hg
 obtain ⟨⟨rfl, hva, hvb⟩, rfl⟩ := hg
 have hz : ∀ d : D, D.a ((D.a [.r [], .i 0]).fs.set 0 (.r (([] : List Bg).map eB))) = eSt [] 0 := fun _ => rfl
 have hR : qv0 [eSt [] 0, eT a, eT b] = some [.i (prA [] 0 a b).1, eSt (prA [] 0 a b).2.1 (prA [] 0 a b).2.2] := by
  simp only [qv0, qko, qbj, zl, z5, zb]
  rw [if_pos (by simp only [prQ, Bool.and_eq_true, decide_eq_true_eq]; exact ⟨z2p, by simp, by decide, hva, hvb⟩)]
 simp only [q3m, q9, qd, qa, qb, qc, X.says, X.ev, X.evs, evl, qe, gnA, gnT, hz .u, hR, qko, qbj, qrr, List.length_nil]
 show _ ∧ _
 refine ⟨fun h => ?_, fun h => ?_⟩
 ·have h : ¬ (prA [] 0 a b).1 = 0 := by simpa using h
  simp [h]
 ·have h : (prA [] 0 a b).1 = 0 := by simpa using h
  simp [h]
theorem z7p : qk 4 = some .bool := by kernel_rfl
theorem zkl {d : D} {E : TypeId} (hE : qk E = some .bool) (h : Wf d (.row E)) : ∃ l : List Bool, d = .r (l.map D.b) := by
 obtain ⟨l, rfl, h1, h2⟩ := h.row_of (te := .bool) hE
 obtain ⟨m, rfl, h3⟩ := q95 (e := D.b) (P := fun _ => True) fun x hx => (h2 x hx).bool.imp fun a e => ⟨e, trivial⟩
 exact ⟨m, rfl⟩
theorem zcb {l : List Bool} {k : Nat} (h : k < l.length) : (D.r (l.map D.b)).get (k : Int) = .b (l.getD k false) := q27 D.b h
mutual
def q6b (l : List Bg) (dn : List Bool) : Te → Bool
 | .mk k n _ ts => if k = 0 then decide (qnz n 0 l < 0) || dn.getD (qnz n 0 l).toNat false else qb1 l dn ts
def qb1 (l : List Bg) (dn : List Bool) : List Te → Bool
 | [] => true
 | t :: ts => q6b l dn t && qb1 l dn ts
end
theorem z3u (l : List Bg) (dn : List Bool) (t : Te) : q6b l dn t = if t.k = 0 then decide (qnz t.n 0 l < 0) || dn.getD (qnz t.n 0 l).toNat false else qb1 l dn t.l := by
 cases t
 rw [q6b]
 rfl
theorem que {l : List Bg} {dn : List Bool} : ∀ {ts : List Te}, qb1 l dn ts = false → ∃ t ∈ ts, q6b l dn t = false
 | [], h => by cases h
 | t :: ts, h => by
  unfold qb1 at h
  cases e : q6b l dn t with
  | false => exact ⟨t, List.mem_cons_self, e⟩
  | true =>
   rw [e, Bool.true_and] at h
   obtain ⟨u, hu, h⟩ := que h
   exact ⟨u, List.mem_cons_of_mem _ hu, h⟩
theorem z86 {l : List Bg} {dn : List Bool} : ∀ t : Te, q6b l dn t = false → ∃ w, Oc w t ∧ ∃ j : Nat, j < l.length ∧ (l.getD j default).v = w ∧ dn.getD j false = false := by
 refine Te.ind fun k n s ts ih h => ?_
 rw [z3u] at h
 split at h
 ·rename_i hk
  simp only [Bool.or_eq_false_iff, decide_eq_false_iff_not] at h
  obtain ⟨h1, h2⟩ := h
  rcases q9r (v := (Te.mk k n s ts).n) 0 l with ⟨e, -⟩ | ⟨j, hj, e, -, e3⟩
  ·rw [e] at h1
   exact absurd (by decide) h1
  ·rw [Nat.zero_add] at e
   rw [e, Int.toNat_natCast] at h2
   exact ⟨_, .here hk rfl, j, hj, e3, h2⟩
 ·obtain ⟨u, hu, h⟩ := que h
  obtain ⟨w, hw, h⟩ := ih u hu h
  exact ⟨w, .arg hu hw, h⟩
def quw : List D → Option (List D)
 | [l, dn, t] => if SB (dBs l) ∧ dn.rs.length = (dBs l).length then some [.b (q6b (dBs l) (dn.rs.map D.tt) (dT t))] else none
 | _ => none
def mT2 (ds : List D) : Nat := szT (dT (ds.getD 2 .u))
theorem z20 (dn : List Bool) : (D.r (dn.map D.b)).rs.map D.tt = dn := by
 show (dn.map D.b).map D.tt = dn
 rw [List.map_map]
 exact List.map_id'' (fun x => rfl) dn
theorem z0w (dn : List Bool) : (D.r (dn.map D.b)).rs.length = dn.length := by
 show (dn.map D.b).length = _
 exact List.length_map _
theorem qj0 : FOk zn quw := q2t (m := mT2) q6c fun N ih => qg7 q8h ih fun ds outs hw hg => by
 obtain ⟨d, r, rfl, hd, e, r', rfl, he, f, r2, rfl, hf, rfl⟩ := hw
 obtain ⟨l, rfl, hl, hok⟩ := qji hd
 obtain ⟨dn, rfl⟩ := zkl z7p he
 obtain ⟨t, rfl, ht⟩ := wfT hf
 simp only [q15, mT2, quw, List.getD_cons_zero, List.getD_cons_succ, zl, zb, z20, z0w, Option.ite_none_right_eq_some, Option.some.injEq] at hg
 obtain ⟨hm, ⟨hs, hdl⟩, rfl⟩ := hg
 rw [z3u, q3k, qd]
 refine ⟨fun hk => ?_, fun hk => ?_⟩
 ·simp only [q9, qd, qa, qb, qc, X.says, X.ev, X.evs, evl, qe, gnA, gnT] at hk
  rw [if_pos hk]
  rcases q9r (v := t.n) 0 l with ⟨e1, -⟩ | ⟨j, hj, e1, -, -⟩
  ·have h1 : decide ((-1 : Int) < 0) = true := by decide
   simp only [q9, qd, qa, qb, qc, X.says, X.ev, X.evs, evl, qe, gnA, gnT, qgv, zl, if_pos hs, e1, h1, Bool.not_true, Bool.not_false, Bool.true_or, and_self]
  ·rw [Nat.zero_add] at e1
   have h1 : decide ((j : Int) < 0) = false := by simp
   have h2 : j < dn.length := by omega
   simp only [q9, qd, qa, qb, qc, X.says, X.ev, X.evs, evl, qe, gnA, gnT, qgv, zl, if_pos hs, e1, h1, zcb h2, z0w, Int.toNat_natCast, Bool.not_true, Bool.not_false, Bool.false_or, and_self]
   exact ⟨by simp, by simp; omega⟩
 ·simp only [q9, qd, qa, qb, qc, X.says, X.ev, X.evs, evl, qe, gnA, gnT] at hk
  rw [if_neg hk, zi]
  refine ⟨fun st => ∃ k : Nat, k ≤ t.l.length ∧ st = [.b false, .i k] ∧ qb1 l dn (t.l.drop k) = qb1 l dn t.l, fun st => t.l.length - (st.getD 1 .u).int.toNat, ⟨0, Nat.zero_le _, rfl, rfl⟩, ?_⟩
  rintro st - ⟨k, hk1, rfl, hP⟩
  have htl := ht.l
  rw [qd]
  refine ⟨fun hlt => ?_, fun hlt => ?_⟩
  ·simp only [q9, qd, qa, qb, qc, X.says, X.ev, X.evs, evl, qe, gnA, gnT] at hlt
   have hkl : k < t.l.length := by omega
   rw [q4o hkl, qb1] at hP
   have ha := q6y hkl
   have hR : q15 mT2 N quw [.r (l.map eB), .r (dn.map .b), eT (t.l.getD k default)] = some [.b (q6b l dn (t.l.getD k default))] := by
    simp only [q15, mT2, quw, List.getD_cons_zero, List.getD_cons_succ, zl, zb, z20, z0w]
    rw [if_pos (by omega), if_pos ⟨hs, hdl⟩]
   simp only [q9, qd, qa, qb, qc, X.says, X.ev, X.evs, evl, qe, gnA, gnT, q87 hkl, hR]
   refine ⟨⟨by omega, by omega⟩, fun hx => ?_, fun hx => ⟨⟨by omega, by omega⟩, ?_⟩⟩
   ·have hx : q6b l dn (t.l.getD k default) = false := by simpa using hx
    rw [hx, Bool.false_and] at hP
    rw [← hP]
   ·have hx : q6b l dn (t.l.getD k default) = true := by simpa using hx
    rw [hx, Bool.true_and] at hP
    rw [jm, if_pos rfl]
    refine ⟨⟨k + 1, by omega, by simp, hP⟩, ?_⟩
    simp [D.int]
    omega
  ·simp only [q9, qd, qa, qb, qc, X.says, X.ev, X.evs, evl, qe, gnA, gnT] at hlt
   have hkn : k = t.l.length := by omega
   subst hkn
   rw [List.drop_length] at hP
   simp only [q9, qd, qa, qb, qc, X.says, X.ev, X.evs, evl, qe, gnA, gnT]
   rw [← hP]
   rfl
def q78 : List Bool → Nat
 | [] => 0
 | b :: l => (if b = true then 0 else 1) + q78 l
theorem z0r : ∀ n, q78 (List.replicate n false) = n
 | 0 => rfl
 | n + 1 => by
  rw [List.replicate_succ, q78, z0r n]
  simp
  omega
theorem z0k : ∀ {l : List Bool} {k : Nat}, k < l.length → l.getD k false = false → q78 (l.set k true) + 1 = q78 l
 | b :: l, 0, _, h => by
  have h : b = false := h
  subst h
  show 0 + q78 l + 1 = 1 + q78 l
  omega
 | b :: l, k + 1, hk, h => by
  have := z0k (l := l) (k := k) (by simpa using hk) (by simpa using h)
  rw [List.set_cons_succ, q78, q78]
  omega
theorem qyb : ∀ {l : List Bool}, 0 < q78 l → ∃ k, k < l.length ∧ l.getD k false = false
 | b :: l, h => by
  cases b with
  | false => exact ⟨0, by simp, rfl⟩
  | true =>
   have h : 0 < 0 + q78 l := h
   obtain ⟨k, h1, h2⟩ := qyb (l := l) (by omega)
   exact ⟨k + 1, by simpa using h1, h2⟩
theorem zjr {l : List Bg} (h : SB l) {j : Nat} (hj : j < l.length) : lkB l (l.getD j default).v = some (l.getD j default).u := z47 h.1 (q19 hj)
theorem z7r {l : List Bg} (hs : SB l) (ha : qls l) {dn : List Bool} (hdl : dn.length = l.length) (hpos : 0 < q78 dn) : ∃ i, i < l.length ∧ dn.getD i false = false ∧ q6b l dn (l.getD i default).u = true := by
 obtain ⟨r, hr⟩ := ha
 by_cases hex : ∃ i, i < l.length ∧ dn.getD i false = false ∧ q6b l dn (l.getD i default).u = true
 ·exact hex
 ·exfalso
  have key : ∀ (n i : Nat), r (l.getD i default).v < n → i < l.length → dn.getD i false = false → False := by
   intro n
   induction n with
   | zero => exact fun i h _ _ => absurd h (Nat.not_lt_zero _)
   | succ n ih =>
    intro i hn hi hd
    have hno : q6b l dn (l.getD i default).u = false := by
     cases e : q6b l dn (l.getD i default).u with
     | false => rfl
     | true => exact absurd ⟨i, hi, hd, e⟩ hex
    obtain ⟨w, hw, j, hj, hjw, hjd⟩ := z86 _ hno
    have := hr _ _ (zjr hs hi) w hw
    exact ih j (by rw [hjw]; omega) hj hjd
  obtain ⟨k, h1, h2⟩ := qyb hpos
  exact key _ k (Nat.lt_succ_self _) (by omega) h2
open Classical in
noncomputable def gV5 : List D → Option (List D)
 | [l] => if SB (dBs l) ∧ qls (dBs l) ∧ (dBs l).length ≤ 9000000 then some [.b true] else none
 | _ => none
open Classical in
theorem z1y (l : List Bg) (outs : List D) : gV5 [.r (l.map eB)] = some outs ↔ (SB l ∧ qls l ∧ l.length ≤ 9000000) ∧ outs = [.b true] := by
 show (if SB (dBs (.r (l.map eB))) ∧ qls (dBs (.r (l.map eB))) ∧ (dBs (.r (l.map eB))).length ≤ 9000000 then some [D.b true] else none) = _ ↔ _
 rw [zl]
 split
 ·rename_i h
  exact ⟨fun e => ⟨h, (Option.some.inj e).symm⟩, fun e => by rw [e.2]⟩
 ·rename_i h
  exact ⟨fun e => (by cases e), fun e => absurd e.1 h⟩
theorem qau : FOk yi gV5 := qlr q0s qj0 fun ds outs hw hg => by
 obtain ⟨d, r, rfl, hd, rfl⟩ := hw
 obtain ⟨l, rfl, hl, hok⟩ := qji hd
 rw [z1y] at hg
 obtain ⟨⟨hs, ha, hll⟩, rfl⟩ := hg
 rw [q54, zi]
 refine ⟨fun st => ∃ k : Nat, k ≤ l.length ∧ st = [.b false, .i k], fun st => l.length - (st.getD 1 .u).int.toNat, ⟨0, Nat.zero_le _, rfl⟩, ?_⟩
 rintro st - ⟨k, hk, rfl⟩
 rw [qd]
 refine ⟨fun hlt => ?_, fun hlt => ?_⟩
 ·simp only [q9, qd, qa, qb, qc, X.says, X.ev, X.evs, evl, qe, gnA, gnT] at hlt
  have hkl : k < l.length := by omega
  obtain ⟨b1, b2, b3, -⟩ := qj8.1 (hs.2 _ (q19 hkl))
  have e1 : decide ((l.getD k default).v < 0) = false := decide_eq_false (by omega)
  have e2 : decide (1099511627776 < (l.getD k default).v) = false := decide_eq_false (by omega)
  have e3 : (decide (0 < (k : Int)) && decide ((l.getD k default).v ≤ (((D.r (l.map eB)).get ((k : Int) - 1)).fld 0).int)) = false := by
   cases k with
   | zero => simp
   | succ j =>
    have hj : j < l.length := by omega
    have := hs.lt (i := j) (j := j + 1) (Nat.lt_succ_self j) hkl
    have e : ((j + 1 : Nat) : Int) - 1 = (j : Int) := by omega
    rw [e, q27 eB hj, z8i, z5]
    simp only [Bool.and_eq_false_iff]
    exact .inr (decide_eq_false (by omega))
  have e4 : decide (0 ≤ (k : Int)) = true := by simp
  have e5 : decide ((k : Int) < (l.length : Int)) = true := by simp; omega
  have g1 : (!decide (0 < (k : Int)) || decide (0 ≤ (k : Int) - 1)) = true := by
   rcases Nat.eq_zero_or_pos k with h | h
   ·subst h
    rfl
   ·rw [decide_eq_true (show 0 ≤ (k : Int) - 1 by omega), Bool.or_true]
  have g2 : (!decide (0 < (k : Int)) || decide ((k : Int) - 1 < l.length)) = true := by rw [decide_eq_true (show (k : Int) - 1 < l.length by omega), Bool.or_true]
  have g3 : (!decide (0 < (k : Int)) || j8 .i64 ((k : Int) - 1)) = true := by rw [q5g.2 (by omega), Bool.or_true]
  simp only [q9, qd, qa, qb, qc, X.says, X.ev, X.evs, evl, qe, gnA, gnT, q27 eB hkl, z8i, zfh, e1, e2, e3, e4, e5, gTb, b3, Bool.or_self, Bool.not_false, Bool.not_true, Bool.true_and, Bool.or_true, Bool.false_or, g1, g2, g3, and_self]
  refine ⟨fun h => (by cases h), fun _ => ⟨⟨by omega, by omega⟩, ?_⟩⟩
  rw [jm, if_pos rfl]
  refine ⟨⟨k + 1, by omega, by simp⟩, ?_⟩
  simp [D.int]
  omega
 ·simp only [q9, qd, qa, qb, qc, X.says, X.ev, X.evs, evl, qe, gnA, gnT] at hlt
  have hkn : k = l.length := by omega
  subst hkn
  rw [q9, zi]
  refine ⟨by simp only [q9, qd, qa, qb, qc, X.says, X.ev, X.evs, evl, qe, gnA, gnT]; omega, fun st => ∃ dn : List Bool, st = [.i (q78 dn), .b false, .r (dn.map .b)] ∧ dn.length = l.length, fun st => (st.getD 0 .u).int.toNat, ⟨List.replicate l.length false, ?_, by simp⟩, ?_⟩
  ·simp only [X.evs, q9, qd, qa, qb, qc, X.says, X.ev, X.evs, evl, qe, gnA, gnT, z0r, Int.toNat_natCast, List.map_replicate]
  rintro st - ⟨dn, rfl, hdl⟩
  rw [qd]
  refine ⟨fun hpos => ?_, fun hpos => ?_⟩
  ·simp only [q9, qd, qa, qb, qc, X.says, X.ev, X.evs, evl, qe, gnA, gnT] at hpos
   have hpos : 0 < q78 dn := by omega
   rw [zi]
   refine ⟨fun st => ∃ (k : Nat) (dn' : List Bool), k ≤ l.length ∧ st = [.i (q78 dn'), .i k, .r (dn'.map .b)] ∧ dn'.length = l.length ∧ ((dn' = dn ∧ ∀ i, i < k → dn.getD i false = false → q6b l dn (l.getD i default).u = false) ∨ q78 dn' < q78 dn), fun st => l.length - (st.getD 1 .u).int.toNat, ⟨0, dn, Nat.zero_le _, by simp only [X.evs, q9, qd, qa, qb, qc, X.says, X.ev, X.evs, evl, qe, gnA, gnT] <;> rfl, hdl, .inl ⟨rfl, fun i hi => absurd hi (Nat.not_lt_zero _)⟩⟩, ?_⟩
   rintro st - ⟨k, dn', hk, rfl, hdl', hP⟩
   rw [qd]
   refine ⟨fun hlt => ?_, fun hlt => ?_⟩
   ·simp only [q9, qd, qa, qb, qc, X.says, X.ev, X.evs, evl, qe, gnA, gnT] at hlt
    have hkl : k < l.length := by omega
    have hkd : k < dn'.length := by omega
    have hR : quw [.r (l.map eB), .r (dn'.map .b), eT (l.getD k default).u] = some [.b (q6b l dn' (l.getD k default).u)] := by
     simp only [quw, zl, zb, z20, z0w]
     rw [if_pos ⟨hs, hdl'⟩]
    simp only [q9, qd, qa, qb, qc, X.says, X.ev, X.evs, evl, qe, gnA, gnT, q27 eB hkl, zcb hkd, zfh, hR, z0w]
    have e1 : decide (0 ≤ (k : Int)) = true := by simp
    have e2 : decide ((k : Int) < (l.length : Int)) = true := decide_eq_true (by omega)
    have hle : q78 dn' ≤ q78 dn := by
     rcases hP with ⟨rfl, -⟩ | h
     ·exact Nat.le_refl _
     ·omega
    have hcl : ∀ d : List Bool, q78 d ≤ d.length := fun d => by
     induction d with
     | nil => exact Nat.le_refl _
     | cons b d ih =>
      rw [q78, List.length_cons]
      split <;> omega
    have hc1 := hcl dn'
    simp only [e1, e2, Bool.or_true]
    refine ⟨⟨by omega, by omega, trivial, trivial⟩, fun hx => ⟨⟨by omega, by omega⟩, ⟨by omega, by omega⟩, ⟨by omega, by omega⟩, ?_⟩, fun hx => ⟨⟨by omega, by omega⟩, ?_⟩⟩
    ·simp only [Bool.and_eq_true, Bool.not_eq_true'] at hx
     have hc2 := z0k hkd hx.1
     rw [jm, if_pos rfl]
     refine ⟨⟨k + 1, dn'.set k true, by omega, ?_, by rw [List.length_set]; exact hdl', .inr (by omega)⟩, ?_⟩
     ·rw [Int.toNat_natCast, List.map_set]
      have : ((q78 dn' : Nat) : Int) - 1 = ((q78 (dn'.set k true) : Nat) : Int) := by omega
      rw [this]
      simp
     ·simp [D.int]
      omega
    ·rw [jm, if_pos rfl]
     refine ⟨⟨k + 1, dn', by omega, by simp, hdl', ?_⟩, ?_⟩
     ·rcases hP with ⟨rfl, hP⟩ | hP
      ·refine .inl ⟨rfl, fun i hi hd => ?_⟩
       rcases Nat.lt_or_ge i k with q | q
       ·exact hP i q hd
       ·have : i = k := by omega
        subst this
        rw [hd] at hx
        simpa using hx
      ·exact .inr hP
     ·simp [D.int]
      omega
   ·simp only [q9, qd, qa, qb, qc, X.says, X.ev, X.evs, evl, qe, gnA, gnT] at hlt
    have hkn : k = l.length := by omega
    subst hkn
    simp only [q9, qd, qa, qb, qc, X.says, X.ev, X.evs, evl, qe, gnA, gnT]
    refine ⟨fun h => ?_, fun h => ?_⟩
    ·exfalso
     rcases hP with ⟨-, hP⟩ | hP
     ·obtain ⟨i, h1, h2, h3⟩ := z7r hs ha hdl hpos
      rw [hP i h1 h2] at h3
      cases h3
     ·omega
    ·rcases hP with ⟨rfl, -⟩ | hP
     ·exact absurd rfl h
     ·rw [jm, if_neg (by decide), jm, if_pos rfl]
      refine ⟨⟨dn', rfl, hdl'⟩, ?_⟩
      simp [D.int]
      omega
  ·simp only [q9, qd, qa, qb, qc, X.says, X.ev, X.evs, evl, qe, gnA, gnT]
theorem zen : gV5 [.r []] = some [.b true] := (z1y [] _).2 ⟨⟨z2p, qz7, Nat.zero_le _⟩, rfl⟩
def qo6 (a b : Te) : List Bg × Int := if qi a && qi b then ((qrr [] a b).1, (qrr [] a b).2.2) else ([], 1)
def z61 : List D → Option (List D)
 | [q, a, b] => if dBs q = [] then some [.r ((qo6 (dT a) (dT b)).1.map eB), .i (qo6 (dT a) (dT b)).2] else none
 | _ => none
theorem qoz : FOk q00 z61 := qmj qau q0s qit fun ds outs hw hg => by
 obtain ⟨d, r, rfl, hd, e, r', rfl, he, f, r2, rfl, hf, rfl⟩ := hw
 obtain ⟨l, rfl, hl, hok⟩ := qji hd
 obtain ⟨a, rfl, ha⟩ := wfT he
 obtain ⟨b, rfl, hb⟩ := wfT hf
 simp only [z61, zl, zb, Option.ite_none_right_eq_some, Option.some.injEq] at hg
 obtain ⟨rfl, rfl⟩ := hg
 rw [List.map_nil]
 have hV := zen
 have hVa : gTb qi [eT a] = some [.b (qi a)] := by simp only [gTb, zb]
 have hVb : gTb qi [eT b] = some [.b (qi b)] := by simp only [gTb, zb]
 cases h1 : qi a with
 | false => simp [q1m, q9, qd, qa, qb, qc, X.says, X.ev, X.evs, evl, qe, gnA, gnT, hV, hVa, hVb, h1, qo6]
 | true =>
  cases h2 : qi b with
  | false => simp [q1m, q9, qd, qa, qb, qc, X.says, X.ev, X.evs, evl, qe, gnA, gnT, hV, hVa, hVb, h1, h2, qo6]
  | true =>
   have hU : zdm [.r [], eT a, eT b] = some [.r ((qrr [] a b).1.map eB), .i (qrr [] a b).2.1, .i (qrr [] a b).2.2] := by
    have e : dBs (.r []) = [] := rfl
    simp only [zdm, zb, e]
    rw [if_pos ⟨trivial, h1, h2⟩]
   simp [q1m, q9, qd, qa, qb, qc, X.says, X.ev, X.evs, evl, qe, gnA, gnT, hV, hVa, hVb, h1, h2, hU, qo6]
def rsQ (l : List Bg) (t : Te) (m : Int) : Bool := decide (SB l) && (qi t && (decide (0 ≤ m) && decide (m ≤ 2000)))
def z7j : List D → Option (List D)
 | [l, t, m] => if rsQ (dBs l) (dT t) m.int = true then some [eT (rsA (dBs l) (dT t) m.int).1, .i (rsA (dBs l) (dT t) m.int).2] else none
 | _ => none
def mRs (ds : List D) : Nat := (ds.getD 2 .u).int.toNat
theorem zdg (t : Te) : D.a ((D.a ((D.a ((eT zT).fs.set 0 (.i t.k))).fs.set 1 (.i t.n))).fs.set 2 (.s t.s)) = eT (.mk t.k t.n t.s []) := by
 rw [qkq]
 rfl
theorem qfg : FOk ze z7j := q2t (m := mRs) q5i fun N ih => qet q9u ih fun ds outs hw hg => by
 obtain ⟨d, r, rfl, hd, e, r', rfl, he, f, r2, rfl, hf, rfl⟩ := hw
 obtain ⟨l, rfl, hl, hok⟩ := qji hd
 obtain ⟨t, rfl, ht⟩ := wfT he
 obtain ⟨m, rfl, hm⟩ := wfI hf
 simp only [q15, mRs, z7j, List.getD_cons_zero, List.getD_cons_succ, zl, zb, z5, Option.ite_none_right_eq_some, Option.some.injEq] at hg
 obtain ⟨hmN, hQ, rfl⟩ := hg
 simp only [rsQ, Bool.and_eq_true, decide_eq_true_eq] at hQ
 obtain ⟨hs, hv, hm0, hm2⟩ := hQ
 have hF : qyq [.r (l.map eB), eT t] = some [eT (fol l t)] := by simp only [qyq, zl, zb]; rw [if_pos ⟨hs, hv⟩]
 have hx := q3x hs t hv
 rw [qov hm0, q33, q9, q9, zi]
 unfold rsS
 refine ⟨by simp only [q9, qd, qa, qb, qc, X.says, X.ev, X.evs, evl, qe, gnA, gnT, hF], by simp only [q9, qd, qa, qb, qc, X.says, X.ev, X.evs, evl, qe, gnA, gnT]; omega, ?_⟩
 generalize hxe : fol l t = x at *
 have hxl := qft x.l
 have hxz := qp3 x
 have hxs := (yt.1 hx).1
 refine ⟨fun st => ∃ (k : Nat) (left : Int) (acc : List Te), k ≤ x.l.length ∧ st = [.i left, .i k, eT (.mk x.k x.n x.s acc)] ∧ acc.length = k ∧ left ≤ m - 1 ∧ acc ++ (rsL (rsA l) (x.l.drop k) left).1 = (rsL (rsA l) x.l (m - 1)).1 ∧ (rsL (rsA l) (x.l.drop k) left).2 = (rsL (rsA l) x.l (m - 1)).2, fun st => x.l.length - (st.getD 1 .u).int.toNat, ⟨0, m - 1, [], Nat.zero_le _, ?_, rfl, Int.le_refl _, rfl, rfl⟩, ?_⟩
 ·simp only [X.evs, q9, qd, qa, qb, qc, X.says, X.ev, X.evs, evl, qe, gnA, gnT, hF, hxe, zdg]
  rfl
 rintro st - ⟨k, left, acc, hk1, rfl, hal, hlm, hP1, hP2⟩
 rw [qd]
 refine ⟨fun hlt => ?_, fun hlt => ?_⟩
 ·simp only [q9, qd, qa, qb, qc, X.says, X.ev, X.evs, evl, qe, gnA, gnT, hF, hxe, Bool.and_eq_true] at hlt
  obtain ⟨hlt, hl0⟩ := hlt
  have hkl : k < x.l.length := by omega
  rw [q4o hkl, rsL, if_neg (by omega)] at hP1 hP2
  have hR : q15 mRs N z7j [.r (l.map eB), eT (x.l.getD k default), .i left] = some [eT (rsA l (x.l.getD k default) left).1, .i (rsA l (x.l.getD k default) left).2] := by
   simp only [q15, mRs, z7j, List.getD_cons_zero, List.getD_cons_succ, zl, zb, z5]
   rw [if_pos (by omega), if_pos (by simp only [rsQ, Bool.and_eq_true, decide_eq_true_eq]; exact ⟨hs, q4z hx hkl, by omega, by omega⟩)]
  have hG := z2o l (x.l.getD k default) left
  simp only [q9, qd, qa, qb, qc, X.says, X.ev, X.evs, evl, qe, gnA, gnT, hF, hxe, q87 hkl, hR, zd5]
  generalize rsA l (x.l.getD k default) left = R at hP1 hP2 hG
  simp only [List.length_map, hal]
  refine ⟨⟨by omega, by omega⟩, by omega, ⟨by omega, by omega⟩, ?_⟩
  rw [jm, if_pos rfl]
  refine ⟨⟨k + 1, R.2, acc ++ [R.1], by omega, by rw [qnl]; simp, by simp [hal], by omega, by rw [← hP1]; simp, hP2⟩, ?_⟩
  simp [D.int]
  omega
 ·simp only [q9, qd, qa, qb, qc, X.says, X.ev, X.evs, evl, qe, gnA, gnT, hF, hxe] at hlt ⊢
  have hend : rsL (rsA l) (x.l.drop k) left = ([], left) := by
   by_cases h0 : left < 0
   ·exact qwg h0 _
   ·have hkn : k = x.l.length := by
     simp only [Bool.and_eq_false_iff, decide_eq_false_iff_not] at hlt
     omega
    rw [hkn, List.drop_length]
    rfl
  rw [hend] at hP1 hP2
  rw [← hP1, ← hP2]
  simp
def z1z (l : List Bg) (t : Te) : Te × Bool := if (rsA l t 2000).2 < 0 then (zT, false) else ((rsA l t 2000).1, true)
def zea : List D → Option (List D)
 | [l, t] => if SB (dBs l) ∧ qi (dT t) = true then some [eT (z1z (dBs l) (dT t)).1, .b (z1z (dBs l) (dT t)).2] else none
 | _ => none
theorem qfx : FOk yw zea := qew qfg fun ds outs hw hg => by
 obtain ⟨d, r, rfl, hd, e, r', rfl, he, rfl⟩ := hw
 obtain ⟨l, rfl, hl, hok⟩ := qji hd
 obtain ⟨t, rfl, ht⟩ := wfT he
 simp only [zea, zl, zb, Option.ite_none_right_eq_some, Option.some.injEq] at hg
 obtain ⟨⟨hs, hv⟩, rfl⟩ := hg
 have hR : z7j [.r (l.map eB), eT t, .i 2000] = some [eT (rsA l t 2000).1, .i (rsA l t 2000).2] := by
  simp only [z7j, zl, zb, z5]
  rw [if_pos (by simp only [rsQ, Bool.and_eq_true, decide_eq_true_eq]; exact ⟨hs, hv, by decide, by decide⟩)]
 simp only [q30, q9, qd, qa, qb, qc, X.says, X.ev, X.evs, evl, qe, gnA, gnT, hR, z1z]
 refine ⟨fun h => ?_, fun h => ?_⟩
 ·rw [if_pos h]
 ·rw [if_neg h]
def qdz (l : List Bg) (t : Te) : Te × Int := if qi t then (if (rsA l t 2000).2 < 0 then (zT, 2) else ((rsA l t 2000).1, 0)) else (zT, 1)
open Classical in
noncomputable def zhr : List D → Option (List D)
 | [l, t] => if SB (dBs l) ∧ qls (dBs l) ∧ (dBs l).length ≤ 9000000 then some [eT (qdz (dBs l) (dT t)).1, .i (qdz (dBs l) (dT t)).2] else none
 | _ => none
open Classical in
theorem z3c (l : List Bg) (t : Te) (outs : List D) : zhr [.r (l.map eB), eT t] = some outs ↔ (SB l ∧ qls l ∧ l.length ≤ 9000000) ∧ outs = [eT (qdz l t).1, .i (qdz l t).2] := by
 show (if SB (dBs (.r (l.map eB))) ∧ qls (dBs (.r (l.map eB))) ∧ (dBs (.r (l.map eB))).length ≤ 9000000 then some [eT (qdz (dBs (.r (l.map eB))) (dT (eT t))).1, .i (qdz (dBs (.r (l.map eB))) (dT (eT t))).2] else none) = _ ↔ _
 rw [zl, zb]
 split
 ·rename_i h
  exact ⟨fun e => ⟨h, (Option.some.inj e).symm⟩, fun e => by rw [e.2]⟩
 ·rename_i h
  exact ⟨fun e => (by cases e), fun e => absurd e.1 h⟩
theorem qie : FOk j5 zhr := qfe qau q0s qfx fun ds outs hw hg => by
 obtain ⟨d, r, rfl, hd, e, r', rfl, he, rfl⟩ := hw
 obtain ⟨l, rfl, hl, hok⟩ := qji hd
 obtain ⟨t, rfl, ht⟩ := wfT he
 rw [z3c] at hg
 obtain ⟨hA, rfl⟩ := hg
 have hV := (z1y l _).2 ⟨hA, rfl⟩
 have hVt : gTb qi [eT t] = some [.b (qi t)] := by simp only [gTb, zb]
 cases h1 : qi t with
 | false => simp [q0r, q9, qd, qa, qb, qc, X.says, X.ev, X.evs, evl, qe, gnA, gnT, hV, hVt, h1, qdz]
 | true =>
  have hR : zea [.r (l.map eB), eT t] = some [eT (z1z l t).1, .b (z1z l t).2] := by
   simp only [zea, zl, zb]
   rw [if_pos ⟨hA.1, h1⟩]
  by_cases h2 : (rsA l t 2000).2 < 0
  ·simp [q0r, q9, qd, qa, qb, qc, X.says, X.ev, X.evs, evl, qe, gnA, gnT, hV, hVt, h1, hR, qdz, z1z, h2]
  ·simp [q0r, q9, qd, qa, qb, qc, X.says, X.ev, X.evs, evl, qe, gnA, gnT, hV, hVt, h1, hR, qdz, z1z, h2]
end Go.Proofs.Ytaoamndcdjelnaa
