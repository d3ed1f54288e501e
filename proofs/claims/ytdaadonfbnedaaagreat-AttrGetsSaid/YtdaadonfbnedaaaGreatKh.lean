/-
 Lemmas of the walk and plain laws, put together. No condition.
-/
import Derived.ChangeArms
import Derived.Deep.AppendSrc
import Derived.OpenShut
import Derived.ProofKit
import Derived.SizedLaws
import Derived.StillTailTactics
import Derived.TacticsInMore
import Derived.Test.YtdaadonfbnedaaaGreatRows
import Derived.Test.YtdaadonfbnedaaaGreatKg
namespace Go.Proofs.YtdaadonfbnedaaaGreat
open Go.RowKit
set_option linter.unusedVariables false
set_option linter.unusedSimpArgs false
set_option maxRecDepth 100000
set_option linter.unusedSectionVars false
variable {nm : ByteArray} {A' S1 : Nat → Prop} {W : World} {p : qm}
section
open Go.RowKit Go.Shelf
def q0c (s : So) : Tbl := qtm s.cs.length s.ys.length s.tr.length s.wk.length
theorem qwk (s : So) : q02 (q0c s) := by
 unfold q0c qtm
 refine .cons (q0v _ q25 _ _) (.cons (q0v _ q25 _ _) (.cons (q0v _ q25 _ _) (.cons (q0v _ q25 _ _) (.cons q57 (.cons qlh (.cons q8d (.cons qi7 .nil)))))))
theorem qyb (s : So) : q7q (q0c s) = true := rfl
theorem zgz {s : So} {x wv : Ce} {s1 : So} (hv : y9 s1 = true) : qb (q0c s) 7 [eS s1, eT (z9g nm), .r [.a [.i 0, eC x], .a [.i 1, eC wv]]] = some [eC (zt wv s1 ⟨nm, x⟩).1, .r ((zt wv s1 ⟨nm, x⟩).2.1.map eV), .i (zt wv s1 ⟨nm, x⟩).2.2.1, eS (zt wv s1 ⟨nm, x⟩).2.2.2] := by
 have e : dVs (.r [.a [.i 0, eC x], .a [.i 1, eC wv]]) = zhv x wv := by
  show [dV (eV ⟨0, x⟩), dV (eV ⟨1, wv⟩)] = _
  rw [qqg, qqg]
  rfl
 have ht : qb (q0c s) 7 = z7t := rfl
 rw [ht]
 unfold z7t
 simp only [zk, q1w, e]
 rw [if_pos hv]
 rfl
theorem zhs {s : So} : qb (q0c s) 6 [.s z06, .r [eT (qbm nm), eT (vaT 0), eT (vaT 1)]] = some [eT (z9g nm)] := by
 have ht : qb (q0c s) 6 = gSL ql8 := rfl
 rw [ht]
 unfold gSL
 show some [eT (ql8 z06 [dT (eT (qbm nm)), dT (eT (vaT 0)), dT (eT (vaT 1))])] = _
 rw [q1w, q1w, q1w]
 rfl
section
variable {wk : Wk} {s0 sk : So} {o : List Ce} {dw : D} {y : At} {R : List D → Prop} {B : Nat → List D → Prop}
abbrev q7e (wk : Wk) (sk : So) (o : List Ce) (dw : D) (y : At) : List D := [eW wk, eS sk, .r (o.map eC), .i 0, dw, .s y.name, eC y.val]
theorem zmg (hv : y9 sk = true) (hg : qaq s0 sk) (he : (zt wk.val sk y).2.2.1 = 0) (hR : R [eS (zt wk.val sk y).2.2.2, eC (zt wk.val sk y).1]) : zii.go (qb (q0c s0)) R (q7e wk sk o dw y) B := by
 have hp := zgz (s := s0) (nm := y.name) (x := y.val) (wv := wk.val) hv
 have hst := zhs (s := s0) (nm := y.name)
 have hN : (⟨#[97, 116, 116, 114, 95, 104, 111, 111, 107]⟩ : ByteArray) = z06 := rfl
 have t0 : qb (q0c s0) 0 [] = some [.i s0.cs.length] := rfl
 have t1 : qb (q0c s0) 1 [] = some [.i s0.ys.length] := rfl
 have t2 : qb (q0c s0) 2 [] = some [.i s0.tr.length] := rfl
 have t3 : qb (q0c s0) 3 [] = some [.i s0.wk.length] := rfl
 have t4 : qb (q0c s0) 4 [.s y.name] = some [eT (qbm y.name)] := rfl
 have t5 : qb (q0c s0) 5 [.i 0] = some [eT (vaT 0)] := rfl
 have t6 : qb (q0c s0) 5 [.i 1] = some [eT (vaT 1)] := rfl
 obtain ⟨g1, g2, -, g3, g4, -⟩ := hg
 have g3 : s0.tr.length ≤ sk.tr.length := by rw [g3]; exact Nat.le_refl _
 have g4 : s0.wk.length ≤ sk.wk.length := by rw [g4]; exact Nat.le_refl _
 unfold zii
 simp only [qa, qj, qd, qg, X.says, X.ev, X.evs, evl, List.getD_cons_zero, List.getD_cons_succ, hN, t0, t1, t2, t3, t4, t5, t6, hst, hp, zg4, Option.getD_some, Option.isSome_some, q5i, he, qp9, decide_true, Bool.not_true, Bool.false_eq_true, false_implies, true_and, and_true, qer, zcg, z45, z24, q6i, List.length_map, yv, decide_eq_true_eq, Int.ofNat_le, forall_const]
 exact ⟨⟨g1, g2, g3, g4⟩, hR⟩
theorem zn2 (hv : y9 sk = true) (hg : qaq s0 sk) (he : ¬ (zt wk.val sk y).2.2.1 = 0) (hR : R [eS (zt wk.val sk y).2.2.2, .r [], .i (zt wk.val sk y).2.2.1]) : zk5.go (qb (q0c s0)) R (q7e wk sk o dw y) B := by
 have hp := zgz (s := s0) (nm := y.name) (x := y.val) (wv := wk.val) hv
 have hst := zhs (s := s0) (nm := y.name)
 have hN : (⟨#[97, 116, 116, 114, 95, 104, 111, 111, 107]⟩ : ByteArray) = z06 := rfl
 have t0 : qb (q0c s0) 0 [] = some [.i s0.cs.length] := rfl
 have t1 : qb (q0c s0) 1 [] = some [.i s0.ys.length] := rfl
 have t2 : qb (q0c s0) 2 [] = some [.i s0.tr.length] := rfl
 have t3 : qb (q0c s0) 3 [] = some [.i s0.wk.length] := rfl
 have t4 : qb (q0c s0) 4 [.s y.name] = some [eT (qbm y.name)] := rfl
 have t5 : qb (q0c s0) 5 [.i 0] = some [eT (vaT 0)] := rfl
 have t6 : qb (q0c s0) 5 [.i 1] = some [eT (vaT 1)] := rfl
 obtain ⟨g1, g2, -, g3, g4, -⟩ := hg
 have g3 : s0.tr.length ≤ sk.tr.length := by rw [g3]; exact Nat.le_refl _
 have g4 : s0.wk.length ≤ sk.wk.length := by rw [g4]; exact Nat.le_refl _
 unfold zk5
 simp only [qa, qj, qd, qg, X.says, X.ev, X.evs, evl, List.getD_cons_zero, List.getD_cons_succ, hN, t0, t1, t2, t3, t4, t5, t6, hst, hp, zg4, Option.getD_some, Option.isSome_some, q5i, he, qp9, decide_false, Bool.not_false, Bool.false_eq_true, Bool.true_eq_false, false_implies, true_and, and_true, qer, zcg, z45, z24, q6i, List.length_map, yv, decide_eq_true_eq, Int.ofNat_le, forall_const]
 exact ⟨⟨g1, g2, g3, g4⟩, hR⟩
end
def wkA (A : Nat → Prop) (n8 N1 : Nat) (b : Nat) : Prop := A b ∧ (b < n8 ∨ N1 ≤ b)
def wkS (p2 : qm) (w9 : World) (n8 m : Nat) (b : Nat) : Prop := pinned p2 b ∨ q31 w9 (n8 + 1) m b
def ju (c2 : Cx) (p2 : qm) (s0 : So) (n8 : Nat) (W1 : World) (a9 : Act) : Cx := { c2 with A := wkA c2.A n8 W1.heap.size, F := q17 p2 s0 c2.F.fr, snap := fun t => a9.tmps.getD t Go.undef }
structure WkH (wk : Wk) (s0 : So) (o0 : List Ce) (l : List At) (k : Nat) (sk : So) (o : List Ce) : Prop where
 run : jj wk.val sk o (l.drop k) = jj wk.val s0 o0 l
 ok : qba wk.val sk (l.drop k) = true
 grow : qaq s0 sk
 len : o.length ≤ o0.length + k
def WkG (p2 : qm) (s0 : So) (p : qm) : Prop := ∀ b, p 33 = some b → (q17 p2 s0 (fun _ => True)).fl b = 0
def WkI (c2 : Cx) (p2 : qm) (w9 W1 : World) (a9 : Act) (m n8 : Nat) (wk : Wk) (s0 : So) (x0 : Ce) (o0 : List Ce) (dw : D) (k N : Nat) (W : World) : Prop := w9.heap.size + 2 ≤ N ∧ N ≤ W.heap.size ∧ ∃ p3 sk o, WkH wk s0 o0 (yf s0 x0) k sk o ∧ Bs (ju c2 p2 s0 n8 W1 a9).A (ju c2 p2 s0 n8 W1 a9).F W1 (wkS p2 w9 n8 m) p3 W ∧ SF ((ju c2 p2 s0 n8 W1 a9).at (qb (q0c s0)) [eW wk, eS sk, .r (o.map eC), .i 0, dw]) qyj p3 W a9 ∧ (∀ y b, p3 y = some b → b < N) ∧ WkG p2 s0 p3
def WkM (c2 : Cx) (p2 : qm) (w9 W1 : World) (a9 : Act) (m n8 : Nat) (wk : Wk) (s0 : So) (x0 : Ce) (o0 : List Ce) (dw : D) (k N B : Nat) (a1 : Act) (W : World) : Prop := ∃ y p4 sk o, (yf s0 x0)[k]? = some y ∧ WkH wk s0 o0 (yf s0 x0) k sk o ∧ Bs (ju c2 p2 s0 n8 W1 a9).A (ju c2 p2 s0 n8 W1 a9).F W1 (wkS p2 w9 n8 m) p4 W ∧ SF ((ju c2 p2 s0 n8 W1 a9).at (qb (q0c s0)) (q7e wk sk o dw y)) z3h p4 W a1 ∧ a1.defers = [] ∧ a1.tmps.size = 69 ∧ w9.heap.size + 2 ≤ N ∧ N ≤ B ∧ B ≤ W.heap.size ∧ (∀ q b, p4 q = some b → b < N ∨ B ≤ b) ∧ WkG p2 s0 p4
def WkJ (c2 : Cx) (p2 : qm) (w9 W1 : World) (a9 : Act) (m n8 : Nat) (wk : Wk) (s0 : So) (x0 : Ce) (o0 : List Ce) (W : World) : Prop := ¬ (jj wk.val s0 o0 (yf s0 x0)).2.2 = 0 ∧ ∃ p3 l, Bs (ju c2 p2 s0 n8 W1 a9).A (ju c2 p2 s0 n8 W1 a9).F W1 (wkS p2 w9 n8 m) p3 W ∧ SF ((ju c2 p2 s0 n8 W1 a9).at (qb (q0c s0)) (l ++ [eS (jj wk.val s0 o0 (yf s0 x0)).1, .r [], .i (jj wk.val s0 o0 (yf s0 x0)).2.2])) zjn p3 W a9 ∧ l.length = 7
theorem qo4 {w' W1 : World} {bc m : Nat} {F : Flr} {W' : World} {p3 : qm} (hS : ∀ b, q31 w' bc m b → S1 b) (hA : ∀ b, A' b → ¬ q31 w' bc m b) (hF : ∀ b, 0 < F.fl b → ¬ q31 w' bc m b) (h : Bs A' F W1 S1 p3 W) (hb : But (q31 w' bc m) W W') : Bs A' F W1 S1 p3 W' ∧ Stab A' no no p3 W p3 W' :=
 ⟨⟨h.inj, fun x b hx => Nat.lt_of_lt_of_le (h.bd x b hx) hb.size, h.but.trans hb fun i hi _ => .inl (hS i hi), h.pin, h.new, h.pa, fun x b hx => (h.obj x b hx).same (hb.block b (h.bd x b hx) (hA b (h.pa x b hx))), h.flo.same fun k hk hfl => hb.block k hk (hF k hfl)⟩,
  hb.size, fun b hlt ha hf => ⟨hb.block b hlt (hA b ha), hf⟩, fun x b _ hx => hx, fun x b _ hx => hb.block b (h.bd x b hx) (hA b (h.pa x b hx))⟩
theorem zk4 {s : So} {fr : Nat → Prop} {b : Nat} (h : 0 < (q17 p s fr).fl b) : ∃ x, p x = some b := by
 unfold q17 at h
 simp only at h
 split at h
 ·exact ⟨_, ‹_›⟩
 ·split at h
  ·exact ⟨_, ‹_›⟩
  ·split at h
   ·exact ⟨_, ‹_›⟩
   ·split at h
    ·exact ⟨_, ‹_›⟩
    ·omega
end
variable {cur : Array Value} {T : TypeId} {t : Ty}
section
open Go.RowKit Go.Shelf
theorem qlc (wv : Ce) (s : So) (o : List Ce) (x : At) (l : List At) : jj wv s o (x :: l) = if (zt wv s x).2.2.1 = 0 then jj wv (zt wv s x).2.2.2 (o ++ [(zt wv s x).1]) l else ((zt wv s x).2.2.2, [], (zt wv s x).2.2.1) := rfl
def qC (x : Nat) : Bool := Nat.beq x 32 || Nat.beq x 33
def qO (x : Nat) : Bool := !(Nat.beq x 32 || (Nat.beq x 33 || Nat.beq x 160))
theorem zmm {x : Nat} (h : qO x = false) : x = 32 ∨ x = 33 ∨ x = 160 := by
 unfold qO at h
 simp only [Bool.not_eq_false', Bool.or_eq_true] at h
 exact h.imp gnN fun h => h.imp gnN gnN
section
variable {c2 : Cx} {p2 : qm} {w9 W1 : World} {a9 : Act} {m n8 : Nat} {s0 : So} {x0 : Ce} {wk : Wk} {o0 : List Ce} {dw : D} {v0 v1 v2 v3 : Value}
theorem zf3 : q2a [] [] 7 (q1p [] [] [] 7 qz2) = qz2 := by kernel_rfl
theorem zaq {F : Flr} {w0 : World} (h : Flo F w0 W) {g : Nat} (hg : W.heap[g]? = some (.cells cur T (0, 0))) (hT : qo T = some t) (hs : cur.size = t.w) (hnv : nvB t = false) : F.fl g = 0 := by
 rcases Nat.eq_zero_or_pos (F.fl g) with e | e
 ·exact e
 ·have hp := q26 hT
  have := (FlW.var h hg hT hs (fun h => by rw [hnv] at h; cases h) #[] e cur T hg).1
  simp at this
  omega
theorem zmf (hlo : c2.lo = 1) (hz : a9.tmps.size = 69) (h9 : w9.heap.size = n8 + 2) (hinj : ∀ x y b, p2 x = some b → p2 y = some b → x = y) (hp2 : ∀ x b, p2 x = some b → b < n8)
  (h0 : q21 c2.A p2 w9 [] 1 29 qn (s0.cs.map eC) v0) (h1 : q21 c2.A p2 w9 [] 2 87 jb (s0.ys.map eY) v1) (h2 : q21 c2.A p2 w9 [] 3 71 q1q (s0.tr.map eU) v2) (h3 : q21 c2.A p2 w9 [] 4 73 yb (s0.wk.map eW) v3) (r1 : yz .i64 s0.ser = true) (r2 : yz .i64 s0.mx = true)
  (hg : ∃ T, w9.heap[n8]? = some (.cells [v0, v1, v2, v3, .int .i64 s0.ser, .int .i64 s0.mx].toArray T (0, 0))) (hbut : But Nil w9 W1) (hm1 : w9.heap.size + 2 ≤ m) (hm2 : m < W1.heap.size) (hob : o0.length + (yf s0 x0).length + 1 ≤ 8796093021952) :
  ItOk w9 a9 3 n8 (n8 + 1) m 36 37 z9e z48 [v0, v1, v2, v3, .int .i64 s0.ser, .int .i64 s0.mx] s0 x0 (WkI c2 p2 w9 W1 a9 m n8 wk s0 x0 o0 dw) (WkM c2 p2 w9 W1 a9 m n8 wk s0 x0 o0 dw) (WkJ c2 p2 w9 W1 a9 m n8 wk s0 x0 o0) := by
 obtain ⟨T, hg⟩ := hg
 have hw1 := hbut.size
 have hAh : ∀ b, (ju c2 p2 s0 n8 W1 a9).A b → ¬ q31 w9 (n8 + 1) m b := fun b h => by
  have h : wkA c2.A n8 W1.heap.size b := h
  obtain ⟨-, h⟩ := h
  unfold q31
  omega
 have hSh : ∀ b, q31 w9 (n8 + 1) m b → wkS p2 w9 n8 m b := fun b h => .inr h
 have hFh : ∀ b, 0 < (ju c2 p2 s0 n8 W1 a9).F.fl b → ¬ q31 w9 (n8 + 1) m b := fun b h => by
  obtain ⟨x, hx⟩ := zk4 h
  have := hp2 x b hx
  unfold q31
  omega
 have hfm : ∀ te, (ju c2 p2 s0 n8 W1 a9).F.mx te ≤ flM (q0c s0) te := fun te => zn6 p2 s0 c2.F.fr te
 have hcl : (ju c2 p2 s0 n8 W1 a9).lo = 1 := hlo
 have hfl0 : ∀ {b : Nat} {W : World}, Flo (ju c2 p2 s0 n8 W1 a9).F W1 W → W1.heap.size ≤ b → (q17 p2 s0 (fun _ => True)).fl b = 0 := fun {b W} hF hb => by
  rcases Nat.eq_zero_or_pos ((q17 p2 s0 (fun _ => True)).fl b) with e | e
  ·exact e
  ·obtain ⟨cs, cs', T, te, hlt, -⟩ := hF b e
   omega
 refine ⟨?_, ?_, ?_, ?_, ?_, ?_⟩
 ·-- the copy is readable
  rintro k N W ⟨h4, h5, p3, sk, o, hh, hb3, hf3, hp3, hG⟩
  refine ⟨h4, h5, ⟨T, ?_⟩, ?_⟩
  ·refine (hb3.but.block n8 (by omega) ?_).trans ((hbut.block n8 (by omega) (fun h => h)).trans hg)
   rintro (⟨x, hx⟩ | h)
   ·have := hp2 x n8 hx
    omega
   ·unfold q31 at h
    omega
  ·refine Rd.mono (fun b _ hb => ?_) (zmc hinj h0 h1 h2 h3 r1 r2 (w1 := W1) (W := W) (fr := c2.F.fr) (fun x b hx => hbut.block b (by have := hp2 x b hx; omega) (fun h => h)) hb3.flo)
   obtain ⟨x, hx⟩ := hb
   have := hp2 x b hx
   exact ⟨by omega, by omega⟩
 ·rintro k N W W' ⟨h4, h5, p3, sk, o, hh, hb3, hf3, hp3, hG⟩ hb
  obtain ⟨q1, q2⟩ := qo4 hSh hAh hFh hb3 hb
  exact ⟨h4, Nat.le_trans h5 hb.size, p3, sk, o, hh, q1, SF.same q2 hf3, hp3, hG⟩
 ·-- the loop's variables
  rintro k N W y hy hyo ⟨h4, h5, p3, sk, o, hh, hb3, hf3, hp3, hG⟩
  have hsf : SF ((ju c2 p2 s0 n8 W1 a9).at (qb (q0c s0)) (q7e wk sk o dw y)) ⟨ql4 ++ [(36, .v (.tok 5) .str [] []), (37, .v (.tok 6) qn [] [])], zb2⟩ p3 W { tmps := (a9.tmps.setIfInBounds 36 (.string y.name)).setIfInBounds 37 (.agg (ceL y.val).toArray), defers := [] } := by
   refine ⟨fun t x hx => ?_, fun j e he => ?_⟩
   ·have hx := qx hx
    have old : ∀ t x, lkA qyj.t t = some x → t ≠ 36 → t ≠ 37 → (∀ v, x.pd ((ju c2 p2 s0 n8 W1 a9).at (qb (q0c s0)) [eW wk, eS sk, .r (o.map eC), .i 0, dw]) p3 W v → x.pd ((ju c2 p2 s0 n8 W1 a9).at (qb (q0c s0)) (q7e wk sk o dw y)) p3 W v) → ∃ v, ((a9.tmps.setIfInBounds 36 (.string y.name)).setIfInBounds 37 (.agg (ceL y.val).toArray))[t]? = some v ∧ x.pd ((ju c2 p2 s0 n8 W1 a9).at (qb (q0c s0)) (q7e wk sk o dw y)) p3 W v := fun t x hl n1 n2 hpd => by
     obtain ⟨v, e1, e2⟩ := hf3.t t x hl
     exact ⟨v, by rw [Array.getElem?_setIfInBounds_ne (Ne.symm n2), Array.getElem?_setIfInBounds_ne (Ne.symm n1)]; exact e1, hpd v e2⟩
    simp only [ql4, List.cons_append, List.nil_append, gnM] at hx
    rcases hx with ⟨rfl, rfl⟩ | ⟨rfl, rfl⟩ | ⟨rfl, rfl⟩ | ⟨rfl, rfl⟩ | ⟨rfl, rfl⟩ | ⟨rfl, rfl⟩ | ⟨rfl, rfl⟩ | ⟨rfl, rfl⟩
    ·exact old _ _ (by kernel_rfl) (by decide) (by decide) fun v h => h
    ·exact old _ _ (by kernel_rfl) (by decide) (by decide) fun v h => h
    ·exact old _ _ (by kernel_rfl) (by decide) (by decide) fun v h => h
    ·exact old _ _ (by kernel_rfl) (by decide) (by decide) fun v h => h
    ·exact old _ _ (by kernel_rfl) (by decide) (by decide) fun v h => h
    ·exact old _ _ (by kernel_rfl) (by decide) (by decide) fun v h => h
    ·exact ⟨.string y.name, by rw [Array.getElem?_setIfInBounds_ne (by decide), Array.getElem?_setIfInBounds_self_of_lt (by omega)], _, rfl, Con.of_rd (show Rd W _ (.s y.name) .str _ from ⟨rfl, rfl, hyo.1⟩)⟩
    ·exact ⟨.agg (ceL y.val).toArray, by rw [Array.getElem?_setIfInBounds_self_of_lt (by simp; omega)], ceL y.val, rfl, Con.of_rd (show Rd W _ (eC y.val) qn _ from qvt hyo.2)⟩
   ·have he := qx he
    simp only [zb2, gnM] at he
    rcases he with ⟨rfl, rfl⟩ | ⟨rfl, rfl⟩ | ⟨rfl, rfl⟩ | ⟨rfl, rfl⟩
    ·exact hf3.m 0 _ (by kernel_rfl)
    ·exact hf3.m 2 _ (by kernel_rfl)
    ·exact hf3.m 3 _ (by kernel_rfl)
    ·exact hf3.m 6 _ (by kernel_rfl)
  have hcs := hf3.m 2 ⟨.tok 2, zo, [(0, 33)], []⟩ (by kernel_rfl)
  obtain ⟨vc, tc1, tc2⟩ := hf3.t 2 (.sn 2 (.ref 2 [] 0 zo)) (by kernel_rfl)
  have hbA := qoy (q := qC) (F' := (ju c2 p2 s0 n8 W1 a9).F) hb3 hb3.flo.anew fun _ h => h
  have hfA := qpz (q := qC) (hsf.weak (τ := zd9) (by kernel_rfl)) (by kernel_rfl) (by kernel_rfl)
  have pre := q9i (c := { (ju c2 p2 s0 n8 W1 a9) with A := qaj (ju c2 p2 s0 n8 W1 a9).A qC p3 }) (z := 69) (some (w9.heap.size + 1)) 3 (qwk s0) hfm (qyb s0) [z9e] (n := 7) (ann := q75) (R := fun o => o = []) (B := fun _ _ => False) (ts := []) (ms := []) (kill := []) (σk := qz2) (l := q7e wk sk o dw y) (σ := zd9) (d := []) (w0 := W) (S0 := pinned (unP qC p3)) (p := unP qC p3) (Q := fun _ _ _ => False)
   (K := fun a1 W2 => WkM c2 p2 w9 W1 a9 m n8 wk s0 x0 o0 dw k N W.heap.size a1 W2 ∧ KpN w9 (n8 + 1) m N W.heap.size W W2)
   (by
    show (q4q Tryz.prog (q0c s0) q75 c2.lo 69 [z9e] 7 zd9 (toN [] [] [] qz2)).go _ _ _ _
    rw [hlo]
    unfold q0c
    rw [zkc]
    rfl) rfl hbA hfA rfl (by simp; exact hz) (fun st p4 W2 a2 hR hst hb4 hf4 hd4 hz4 => ?_)
  ·exact pre
  ·have hR : st = [] := hR
   subst hR
   rw [zf3, List.append_nil] at hf4
   have hb5 := qy4 hb3 hb4 (hb3.flo.trans hb4.flo)
   have hf5 := qxw (c := (ju c2 p2 s0 n8 W1 a9).at (qb (q0c s0)) (q7e wk sk o dw y)) (q := qC) hb3 hb4 hf4 (by kernel_rfl) (by kernel_rfl)
   have hc5 := qqc (c := (ju c2 p2 s0 n8 W1 a9).at (qb (q0c s0)) (q7e wk sk o dw y)) (q := qC) (k := 2) (e := ⟨.tok 2, zo, [(0, 33)], []⟩) hb3 hb4 hcs (by kernel_rfl) (by kernel_rfl)
   have ht5 := qx8 (c := (ju c2 p2 s0 n8 W1 a9).at (qb (q0c s0)) (q7e wk sk o dw y)) (q := qC) (x := .sn 2 (.ref 2 [] 0 zo)) hb3 hb4 tc2 (by kernel_rfl) (by kernel_rfl)
   have hf6 : SF ((ju c2 p2 s0 n8 W1 a9).at (qb (q0c s0)) (q7e wk sk o dw y)) z3h (q6x qC p3 p4) W2 a2 := by
    refine ⟨fun t x hx => ?_, fun j e he => ?_⟩
    ·have hx := qx hx
     simp only [z3h, ql4, List.cons_append, List.nil_append, gnM] at hx
     rcases hx with ⟨rfl, rfl⟩ | ⟨rfl, rfl⟩ | ⟨rfl, rfl⟩ | ⟨rfl, rfl⟩ | ⟨rfl, rfl⟩ | ⟨rfl, rfl⟩ | ⟨rfl, rfl⟩ | ⟨rfl, rfl⟩
     ·exact hf5.t 0 _ (by kernel_rfl)
     ·exact hf5.t 1 _ (by kernel_rfl)
     ·obtain ⟨v, e1, e2, -⟩ := hf5.t 2 (.sn 2 .any) (by kernel_rfl)
      obtain ⟨e3, -⟩ := id tc2
      have e4 : v = vc := e2.trans e3.symm
      exact ⟨v, e1, by rw [e4]; exact ht5⟩
     ·exact hf5.t 3 _ (by kernel_rfl)
     ·exact hf5.t 6 _ (by kernel_rfl)
     ·exact hf5.t 24 _ (by kernel_rfl)
     ·exact hf5.t 7 _ (by kernel_rfl)
     ·exact hf5.t 8 _ (by kernel_rfl)
    ·have he := qx he
     simp only [z3h, gnM] at he
     rcases he with ⟨rfl, rfl⟩ | ⟨rfl, rfl⟩ | ⟨rfl, rfl⟩ | ⟨rfl, rfl⟩ | ⟨rfl, rfl⟩
     ·exact hf5.m 0 _ (by kernel_rfl)
     ·exact hc5
     ·exact hf5.m 3 _ (by kernel_rfl)
     ·exact hf5.m 6 _ (by kernel_rfl)
     ·exact hf5.m 8 _ (by kernel_rfl)
   refine ⟨⟨y, _, sk, o, hy, hh, hb5, hf6, hd4, hz4, h4, h5, hb4.but.size, fun q b hq => ?_, fun b hb => ?_⟩, hb4.but.size, fun b hlt hb => hb4.but.block b hlt ?_⟩
   ·unfold q6x at hq
    split at hq
    ·exact .inl (hp3 q b hq)
    ·rcases q83 (q := qC) (c := ju c2 p2 s0 n8 W1 a9) hb3 hb4 hq with ⟨q', -, hq'⟩ | h
     ·exact .inl (hp3 q' b hq')
     ·exact .inr h
   ·exact hG b hb
   ·rintro ⟨q, hq⟩
    have hq := (q4s hq).2
    rcases hb with hb | hb
    ·have := hp3 q b hq
     omega
    ·exact hAh b (hb3.pa q b hq) hb
 ·rintro k N B a1 W W' ⟨y, p4, sk, o, hy, hh, hb4, hf4, hd4, hz4, h4, h5, h6, hp4, hG⟩ hb
  obtain ⟨q1, q2⟩ := qo4 hSh hAh hFh hb4 hb
  exact ⟨y, p4, sk, o, hy, hh, q1, SF.same q2 hf4, hd4, hz4, h4, h5, Nat.le_trans h6 hb.size, hp4, hG⟩
 ·-- a round
  rintro k N B a1 W hkl ⟨y, p4, sk, o, hy, hh, hb4, hf4, hd4, hz4, h4, h5, h6, hp4, hG⟩
  obtain ⟨hrun, hok, hgr, hlen⟩ := hh
  have hdr : (yf s0 x0).drop k = y :: (yf s0 x0).drop (k + 1) := by
   obtain ⟨hlt, e⟩ := List.getElem?_eq_some_iff.1 hy
   rw [List.drop_eq_getElem_cons hlt, e]
  rw [hdr] at hrun hok
  unfold qba at hok
  simp only [Bool.and_eq_true, Bool.or_eq_true, decide_eq_true_eq] at hok
  obtain ⟨hv, hok⟩ := hok
  have hKp : ∀ {W2 : World} {S : Nat → Prop}, But S W W2 → (∀ b, S b → ∃ q, p4 q = some b) → KpN w9 (n8 + 1) m N B W W2 := fun {W2 S} hbu hS => ⟨hbu.size, fun b hlt hb => hbu.block b (by omega) fun h => by
   obtain ⟨q, hq⟩ := hS b h
   rcases hb with hb | hb
   ·have := hp4 q b hq
    omega
   ·exact hAh b (hb4.pa q b hq) hb⟩
  by_cases he : (zt wk.val sk y).2.2.1 = 0
  ·-- the put succeeds
   rcases hok with hok | hok
   ·exact absurd he hok
   rw [qlc] at hrun
   rw [if_pos he] at hrun
   have hcs := hf4.m 2 ⟨.tok 2, zo, [(0, 33)], []⟩ (by kernel_rfl)
   obtain ⟨vc, tc1, tc2⟩ := hf4.t 2 (.sn 2 (.ref 2 [] 0 zo)) (by kernel_rfl)
   have hbA := qoy (q := qC) (F' := (ju c2 p2 s0 n8 W1 a9).F) hb4 hb4.flo.anew fun _ h => h
   have hfA := qpz (q := qC) (hf4.weak (τ := qz2) (by kernel_rfl)) (by kernel_rfl) (by kernel_rfl)
   rw [z5u]
   refine q1j qib ?_
   refine q9i (c := { (ju c2 p2 s0 n8 W1 a9) with A := qaj (ju c2 p2 s0 n8 W1 a9).A qC p4 }) (z := 69) (some (w9.heap.size + 1)) 3 (qwk s0) hfm (qyb s0) qib (n := 7) (ann := q75) (R := fun q => q = [eS (zt wk.val sk y).2.2.2, eC (zt wk.val sk y).1]) (B := fun _ _ => False) (ts := []) (ms := z3d) (kill := []) (σk := zao) (l := q7e wk sk o dw y) (σ := qz2) (d := []) (w0 := W) (S0 := pinned (unP qC p4)) (p := unP qC p4)
    (by
     show (q4q Tryz.prog (q0c s0) q75 c2.lo 69 qib 7 qz2 (toN [] z3d [] zao)).go _ _ _ _
     rw [hlo]
     have e := zjl s0.cs.length s0.ys.length s0.tr.length s0.wk.length
     unfold q0c
     rw [e]
     exact zmg hv hgr he rfl) rfl hbA hfA hd4 hz4 (fun st p5 W2 a2 hR hst hb5 hf5 hd5 hz5 => ?_)
   have hR : st = [eS (zt wk.val sk y).2.2.2, eC (zt wk.val sk y).1] := hR
   subst hR
   rw [show q2a [] z3d 7 (q1p [] z3d [] 7 zao) = z2p from zg2] at hf5
   obtain ⟨l9, hl9⟩ : ∃ l9, l9 = q7e wk sk o dw y ++ [eS (zt wk.val sk y).2.2.2, eC (zt wk.val sk y).1] := ⟨_, rfl⟩
   have hb6 := qy4 hb4 hb5 (hb4.flo.trans hb5.flo)
   have hf6 := qxw (c := (ju c2 p2 s0 n8 W1 a9).at (qb (q0c s0)) (q7e wk sk o dw y ++ [eS (zt wk.val sk y).2.2.2, eC (zt wk.val sk y).1])) (q := qC) hb4 hb5 hf5 (by kernel_rfl) (by kernel_rfl)
   have hc6 := qqc (c := (ju c2 p2 s0 n8 W1 a9).at (qb (q0c s0)) (q7e wk sk o dw y)) (q := qC) (k := 2) (e := ⟨.tok 2, zo, [(0, 33)], []⟩) hb4 hb5 hcs (by kernel_rfl) (by kernel_rfl)
   have ht6 := qx8 (c := (ju c2 p2 s0 n8 W1 a9).at (qb (q0c s0)) (q7e wk sk o dw y)) (q := qC) (x := .sn 2 (.ref 2 [] 0 zo)) hb4 hb5 tc2 (by kernel_rfl) (by kernel_rfl)
   have hp6 : ∀ q b, q6x qC p4 p5 q = some b → b < N ∨ B ≤ b := fun q b hq => by
    unfold q6x at hq
    split at hq
    ·exact hp4 q b hq
    ·rcases q83 (q := qC) (c := ju c2 p2 s0 n8 W1 a9) hb4 hb5 hq with ⟨q', -, hq'⟩ | h
     ·exact hp4 q' b hq'
     ·exact .inr (by omega)
   have hG6 : WkG p2 s0 (q6x qC p4 p5) := fun b hb => hG b hb
   have hbu6 : KpN w9 (n8 + 1) m N B W W2 := hKp hb5.but fun b ⟨q, hq⟩ => ⟨q, (q4s hq).2⟩
   generalize hp66 : q6x qC p4 p5 = p6 at *
   -- the cell is appended
   obtain ⟨c0, hc0⟩ : ∃ c0 : Cx, c0 = { (ju c2 p2 s0 n8 W1 a9) with F := ⟨fun _ => 0, fun _ => 0, (ju c2 p2 s0 n8 W1 a9).F.fr⟩ } := ⟨_, rfl⟩
   have hc0A : c0.A = (ju c2 p2 s0 n8 W1 a9).A := by rw [hc0]
   have hF0 : Flo ⟨fun _ => 0, fun _ => 0, (ju c2 p2 s0 n8 W1 a9).F.fr⟩ W2 W2 := fun k h => absurd h (Nat.lt_irrefl 0)
   have hsf : SF (c0.at (qb []) [.r (o.map eC), eC (zt wk.val sk y).1]) z0q p6 W2 a2 := by
    refine ⟨fun t x hx => ?_, fun j e he => ?_⟩
    ·have hx := qx hx
     simp only [z0q, qr3, List.cons_append, List.nil_append, gnM] at hx
     have sn : ∀ t z, lkA z2p.t t = some (.sn t z) → ∃ v, a2.tmps[t]? = some v ∧ (AV.sn t .any).pd (c0.at (qb []) [.r (o.map eC), eC (zt wk.val sk y).1]) p6 W2 v := fun t z hl => by
      obtain ⟨v, e1, e2, -⟩ := hf6.t t _ hl
      exact ⟨v, e1, by rw [hc0]; exact e2, trivial⟩
     rcases hx with ⟨rfl, rfl⟩ | ⟨rfl, rfl⟩ | ⟨rfl, rfl⟩ | ⟨rfl, rfl⟩ | ⟨rfl, rfl⟩ | ⟨rfl, rfl⟩ | ⟨rfl, rfl⟩
     ·exact sn 0 (.ref 0 [] 0 qi) (by kernel_rfl)
     ·exact sn 1 (.bx 1 41 (.ref 0 [] 0 qi)) (by kernel_rfl)
     ·obtain ⟨v, e1, e2, -⟩ := hf6.t 2 (.sn 2 .any) (by kernel_rfl)
      obtain ⟨e3, -⟩ := id tc2
      have e4 : v = vc := e2.trans e3.symm
      refine ⟨v, e1, ?_⟩
      rw [e4, hc0]
      exact ht6
     ·exact sn 3 (.ref 3 [] 0 y8) (by kernel_rfl)
     ·exact sn 6 (.ref 6 [] 0 yb) (by kernel_rfl)
     ·exact sn 24 (.v (.tok 4) q3l [(0, 385)] []) (by kernel_rfl)
     ·rw [hc0]
      exact hf6.t 10 (.ref 10 [] 0 qn) (by kernel_rfl)
    ·have he := qx he
     simp only [z0q, gnM] at he
     rcases he with ⟨rfl, rfl⟩ | ⟨rfl, rfl⟩
     ·rw [hc0]
      exact hc6
     ·rw [hc0]
      exact hf6.m 10 ⟨.tok 8, qn, [], []⟩ (by kernel_rfl)
   have hbB := qoy (q := qO) (F' := ⟨fun _ => 0, fun _ => 0, (ju c2 p2 s0 n8 W1 a9).F.fr⟩) hb6 hF0 fun _ h => h
   have hfB := qpz (q := qO) hsf (by kernel_rfl) (by kernel_rfl)
   have hlen2 : (o.length : Int) + 1 ≤ 8796093021952 := by
    have : k < (yf s0 x0).length := hkl
    omega
   have pre := q9i (c := { c0 with A := qaj c0.A qO p6 }) (z := 69) (some (w9.heap.size + 1)) 3 .nil (fun te => by rw [hc0]; exact Nat.zero_le _) rfl [z4h] (n := 2) (ann := q75) (R := fun q => q = [.r ((o ++ [(zt wk.val sk y).1]).map eC)]) (B := fun _ _ => False) (ts := []) (ms := z2c) (kill := []) (σk := ⟨qr3, []⟩) (l := [.r (o.map eC), eC (zt wk.val sk y).1]) (σ := z0q) (d := []) (w0 := W2) (S0 := pinned (unP qO p6)) (p := unP qO p6) (Q := fun _ _ _ => False)
    (K := fun a2 W3 => KpN w9 (n8 + 1) m N B W W3 ∧ WkI c2 p2 w9 W1 a9 m n8 wk s0 x0 o0 dw (k + 1) W3.heap.size W3)
    (by
     show (q4q Tryz.prog [] q75 c0.lo 69 [z4h] 2 z0q (toN [] z2c [] ⟨qr3, []⟩)).go _ _ _ _
     rw [show c0.lo = 1 by rw [hc0]; exact hlo, z8h]
     unfold zhb
     rw [qa]
     refine ⟨⟨?_, trivial⟩, ?_⟩
     ·show (D.b (decide ((((o.map eC).length : Nat) : Int) + 1 ≤ 8796093021952))).tt = true
      rw [List.length_map, q5i, decide_eq_true_eq]
      exact hlen2
     ·show [D.r (o.map eC ++ [eC (zt wk.val sk y).1])] = _
      rw [List.map_append]
      rfl) rfl (by rw [hc0]; exact hbB) hfB hd5 hz5 (fun st p7 W3 a3 hR hst hb7 hf7 hd7 hz7 => ?_)
   ·refine wpIn_mono pre fun e a3 W3 hq => ?_
    cases e with
    | normal => exact ⟨hq.1, .inl ⟨rfl, hq.2⟩⟩
    | _ => exact hq.elim
   ·have hR : st = [.r ((o ++ [(zt wk.val sk y).1]).map eC)] := hR
    subst hR
    rw [show q2a [] z2c 2 (q1p [] z2c [] 2 ⟨qr3, []⟩) = zez from zgn] at hf7
    rw [hc0] at hb7
    have hb7 : Bs (qaj (ju c2 p2 s0 n8 W1 a9).A qO p6) ⟨fun _ => 0, fun _ => 0, (ju c2 p2 s0 n8 W1 a9).F.fr⟩ W2 (pinned (unP qO p6)) p7 W3 := hb7
    have hfl : ∀ x b, qO x = false → p6 x = some b → (ju c2 p2 s0 n8 W1 a9).F.fl b = 0 := fun x b hx hxb => by
     rcases zmm hx with rfl | rfl | rfl
     ·obtain ⟨g, cs, T, hg, hh, hT, hcon⟩ := hsf.m 2 _ (by kernel_rfl : lkA z0q.m 2 = some ⟨.tok 0, zo, [(0, 33)], []⟩)
      rw [show p6 32 = some g from hg] at hxb
      injection hxb with hxb
      subst hxb
      exact zaq hb6.flo hh hT (by rw [← Array.length_toList]; exact hcon.len.1) (by kernel_rfl)
     ·exact hG6 b hxb
     ·obtain ⟨g, cs, T, hg, hh, hT, hcon⟩ := hsf.m 10 _ (by kernel_rfl : lkA z0q.m 10 = some ⟨.tok 1, qn, [], []⟩)
      rw [show p6 160 = some g from hg] at hxb
      injection hxb with hxb
      subst hxb
      exact zaq hb6.flo hh hT (by rw [← Array.length_toList]; exact hcon.len.1) (by kernel_rfl)
    have hflo : Flo (ju c2 p2 s0 n8 W1 a9).F W1 W3 := hb6.flo.same fun b hb hfb => qbe (q := qO) (c := ju c2 p2 s0 n8 W1 a9) hb6 hb7 hb fun x hx hxb => by
     have := hfl x b hx hxb
     omega
    have hb8 := qy4 (q := qO) (c := ju c2 p2 s0 n8 W1 a9) hb6 hb7 hflo
    have hf7 : SF { (c0.at (qb []) ([.r (o.map eC), eC (zt wk.val sk y).1] ++ [.r ((o ++ [(zt wk.val sk y).1]).map eC)])) with A := qaj c0.A qO p6 } zez p7 W3 a3 := hf7
    have hf8 := qxw (c := c0.at (qb []) ([.r (o.map eC), eC (zt wk.val sk y).1] ++ [.r ((o ++ [(zt wk.val sk y).1]).map eC)])) (q := qO) (F := (ju c2 p2 s0 n8 W1 a9).F) (w0 := W1) (S0 := wkS p2 w9 n8 m) (w := W2) (p := p6) (by rw [hc0]; exact hb6) (by rw [hc0]; exact hb7) hf7 (by kernel_rfl) (by kernel_rfl)
    -- what was set aside
    have back : ∀ (x : AV) (v : Value), x.pd ((ju c2 p2 s0 n8 W1 a9).at (qb (q0c s0)) (q7e wk sk o dw y ++ [eS (zt wk.val sk y).2.2.2, eC (zt wk.val sk y).1])) p6 W2 v → x.pins.all qO = true → x.keys.all qO = true → x.pd ((ju c2 p2 s0 n8 W1 a9).at (qb (q0c s0)) (q7e wk sk o dw y ++ [eS (zt wk.val sk y).2.2.2, eC (zt wk.val sk y).1])) (q6x qO p6 p7) W3 v := fun x v hx h1 h2 => qx8 (c := ((ju c2 p2 s0 n8 W1 a9).at (qb (q0c s0)) (q7e wk sk o dw y ++ [eS (zt wk.val sk y).2.2.2, eC (zt wk.val sk y).1]))) (q := qO) hb6 hb7 hx h1 h2
    have backE : ∀ (j : Nat) (e : Ent), q0p ((ju c2 p2 s0 n8 W1 a9).at (qb (q0c s0)) (q7e wk sk o dw y ++ [eS (zt wk.val sk y).2.2.2, eC (zt wk.val sk y).1])) p6 W2 j e → qO (j * 16) = true → e.pins.all qO = true → q0p ((ju c2 p2 s0 n8 W1 a9).at (qb (q0c s0)) (q7e wk sk o dw y ++ [eS (zt wk.val sk y).2.2.2, eC (zt wk.val sk y).1])) (q6x qO p6 p7) W3 j e := fun j e hx h1 h2 => qqc (c := ((ju c2 p2 s0 n8 W1 a9).at (qb (q0c s0)) (q7e wk sk o dw y ++ [eS (zt wk.val sk y).2.2.2, eC (zt wk.val sk y).1]))) (q := qO) hb6 hb7 hx h1 h2
    have ha9 : ∀ t, t < 69 → a9.tmps[t]? = some ((ju c2 p2 s0 n8 W1 a9).snap t) := fun t ht => by
     show _ = some (a9.tmps.getD t Go.undef)
     rw [Array.getD_eq_getD_getElem?, Array.getElem?_eq_getElem (by omega)]
     rfl
    have hfin : SF ((ju c2 p2 s0 n8 W1 a9).at (qb (q0c s0)) [eW wk, eS (zt wk.val sk y).2.2.2, .r ((o ++ [(zt wk.val sk y).1]).map eC), .i 0, dw]) qyj (q6x qO p6 p7) W3 a9 := by
     refine ⟨fun t x hx => ?_, fun j e he => ?_⟩
     ·have hx := qx hx
      have old : ∀ t z, lkA z2p.t t = some (.sn t z) → t < 69 → z.pins.all qO = true → z.keys.all qO = true → ∃ v, a9.tmps[t]? = some v ∧ (AV.sn t z).pd ((ju c2 p2 s0 n8 W1 a9).at (qb (q0c s0)) (q7e wk sk o dw y ++ [eS (zt wk.val sk y).2.2.2, eC (zt wk.val sk y).1])) (q6x qO p6 p7) W3 v := fun t z hl ht h1 h2 => by
       obtain ⟨v, e1, e2⟩ := hf6.t t _ hl
       obtain ⟨e3, -⟩ := id e2
       have e3 : v = (ju c2 p2 s0 n8 W1 a9).snap t := e3
       exact ⟨v, by rw [e3]; exact ha9 t ht, back _ _ e2 h1 h2⟩
      simp only [qyj, ql4, gnM] at hx
      rcases hx with ⟨rfl, rfl⟩ | ⟨rfl, rfl⟩ | ⟨rfl, rfl⟩ | ⟨rfl, rfl⟩ | ⟨rfl, rfl⟩ | ⟨rfl, rfl⟩
      ·exact old 0 (.ref 0 [] 0 qi) (by kernel_rfl) (by decide) (by kernel_rfl) (by kernel_rfl)
      ·exact old 1 (.bx 1 41 (.ref 0 [] 0 qi)) (by kernel_rfl) (by decide) (by kernel_rfl) (by kernel_rfl)
      ·obtain ⟨v, e1, e2⟩ := hf8.t 2 (.sn 2 (.ref 2 [] 0 zo)) (by kernel_rfl)
       rw [hc0] at e2
       obtain ⟨e3, -⟩ := id e2
       have e3 : v = (ju c2 p2 s0 n8 W1 a9).snap 2 := e3
       exact ⟨v, by rw [e3]; exact ha9 2 (by decide), e2⟩
      ·exact old 3 (.ref 3 [] 0 y8) (by kernel_rfl) (by decide) (by kernel_rfl) (by kernel_rfl)
      ·exact old 6 (.ref 6 [] 0 yb) (by kernel_rfl) (by decide) (by kernel_rfl) (by kernel_rfl)
      ·exact old 24 (.v (.tok 4) q3l [(0, 385)] []) (by kernel_rfl) (by decide) (by kernel_rfl) (by kernel_rfl)
     ·have he := qx he
      simp only [qyj, zb2, gnM] at he
      rcases he with ⟨rfl, rfl⟩ | ⟨rfl, rfl⟩ | ⟨rfl, rfl⟩ | ⟨rfl, rfl⟩
      ·exact backE 0 _ (hf6.m 0 _ (by kernel_rfl : lkA z2p.m 0 = some ⟨.tok 7, qi, qv 0 qi, []⟩)) (by kernel_rfl) (by kernel_rfl)
      ·have := hf8.m 2 _ (by kernel_rfl : lkA zez.m 2 = some ⟨.tok 2, zo, [(0, 33)], []⟩)
       rw [hc0] at this
       exact this
      ·exact backE 3 _ (hf6.m 3 _ (by kernel_rfl : lkA z2p.m 3 = some ⟨.tok 3, y8, [], []⟩)) (by kernel_rfl) (by kernel_rfl)
      ·exact backE 6 _ (hf6.m 6 _ (by kernel_rfl : lkA z2p.m 6 = some ⟨.tok 0, yb, [], []⟩)) (by kernel_rfl) (by kernel_rfl)
    refine ⟨⟨by have h1 := hbu6.1; have h2 := hb7.but.size; omega, fun b hlt hb => ?_⟩, by have h1 := hbu6.1; have h2 := hb7.but.size; omega, Nat.le_refl _, _, _, _, ⟨hrun, hok, hgr.trans (z1u hv), by simp; omega⟩, hb8, hfin, fun x b hx => hb8.bd x b hx, fun b hb => ?_⟩
    ·have h1 := hbu6.1
     refine (hb7.but.block b (by omega) ?_).trans (hbu6.2 b hlt hb)
     rintro ⟨q, hq⟩
     have hq := (q4s hq).2
     rcases hb with hb | hb
     ·have := hp6 q b hq
      omega
     ·exact hAh b (hb6.pa q b hq) hb
    ·have hb : p7 33 = some b := hb
     rcases q83 (q := qO) (c := ju c2 p2 s0 n8 W1 a9) hb6 hb7 hb with ⟨x, hx, hxb⟩ | hlt
     ·exact hfl x b hx hxb
     ·refine hfl0 hflo ?_
      have := hb6.but.size
      omega
  ·-- the put fails
   rw [qlc] at hrun
   rw [if_neg he] at hrun
   rw [z5u]
   refine q1j qib ?_
   refine q90 (c := ju c2 p2 s0 n8 W1 a9) (z := 69) (some (w9.heap.size + 1)) 3 (qwk s0) hfm (qyb s0) qib (n := 7) (ann := q75) (R := fun q => q = [eS (zt wk.val sk y).2.2.2, .r [], .i (zt wk.val sk y).2.2.1]) (B := fun _ _ => False) (d := []) (l := q7e wk sk o dw y) (σ := z3h) (k := zjd) (by
     show (q4q Tryz.prog (q0c s0) q75 c2.lo 69 qib 7 z3h zjd).go _ _ _ _
     rw [hlo]
     have e := zkd s0.cs.length s0.ys.length s0.tr.length s0.wk.length
     unfold q0c
     rw [e]
     exact zn2 hv hgr he rfl) rfl hb4.anew hf4 hd4 hz4 fun n' r σ' l' B' p' w' a' hl' hpre hgo hb' hf' hd' hz' => ?_
   cases r with
   | normal => exact hgo.elim
   | exit i => exact hgo.elim
   | ret =>
    obtain ⟨st, p5, hR, -, hb5, hf5⟩ := qhw (n' := n') (c := ju c2 p2 s0 n8 W1 a9) hgo hpre rfl hb' hf'
    have hR : st = [eS (zt wk.val sk y).2.2.2, .r [], .i (zt wk.val sk y).2.2.1] := hR
    subst hR
    rw [show q2a [] zbg 7 (q1p [] zbg [] 7 ziw) = zjn from zf7] at hf5
    refine ⟨hKp hb5.but fun b h => h, .inr ⟨rfl, ?_⟩⟩
    unfold WkJ
    rw [← hrun]
    exact ⟨he, p5, q7e wk sk o dw y, hb4.comp hb5, hf5.snapA (by rw [hz]; kernel_rfl) fun t ht => by
     show _ = some (a9.tmps.getD t Go.undef)
     rw [Array.getD_eq_getD_getElem?, Array.getElem?_eq_getElem ht]
     rfl, rfl⟩
 ·rintro W W' ⟨he, p3, l, hb3, hf3, hl⟩ hb
  obtain ⟨q1, q2⟩ := qo4 hSh hAh hFh hb3 hb
  exact ⟨he, p3, l, q1, SF.same q2 hf3, hl⟩
end
end
variable {ops : Array Oper} {rest : List Oper} {y : Operand} {Q : Exit → Act → World → Prop}
section
open Go.RowKit Go.Shelf
section
variable {w : World} {a : Act} {o : Oper} {v u : Value}
theorem z95 {Q : Act → Prop} (hg : o.guard = none) (h : (execOp a.eval o).run Tryz.prog w = .ok (.value v) w) (hk : wpStill Tryz.prog ops w Q rest (a.put o.dst v)) : wpStill Tryz.prog ops w Q (o :: rest) a := by
 unfold wpStill
 rw [if_pos (by simp [Region.wanted, hg])]
 unfold Oper.still
 rw [h]
 exact ⟨rfl, hk⟩
theorem qla {t : Nat} (h : a.tmps[t]? = some v) : a.eval (.tmp t) = v := by
 show a.tmps.getD t undef = v
 rw [Array.getD_eq_getD_getElem?, h]
 rfl
theorem qdp {k t : Nat} (h : k ≠ t) : (a.put (some k) v).tmps[t]? = a.tmps[t]? := by
 simp only [Act.put]
 rw [Array.getElem?_setIfInBounds_ne h]
theorem qvj {k : Nat} (h : k < a.tmps.size) : (a.put (some k) v).tmps[k]? = some v := by
 simp only [Act.put]
 rw [Array.getElem?_setIfInBounds_self, if_pos h]
theorem q7p {k : Option Nat} : (a.put k v).tmps.size = a.tmps.size := by
 cases k <;> simp [Act.put]
theorem qw4 {k : Option Nat} : (a.put k v).defers = a.defers := by
 cases k <;> simp [Act.put]
theorem z3g (heq : o.op = .load T y) (hy : a.eval y = u) (hr : (Instr.loadAt T u).run Tryz.prog w = .ok v w) : (execOp a.eval o).run Tryz.prog w = .ok (.value v) w := by
 subst hy
 generalize a.eval = r at *
 simp [execOp, heq, hr]
theorem zfu {j : Nat} (heq : o.op = .fieldAddr T y j) (hy : a.eval y = u) (hr : (Instr.fieldAt T u j).run Tryz.prog w = .ok v w) : (execOp a.eval o).run Tryz.prog w = .ok (.value v) w := by
 subst hy
 generalize a.eval = r at *
 simp [execOp, heq, hr]
theorem zmr {ad : Addr} (heq : o.op = .nilCheck y) (hy : a.eval y = .pointer (some ad)) : (execOp a.eval o).run Tryz.prog w = .ok (.value (.pointer (some ad))) w := by
 generalize a.eval = r at *
 simp [execOp, heq, hy]
end
section
variable {w : World} {a : Act} {g1 gs g6 : Nat} {v0 v1 v2 v3 v4 v5 u0 u1 u2 u3 u4 : Value} {T1 T T6 : TypeId} {d d6 : D} {F0 F6 : Nat → Prop}
set_option maxHeartbeats 1000000 in
theorem zm2 (hz : a.tmps.size = 69) (e1 : a.tmps[1]? = some (.pointer (some ⟨g1, 0, none⟩))) (hg1 : w.heap[g1]? = some (.cells #[.pointer (some ⟨gs, 0, none⟩)] T1 (0, 0))) (hgs : w.heap[gs]? = some (.cells #[v0, v1, v2, v3, v4, v5] T (0, 0))) (rd : Rd w F0 d qi [v0, v1, v2, v3, v4, v5])
  (e6 : a.tmps[6]? = some (.pointer (some ⟨g6, 0, none⟩))) (hg6 : w.heap[g6]? = some (.cells #[u0, u1, u2, u3, u4] T6 (0, 0))) (rd6 : Rd w F6 d6 qn [u1, u2])
  (hk : ∀ a', a'.defers = a.defers → a'.tmps.size = 69 → (∀ t, t < 30 → a'.tmps[t]? = a.tmps[t]?) → a'.tmps[35]? = some (.func (.func 94) #[] #[ptV w.heap.size, ptV (w.heap.size + 1)]) →
   Q .normal a' ((w.drew.alloc (.cells #[v0, v1, v2, v3, v4, v5] 27)).alloc (.cells #[u1, u2] 29))) : wkY.wp Tryz.prog Q a w := by
 rw [zd1]
 refine wp_region_still_tail 5 (by kernel_rfl) (by kernel_rfl) ?_
 generalize z8m.toArray = ops
 show wpStill Tryz.prog ops w.drew (fun a' => wpList Tryz.prog ops Q (z8m.drop 5) a' w.drew) (z8m.take 5) a
 simp only [z8m, List.take_succ_cons, List.take_zero, List.drop_succ_cons, List.drop_zero]
 refine z95 rfl (z3g (v := .pointer (some ⟨gs, 0, none⟩)) rfl (qla e1) (qbc (by kernel_rfl) (show w.drew.heap[g1]? = _ from hg1))) ?_
 refine z95 rfl (zmr (ad := ⟨gs, 0, none⟩) rfl (qla (qvj (by omega)))) ?_
 obtain ⟨va, hva, hpa⟩ := q6o (w := w.drew) (F := F0) (T := 27) (t := qi) (by kernel_rfl) (b := gs) (o := 0) (cs := [v0, v1, v2, v3, v4, v5]) (fun i v hv => by
  rw [qaw (show w.drew.heap[gs]? = _ from hgs), Nat.zero_add]
  simpa using hv) (d := d) (Rd.keeps (w := w) (w' := w.drew) (F := F0) (F' := F0) (fun b o h ho => ⟨ho, h⟩) _ rd)
 have hpa : va = .agg #[v0, v1, v2, v3, v4, v5] := hpa
 subst hpa
 refine z95 rfl (z3g rfl (qla (qvj (by rw [q7p]; omega))) hva) ?_
 refine z95 rfl (zfu (v := .pointer (some ⟨g6, 1, none⟩)) (u := .pointer (some ⟨g6, 0, none⟩)) rfl (qla (by
  rw [qdp (by decide), qdp (by decide), qdp (by decide)]
  exact e6)) (by
  have h := q94 (w := w.drew) (T := 73) (S := match yb with | .st S => S | _ => 0) (by kernel_rfl) (fs := [.int .i64, qn, qn]) (by kernel_rfl) (j := 1) (t := qn) rfl g6 0
  exact h)) ?_
 obtain ⟨vb, hvb, hpb⟩ := q6o (w := w.drew) (F := F6) (T := 29) (t := qn) (by kernel_rfl) (b := g6) (o := 1) (cs := [u1, u2]) (fun i v hv => by
  rw [qaw (show w.drew.heap[g6]? = _ from hg6)]
  rcases i with _ | _ | i
  ·exact hv
  ·exact hv
  ·cases hv) (d := d6) (Rd.keeps (w := w) (w' := w.drew) (F := F6) (F' := F6) (fun b o h ho => ⟨ho, h⟩) _ rd6)
 have hpb : vb = .agg #[u1, u2] := hpb
 subst hpb
 refine z95 rfl (z3g rfl (qla (qvj (by rw [q7p, q7p, q7p]; omega))) hvb) ?_
 refine wpStill_nil ?_
 -- the call
 obtain ⟨a5, ha5⟩ : ∃ a5 : Act, a5 = ((((a.put (some 30) (.pointer (some ⟨gs, 0, none⟩))).put (some 31) (.pointer (some ⟨gs, 0, none⟩))).put (some 32) (.agg #[v0, v1, v2, v3, v4, v5])).put (some 33) (.pointer (some ⟨g6, 1, none⟩))).put (some 34) (.agg #[u1, u2]) := ⟨_, rfl⟩
 have h32 : a5.eval (.tmp 32) = .agg #[v0, v1, v2, v3, v4, v5] := qla (by
  rw [ha5, qdp (by decide), qdp (by decide), qvj (by rw [q7p, q7p]; omega)])
 have h34 : a5.eval (.tmp 34) = .agg #[u1, u2] := qla (by
  rw [ha5, qvj (by rw [q7p, q7p, q7p, q7p]; omega)])
 have h5z : a5.tmps.size = 69 := by rw [ha5, q7p, q7p, q7p, q7p, q7p]; exact hz
 have h5d : a5.defers = a.defers := by rw [ha5, qw4, qw4, qw4, qw4, qw4]
 have h5t : ∀ t, t < 30 → a5.tmps[t]? = a.tmps[t]? := fun t ht => by
  rw [ha5, qdp (by omega), qdp (by omega), qdp (by omega), qdp (by omega), qdp (by omega)]
 show wpList Tryz.prog ops Q _ _ w.drew
 rw [show ((((a.put (some 30) (.pointer (some ⟨gs, 0, none⟩))).put (some 31) (.pointer (some ⟨gs, 0, none⟩))).put (some 32) (.agg #[v0, v1, v2, v3, v4, v5])).put (some 33) (.pointer (some ⟨g6, 1, none⟩))).put (some 34) (.agg #[u1, u2]) = a5 from ha5.symm]
 unfold wpList
 rw [if_pos (by simp [Region.wanted])]
 refine .inl ?_
 unfold Oper.wp
 rw [show (execOp a5.eval _).run Tryz.prog w.drew = .ok (.enter 63 #[.agg #[v0, v1, v2, v3, v4, v5], .agg #[u1, u2]]) w.drew by
  have hen := qze (63, 94, 27, 29) (by simp [qvx]) #[.agg #[v0, v1, v2, v3, v4, v5], .agg #[u1, u2]] w.drew
  have hfv : a5.eval (.func 63) = .func (.func 63) #[] #[] := rfl
  generalize a5.eval = r at *
  simp [execOp, resolve, Deferred.ofValue, hfv, invoke, h32, h34, hen]]
 show Calls Tryz.prog 63 _ w.drew _
 refine (z4f w.drew v0 v1 v2 v3 v4 v5 u1 u2).mono ?_
 rintro e w' ⟨rfl, rfl⟩
 show wpList Tryz.prog ops Q [] (a5.put (some 35) _) _
 refine hk _ (by rw [qw4]; exact h5d) (by rw [q7p]; exact h5z) (fun t ht => by rw [qdp (by omega)]; exact h5t t ht) (qvj (by omega))
end
end
variable {F : Nat → Prop} {cs : List Value} {a : Act}
section
open Go.RowKit Go.Shelf
theorem zmw {w : World} {k : Wk} (h : Rd w F (eW k) yb cs) : cs = [.int .i64 k.ser, .int .i64 k.att.t, .int .i64 k.att.n, .int .i64 k.val.t, .int .i64 k.val.n] ∧ Rd w F (eC k.att) qn [.int .i64 k.att.t, .int .i64 k.att.n] ∧ k.att.ok := by
 have hfl : flds (match yb with | .st S => S | _ => 0) = some [.int .i64, qn, qn] := by kernel_rfl
 obtain ⟨l, e, hF⟩ := Ins.of_rdS hfl h
 injection e with e
 subst e
 obtain ⟨d, l', c1, c2, e1, rfl, h1, hG⟩ := Ins.of_rdF hF
 obtain ⟨d2, l2, c3, c4, e2, rfl, h2, hH⟩ := Ins.of_rdF hG
 obtain ⟨d3, l3, c5, c6, e3, rfl, h3, hI⟩ := Ins.of_rdF hH
 obtain ⟨rfl, rfl⟩ := Ins.of_rdN hI
 injection e1 with e1 e1'
 subst e1 e1'
 injection e2 with e2 e2'
 subst e2 e2'
 injection e3 with e3 _
 subst e3
 obtain ⟨n1, -, q1, rfl⟩ := Ins.of_rdI h1
 injection q1 with q1
 subst q1
 have hok := z4t h2
 obtain rfl := quu h2
 obtain rfl := quu h3
 exact ⟨rfl, h2, hok⟩
noncomputable def znc : Nat := match wkF with
 | .rangeFunc _ _ _ (.block i _) => i
 | _ => 0
theorem zk2 : wkF = .rangeFunc (.tmp 35) #[36, 37] z9e (.block znc z48) := by kernel_rfl
theorem ItOk.blk {w : World} {n bs bc m : Nat} {ti tx : Tmp} {assign body : Code} {css : List Value} {s : So} {c0 : Ce} {I : Nat → Nat → World → Prop} {M : Nat → Nat → Nat → Act → World → Prop} {J : World → Prop} (h : ItOk w a n bs bc m ti tx assign body css s c0 I M J) (i : Nat) : ItOk w a n bs bc m ti tx assign (.block i body) css s c0 I M J :=
 ⟨h.rd, h.step, h.assign, h.mstep, fun k N B a1 W hk hM => wpIn_block (wpIn_mono (h.body k N B a1 W hk hM) fun e a w hq => by
  rcases hq with ⟨h1, ⟨rfl, h2⟩ | ⟨rfl, h2⟩⟩
  ·exact ⟨h1, .inl ⟨rfl, h2⟩⟩
  ·exact ⟨h1, .inr ⟨rfl, h2⟩⟩), h.stop⟩
section
variable {c2 : Cx} {p8 : qm} {w8 : World} {a8 : Act} {s sk : So} {ws kk : D} {o : List Ce} {wk : Wk} {i2 : Nat}
set_option maxHeartbeats 2000000 in
theorem zcf (hlo : c2.lo = 1) (hfz : ∀ te, c2.F.mx te = 0) (hb : Bs c2.A c2.F w8 (pinned p8) p8 w8) (hf : SF (c2.at (qb q56) [eS s, ws, kk, eS sk, .r (o.map eC), .i 0, eS sk, .r (o.map eC), .i 0, eW wk]) zgb p8 w8 a8) (hz : a8.tmps.size = 69) (hok : qba wk.val sk (yf sk wk.att) = true) (hob : o.length + (yf sk wk.att).length + 1 ≤ 8796093021952) (so : sk.ok)
  (hN : ∀ A3 p' W' a' D, (∀ b, A3 b → c2.A b) → ¬ A3 D → w8.heap.size ≤ D → W'.heap[D]? = some (.deferred (some [])) → a'.defers = qre D :: a8.defers → a'.tmps.size = 69 → (∀ b, b < w8.heap.size → ¬ pinned p8 b → W'.heap[b]? = w8.heap[b]?) → Bs c2.A c2.F w8 (pinned p8) p' W' → Bs A3 c2.F W' (pinned p') p' W' →
   (jj wk.val sk o (yf sk wk.att)).2.2 = 0 → SF (({ c2 with A := A3 } : Cx).at (qb q56) [eS s, ws, kk, eS (jj wk.val sk o (yf sk wk.att)).1, .r ((jj wk.val sk o (yf sk wk.att)).2.1.map eC), .i 0]) q4r p' W' a' → (jj wk.val sk o (yf sk wk.att)).2.1.length ≤ o.length + (yf sk wk.att).length → Q .normal a' W')
  (hR : ∀ A3 p' W' a' D, (∀ b, A3 b → c2.A b) → ¬ A3 D → w8.heap.size ≤ D → W'.heap[D]? = some (.deferred (some [])) → a'.defers = qre D :: a8.defers → a'.tmps.size = 69 → (∀ b, b < w8.heap.size → ¬ pinned p8 b → W'.heap[b]? = w8.heap[b]?) → Bs c2.A c2.F w8 (pinned p8) p' W' → Bs A3 c2.F W' (pinned p') p' W' →
   ¬ (jj wk.val sk o (yf sk wk.att)).2.2 = 0 → SF (({ c2 with A := A3 } : Cx).at (qb q56) [eS s, eS (jj wk.val sk o (yf sk wk.att)).1, .r [], .i (jj wk.val sk o (yf sk wk.att)).2.2]) wkE p' W' a' → Q .ret a' W') :
  (Code.seq wkY (.block i2 wkF)).wpIn (FR none) 5 Tryz.prog Q a8 w8 := by
 -- what is known before the copies
 obtain ⟨g1', t1, g1, u1, ⟨hp1, -⟩, rfl, hg1, gs', hgs', rfl, -⟩ := hf.t 1 (.bx 1 41 (.ref 0 [] 0 qi)) (by kernel_rfl)
 obtain ⟨gs, cs, T, hgs, hh, hT, hcon⟩ := hf.m 0 ⟨.tok 6, qi, qv 0 qi, []⟩ (by kernel_rfl)
 have hcon : Con c2.A p8 w8 (eS sk) qi (qv 0 qi) [] cs.toList := hcon
 have hgs' : p8 (0 * 16) = some gs' := hgs'
 rw [hgs] at hgs'
 injection hgs' with hgs'
 subst hgs'
 obtain ⟨v0, v1, v2, v3, ecs, q0, q1, q2, q3, r1, r2⟩ := z39 hcon
 obtain ⟨cs⟩ := cs
 have ecs : cs = _ := ecs
 subst ecs
 have rd0 : Rd w8 (FFD c2.A p8 ([] ++ (qv 0 qi).map (·.2))) (eS sk) qi [v0, v1, v2, v3, .int .i64 sk.ser, .int .i64 sk.mx] := Con.rd hcon (fun x hx => List.mem_append_left _ hx) (fun x hx => List.mem_append_right _ hx)
 obtain ⟨g6', t6, g6, hp6, rfl, -⟩ := hf.t 6 (.ref 6 [] 0 yb) (by kernel_rfl)
 obtain ⟨gw, csw, Tw, hgw, hhw, hTw, hcw⟩ := hf.m 6 ⟨.tok 9, yb, [], []⟩ (by kernel_rfl)
 have hp6 : p8 (6 * 16) = some g6 := hp6
 rw [hp6] at hgw
 injection hgw with hgw
 subst hgw
 have rdw : Rd w8 (FFD c2.A p8 []) (eW wk) yb csw.toList := Con.rd (show Con c2.A p8 w8 (eW wk) yb [] [] csw.toList from hcw) (fun _ h => h) (fun _ h => nomatch h)
 obtain ⟨ecw, rda, wo⟩ := zmw rdw
 obtain ⟨csw⟩ := csw
 have ecw : csw = _ := ecw
 subst ecw
 refine wpIn_seq ((wpIn_wide (n := 5)).2 (zm2 hz t1 hg1 hh rd0 t6 hhw rda fun a9 hd9 hz9 ht9 h35 => ?_))
 obtain ⟨w9, hw9⟩ : ∃ w9, w9 = ((w8.drew.alloc (.cells #[v0, v1, v2, v3, .int .i64 sk.ser, .int .i64 sk.mx] 27)).alloc (.cells #[.int .i64 wk.att.t, .int .i64 wk.att.n] 29)) := ⟨_, rfl⟩
 rw [← hw9]
 have h9s : w9.heap.size = w8.heap.size + 2 := by rw [hw9]; simp
 have hb9 : But Nil w8 w9 := by rw [hw9]; exact (((But.refl _ _).drew).alloc _).alloc _
 have h9a : w9.heap[w8.heap.size]? = some (.cells #[v0, v1, v2, v3, .int .i64 sk.ser, .int .i64 sk.mx] 27 (0, 0)) := by rw [hw9]; exact q1x (jp rfl)
 have h9b : w9.heap[w8.heap.size + 1]? = some (.cells #[.int .i64 wk.att.t, .int .i64 wk.att.n] 29 (0, 0)) := by rw [hw9]; exact jp (by simp)
 clear hw9
 show (Code.block i2 wkF).wpIn (FR none) 5 Tryz.prog Q a9 w9
 refine wpIn_block ?_
 rw [zk2]
 obtain ⟨r, hr⟩ : ∃ r, r = jj wk.val sk o (yf sk wk.att) := ⟨_, rfl⟩
 rw [← hr] at hN hR
 have rd9 : Rd w9 (fun b => b ≠ w8.heap.size + 1) (eS sk) qi [v0, v1, v2, v3, .int .i64 sk.ser, .int .i64 sk.mx] := Rd.keeps (fun b o _ ho => ⟨(hb9.block b (Array.getElem?_eq_some_iff.1 ho).1 (fun h => h)).trans ho, by have : b < w8.heap.size := (Array.getElem?_eq_some_iff.1 ho).1; omega⟩) _ rd0
 refine z9b (nn := 5) (bs := w8.heap.size) (bc := w8.heap.size + 1) (css := [v0, v1, v2, v3, .int .i64 sk.ser, .int .i64 sk.mx]) (s := sk) (c0 := wk.att) (by omega) (qla h35) (by omega) ⟨_, h9a⟩ rd9 so ⟨_, by kernel_rfl, h9b⟩ wo fun m W1 hbut hm1 hm2 => ?_
 have hw1 := hbut.size
 have hbut8 : But Nil w8 W1 := hb9.trans_nil hbut
 have hp8 : ∀ x b, p8 x = some b → b < w8.heap.size := hb.bd
 -- the facts at the first round
 have hst : Stab (wkA c2.A w8.heap.size W1.heap.size) no no p8 w8 p8 W1 := ⟨hbut8.size, fun b hlt _ hfr => ⟨hbut8.block b hlt fun h => h, hfr⟩, fun _ _ _ h => h, fun x b _ hx => hbut8.block b (hp8 x b hx) fun h => h⟩
 have hf1 : SF (({ (c2.at (qb q56) [eS s, ws, kk, eS sk, .r (o.map eC), .i 0, eS sk, .r (o.map eC), .i 0, eW wk]) with A := wkA c2.A w8.heap.size W1.heap.size } : Cx)) zgb p8 W1 a8 := SF.same hst (SF.chP (A' := wkA c2.A w8.heap.size W1.heap.size) (fun b hb hA _ => ⟨hA, .inl hb⟩) hf)
 have sn9 : ∀ t v, t < 30 → a8.tmps[t]? = some v → a9.tmps[t]? = some v ∧ v = a9.tmps.getD t Go.undef := fun t v ht h => by
  have h' := (ht9 t ht).trans h
  refine ⟨h', ?_⟩
  rw [Array.getD_eq_getD_getElem?, h']
  rfl
 have hf0 : SF ((ju c2 p8 sk w8.heap.size W1 a9).at (qb (q0c sk)) [eW wk, eS sk, .r (o.map eC), .i 0, ws]) qyj p8 W1 a9 := by
  refine ⟨fun t x hx => ?_, fun j e he => ?_⟩
  ·have hx := qx hx
   simp only [qyj, ql4, gnM] at hx
   rcases hx with ⟨rfl, rfl⟩ | ⟨rfl, rfl⟩ | ⟨rfl, rfl⟩ | ⟨rfl, rfl⟩ | ⟨rfl, rfl⟩ | ⟨rfl, rfl⟩
   ·obtain ⟨v, e1, e2⟩ := hf1.t 0 (.ref 0 [] 0 qi) (by kernel_rfl)
    obtain ⟨e3, e4⟩ := sn9 0 v (by decide) e1
    exact ⟨v, e3, e4, e2⟩
   ·obtain ⟨v, e1, e2⟩ := hf1.t 1 (.bx 1 41 (.ref 0 [] 0 qi)) (by kernel_rfl)
    obtain ⟨e3, e4⟩ := sn9 1 v (by decide) e1
    exact ⟨v, e3, e4, e2⟩
   ·obtain ⟨v, e1, e2⟩ := hf1.t 2 (.ref 2 [] 0 zo) (by kernel_rfl)
    obtain ⟨e3, e4⟩ := sn9 2 v (by decide) e1
    exact ⟨v, e3, e4, e2⟩
   ·obtain ⟨v, e1, -, e2⟩ := hf1.t 3 (.sn (VB + 3) (.ref 3 [] 0 y8)) (by kernel_rfl)
    obtain ⟨e3, e4⟩ := sn9 3 v (by decide) e1
    exact ⟨v, e3, e4, e2⟩
   ·obtain ⟨v, e1, e2⟩ := hf1.t 6 (.ref 6 [] 0 yb) (by kernel_rfl)
    obtain ⟨e3, e4⟩ := sn9 6 v (by decide) e1
    exact ⟨v, e3, e4, e2⟩
   ·obtain ⟨v, e1, e2⟩ := hf1.t 24 (.v (.tok 1) q3l [(0, 385)] []) (by kernel_rfl)
    obtain ⟨e3, e4⟩ := sn9 24 v (by decide) e1
    exact ⟨v, e3, e4, e2⟩
  ·have he := qx he
   simp only [qyj, zb2, gnM] at he
   rcases he with ⟨rfl, rfl⟩ | ⟨rfl, rfl⟩ | ⟨rfl, rfl⟩ | ⟨rfl, rfl⟩
   ·exact hf1.m 0 ⟨.tok 6, qi, qv 0 qi, []⟩ (by kernel_rfl)
   ·exact hf1.m 2 ⟨.tok 7, zo, [(0, 33)], []⟩ (by kernel_rfl)
   ·exact hf1.m 3 ⟨.tok 8, y8, [], []⟩ (by kernel_rfl)
   ·exact hf1.m 6 ⟨.tok 9, yb, [], []⟩ (by kernel_rfl)
 have hbs : ∀ F : Flr, F.fr = c2.F.fr → Flo F W1 W1 → Bs (wkA c2.A w8.heap.size W1.heap.size) F W1 (wkS p8 w9 w8.heap.size m) p8 W1 := fun F hfr hF =>
  ⟨hb.inj, fun x b hx => Nat.lt_of_lt_of_le (hp8 x b hx) hbut8.size, But.refl _ _, fun x b hx => .inl (.inl ⟨x, hx⟩), fun b hb' => ⟨⟨(hb.new b (by omega)).1, .inr hb'⟩, by rw [hfr]; exact (hb.new b (by omega)).2⟩, fun x b hx => ⟨hb.pa x b hx, .inl (hp8 x b hx)⟩, fun x b hx => (hb.obj x b hx).same (hbut8.block b (hp8 x b hx) fun h => h), hF⟩
 have hAD : ¬ wkA c2.A w8.heap.size W1.heap.size w9.heap.size := fun h => by
  have := h.2
  omega
 have hSp : ∀ b, wkS p8 w9 w8.heap.size m b → pinned p8 b ∨ w8.heap.size ≤ b := by
  rintro b (h | h)
  ·exact .inl h
  ·unfold q31 at h
   exact .inr (by omega)
 -- the end of the range
 have hval : ∀ {W : World} {p3 : qm} {t : Nat} {x : X} {l : List D}, t < 30 → lkA zgb.t t = some (.v x (.int .i64) [] []) → (x.ev (evl (qb q56) [eS s, ws, kk, eS sk, .r (o.map eC), .i 0, eS sk, .r (o.map eC), .i 0, eW wk]) = x.ev (evl (qb q56) l)) → ∃ v, a9.tmps[t]? = some v ∧ (AV.v x (.int .i64) [] []).pd (({ c2 with A := wkA c2.A w8.heap.size W1.heap.size } : Cx).at (qb q56) l) p3 W v := fun {W p3 t x l} ht hx he => by
  obtain ⟨v, e1, cs, e2, e3⟩ := hf.t t _ hx
  refine ⟨v, (sn9 t v ht e1).1, cs, e2, ?_⟩
  rw [show x.ev (c2.at (qb q56) _).v = x.ev (evl (qb q56) l) from he] at e3
  exact Con.of_rd (Rd.flat 8 _ (by kernel_rfl) (Con.rd e3 (dep' := []) (fun _ h => h) (fun _ h => nomatch h)))
 have hbsW : ∀ (F : Flr) p3 W, F.fr = c2.F.fr → Bs (wkA c2.A w8.heap.size W1.heap.size) F W1 (wkS p8 w9 w8.heap.size m) p3 W → Bs c2.A c2.F w8 (pinned p8) p3 W ∧ Bs (wkA c2.A w8.heap.size W1.heap.size) c2.F W (pinned p3) p3 W ∧ ∀ b, b < w8.heap.size → ¬ pinned p8 b → W.heap[b]? = w8.heap[b]? := fun F p3 W hfr h3 => by
  have h1 := h3.but.size
  have hbW : But (pinned p8) w8 W := (But.mono hbut8 fun _ h _ => h.elim).trans h3.but fun b hS hlt => by
   rcases hSp b hS with h | h
   ·exact .inl h
   ·exact .inr h
  refine ⟨⟨h3.inj, h3.bd, hbW, fun x b hx => ?_, hb.new, fun x b hx => (h3.pa x b hx).1, h3.obj, Flo.of0 hfz hb.flo⟩, ⟨h3.inj, h3.bd, But.refl _ _, fun x b hx => .inl ⟨x, hx⟩, fun b hb' => ⟨(h3.new b (by omega)).1, (hb.new b (by omega)).2⟩, h3.pa, h3.obj, Flo.of0 hfz hb.flo⟩, fun b hlt hn => hbW.block b hlt hn⟩
  rcases h3.pin x b hx with h | h
  ·exact hSp b h
  ·exact .inr (by omega)
 have fin : ∀ (F : Flr) p3 W sk' o', F.fr = c2.F.fr → Bs (wkA c2.A w8.heap.size W1.heap.size) F W1 (wkS p8 w9 w8.heap.size m) p3 W → SF ((ju c2 p8 sk w8.heap.size W1 a9).at (qb (q0c sk)) [eW wk, eS sk', .r (o'.map eC), .i 0, ws]) qyj p3 W a9 → W.heap[w9.heap.size]? = some (.deferred (some [])) → r = (sk', o', 0) → o'.length ≤ o.length + (yf sk wk.att).length → Q .normal { a9 with defers := { target := .collected w9.heap.size, args := #[] } :: a9.defers } W := fun F p3 W sk' o' hfr h3 hs hD hre hol => by
  obtain ⟨b1, b2, b3⟩ := hbsW F p3 W hfr h3
  have e1 : r.1 = sk' := by rw [hre]
  have e2 : r.2.1 = o' := by rw [hre]
  have e3 : r.2.2 = 0 := by rw [hre]
  refine hN _ p3 W _ w9.heap.size (fun b h => h.1) hAD (by omega) hD (by show _ :: a9.defers = _; rw [hd9]; rfl) hz9 b3 b1 b2 e3 ?_ (by rw [e2]; exact hol)
  rw [e1, e2]
  refine ⟨fun t x hx => ?_, fun j e he => ?_⟩
  ·have hx := qx hx
   simp only [q4r, gnM] at hx
   rcases hx with ⟨rfl, rfl⟩ | ⟨rfl, rfl⟩ | ⟨rfl, rfl⟩ | ⟨rfl, rfl⟩ | ⟨rfl, rfl⟩ | ⟨rfl, rfl⟩ | ⟨rfl, rfl⟩
   ·obtain ⟨v, e1, -, e2⟩ := hs.t 0 (.sn 0 (.ref 0 [] 0 qi)) (by kernel_rfl)
    exact ⟨v, e1, e2⟩
   ·obtain ⟨v, e1, -, e2⟩ := hs.t 1 (.sn 1 (.bx 1 41 (.ref 0 [] 0 qi))) (by kernel_rfl)
    exact ⟨v, e1, e2⟩
   ·obtain ⟨v, e1, -, e2⟩ := hs.t 2 (.sn 2 (.ref 2 [] 0 zo)) (by kernel_rfl)
    exact ⟨v, e1, e2⟩
   ·obtain ⟨v, e1, -, e2⟩ := hs.t 3 (.sn 3 (.ref 3 [] 0 y8)) (by kernel_rfl)
    obtain ⟨v', f1, f2, -⟩ := hf.t 3 (.sn (VB + 3) (.ref 3 [] 0 y8)) (by kernel_rfl)
    have f3 := (sn9 3 v' (by decide) f1).1
    have e1' : a9.tmps[3]? = some v := e1
    rw [f3] at e1'
    injection e1' with e1'
    subst e1'
    exact ⟨v', f3, f2, e2⟩
   ·obtain ⟨v, e1, -, e2⟩ := hs.t 24 (.sn 24 (.v (.tok 4) q3l [(0, 385)] [])) (by kernel_rfl)
    exact ⟨v, e1, e2⟩
   ·exact hval (by decide) (by kernel_rfl) rfl
   ·exact hval (by decide) (by kernel_rfl) rfl
  ·have he := qx he
   simp only [q4r, gnM] at he
   rcases he with ⟨rfl, rfl⟩ | ⟨rfl, rfl⟩ | ⟨rfl, rfl⟩
   ·exact hs.m 0 ⟨.tok 1, qi, qv 0 qi, []⟩ (by kernel_rfl)
   ·exact hs.m 2 ⟨.tok 2, zo, [(0, 33)], []⟩ (by kernel_rfl)
   ·exact hs.m 3 ⟨.tok 3, y8, [], []⟩ (by kernel_rfl)
 rcases Nat.eq_zero_or_pos (yf sk wk.att).length with hnil | hpos
 ·-- no attributes
  have hnil := List.eq_nil_of_length_eq_zero hnil
  have hre : r = (sk, o, 0) := by rw [hr, hnil]; rfl
  have hF0 : Flo (⟨fun _ => 0, fun _ => 0, c2.F.fr⟩ : Flr) W1 W1 := fun k h => absurd h (Nat.lt_irrefl 0)
  refine ⟨fun k N W => w9.heap.size + 2 ≤ N ∧ N ≤ W.heap.size ∧ But (q31 w9 (w8.heap.size + 1) m) W1 W, fun _ _ _ _ _ => False, fun _ => False, ⟨?_, ?_, ?_, ?_, ?_, fun _ _ h => h.elim⟩, ⟨by omega, Nat.le_refl _, But.refl _ _⟩, ?_, fun W h => h.elim⟩
  ·rintro k N W ⟨h1, h2, h3⟩
   have hk : ∀ b o, w9.heap[b]? = some o → ¬ q31 w9 (w8.heap.size + 1) m b → W.heap[b]? = some o := fun b o ho hh => (h3.block b (by have : b < w9.heap.size := (Array.getElem?_eq_some_iff.1 ho).1; omega) hh).trans ((hbut.block b (Array.getElem?_eq_some_iff.1 ho).1 fun h => h).trans ho)
   refine ⟨h1, h2, ⟨_, hk _ _ h9a (by unfold q31; omega)⟩, Rd.keeps (fun b o _ ho => ?_) _ rd0⟩
   have hlt : b < w8.heap.size := (Array.getElem?_eq_some_iff.1 ho).1
   exact ⟨hk b o ((hb9.block b hlt fun h => h).trans ho) (by unfold q31; omega), by omega, by omega⟩
  ·rintro k N W W' ⟨h1, h2, h3⟩ hb'
   exact ⟨h1, Nat.le_trans h2 hb'.size, h3.trans hb' fun b h _ => .inl h⟩
  ·rintro k N W x hx
   rw [hnil] at hx
   cases hx
  ·intro k N B a1 W W' h
   exact h.elim
  ·intro k N B a1 W _ h
   exact h.elim
  ·rintro N W ⟨h1, h2, h3⟩ hD
   obtain ⟨q1, q2⟩ := qo4 (W1 := W1) (F := ⟨fun _ => 0, fun _ => 0, c2.F.fr⟩) (S1 := wkS p8 w9 w8.heap.size m) (A' := wkA c2.A w8.heap.size W1.heap.size) (fun b h => .inr h) (fun b h => by
    have := h.2
    unfold q31
    omega) (fun b h => absurd h (Nat.lt_irrefl 0)) (hbs ⟨fun _ => 0, fun _ => 0, c2.F.fr⟩ rfl hF0) h3
   exact fin ⟨fun _ => 0, fun _ => 0, c2.F.fr⟩ p8 W sk o rfl q1 (SF.same q2 hf0) hD hre (by omega)
 ·-- attributes
  obtain ⟨hc2, hy2⟩ := ze0 hpos
  have k9 : ∀ {pin : Nat} {E : TypeId} {te : Ty} {l : List D} {v : Value}, q21 c2.A p8 w8 [] pin E te l v → q21 c2.A p8 w9 [] pin E te l v := fun h => q21.kept (Z := no) (L := no) h ⟨hb9.size, fun b hlt _ hfr => ⟨hb9.block b hlt fun h => h, hfr⟩, fun _ _ _ h => h, fun x b _ hx => hb9.block b (hp8 x b hx) fun h => h⟩ (fun _ h => nomatch h) ⟨rfl, rfl⟩
  have k1 : ∀ {pin : Nat} {E : TypeId} {te : Ty} {l : List D} {v : Value}, q21 c2.A p8 w8 [] pin E te l v → q21 c2.A p8 W1 [] pin E te l v := fun h => q21.kept (Z := no) (L := no) h ⟨hbut8.size, fun b hlt _ hfr => ⟨hbut8.block b hlt fun h => h, hfr⟩, fun _ _ _ h => h, fun x b _ hx => hbut8.block b (hp8 x b hx) fun h => h⟩ (fun _ h => nomatch h) ⟨rfl, rfl⟩
  have hflo := zk9 (fr := c2.F.fr) hb.inj (k1 q0) (k1 q1) (k1 q2) (k1 q3) hc2 hy2
  refine ⟨_, _, _, ItOk.blk (zmf (c2 := c2) (p2 := p8) (wk := wk) (o0 := o) (dw := ws) hlo hz9 h9s hb.inj hp8 (k9 q0) (k9 q1) (k9 q2) (k9 q3) r1 r2 ⟨_, h9a⟩ hbut hm1 hm2 hob) znc, ?_, ?_, ?_⟩
  ·refine ⟨by omega, Nat.le_refl _, p8, sk, o, ⟨rfl, by rw [List.drop_zero]; exact hok, qaq.refl _, by omega⟩, hbs _ rfl hflo, hf0, fun x b hx => by have := hp8 x b hx; omega, fun b hb33 => ?_⟩
   have ne : ∀ x, x ≠ 33 → ¬ p8 x = some b := fun x h hx => h (hb.inj x 33 b hx hb33)
   simp only [q17, if_neg (ne 1 (by decide)), if_neg (ne 2 (by decide)), if_neg (ne 3 (by decide)), if_neg (ne 4 (by decide))]
  ·rintro N W ⟨-, -, p3, sk', o', ⟨hrun, -, -, hlen⟩, h3, hs, -, -⟩ hD
   rw [List.drop_length] at hrun
   exact fin (q17 p8 sk c2.F.fr) p3 W sk' o' rfl h3 hs hD (hr.trans hrun.symm) hlen
  ·rintro W ⟨he, p3, l, h3, hs, hl⟩ hD
   obtain ⟨b1, b2, b3⟩ := hbsW (q17 p8 sk c2.F.fr) p3 W rfl h3
   rw [← hr] at he hs
   refine hR _ p3 W _ w9.heap.size (fun b h => h.1) hAD (by omega) hD (by show _ :: a9.defers = _; rw [hd9]; rfl) hz9 b3 b1 b2 he ?_
   match l, hl with
   | [l0, l1, l2, l3, l4, l5, l6], _ =>
   refine ⟨fun t x hx => ?_, fun j e he => ?_⟩
   ·have hx := qx hx
    simp only [wkE, gnM] at hx
    rcases hx with ⟨rfl, rfl⟩ | ⟨rfl, rfl⟩ | ⟨rfl, rfl⟩ | ⟨rfl, rfl⟩
    ·obtain ⟨v, e1, -, e2⟩ := hs.t 0 (.sn 0 (.ref 0 [] 0 qi)) (by kernel_rfl)
     exact ⟨v, e1, e2⟩
    ·obtain ⟨v, e1, -, e2⟩ := hs.t 1 (.sn 1 (.bx 1 41 (.ref 0 [] 0 qi))) (by kernel_rfl)
     exact ⟨v, e1, e2⟩
    ·obtain ⟨v, e1, -, e2⟩ := hs.t 2 (.sn 2 (.ref 2 [] 0 zo)) (by kernel_rfl)
     exact ⟨v, e1, e2⟩
    ·obtain ⟨v, e1, -, e2⟩ := hs.t 3 (.sn 3 (.ref 3 [] 0 y8)) (by kernel_rfl)
     obtain ⟨v', f1, f2, -⟩ := hf.t 3 (.sn (VB + 3) (.ref 3 [] 0 y8)) (by kernel_rfl)
     have f3 := (sn9 3 v' (by decide) f1).1
     have e1' : a9.tmps[3]? = some v := e1
     rw [f3] at e1'
     injection e1' with e1'
     subst e1'
     exact ⟨v', f3, f2, e2⟩
   ·have he := qx he
    simp only [wkE, gnM] at he
    rcases he with ⟨rfl, rfl⟩ | ⟨rfl, rfl⟩ | ⟨rfl, rfl⟩
    ·exact hs.m 0 ⟨.tok 7, qi, qv 0 qi, []⟩ (by kernel_rfl)
    ·exact hs.m 2 ⟨.tok 8, zo, [(0, 33)], []⟩ (by kernel_rfl)
    ·exact hs.m 3 ⟨.tok 9, y8, [], []⟩ (by kernel_rfl)
end
end
section
open Go.RowKit Go.Shelf
abbrev q9c : Ty := .row 66
noncomputable def owC : Code := match Tryz.f33.body with
 | some c => c
 | none => .skip
noncomputable def ow1 : List Code := [sqL owC, sqL (sqR owC), sqL (sqL (sqR (sqR owC)))]
noncomputable def owL : Code := bkC (sqR (sqL (sqR (sqR owC))))
noncomputable def owZ : Code := sqR (sqR (sqR owC))
noncomputable def zft : Code := match owL with
 | .rangeFunc _ _ a _ => a
 | _ => .skip
noncomputable def zdr : Code := match owL with
 | .rangeFunc _ _ _ b => b
 | _ => .skip
def z23 : Ann := ⟨[2, 3, 4, 5, 6, 9, 18, 19, 20, 27], []⟩
noncomputable def zfx : List ResultVar := Tryz.f33.results.toList
def sR : St := ⟨[(4, .ref 4 [] 0 q9c), (18, .ff 94 27 (.tok 0) qi 29 (.get (.fld (.tok 0) 0) (.add (.fld (.tok 1) 1) (.lit (.i 2)))) qn [])], []⟩
abbrev iR : List Item := [(4, q9c, [(0, 65)], [])]
def sO1 : St := ⟨[(4, .sn 4 (.ref 4 [] 0 q9c)), (19, .v (.tok 1) .str [] []), (20, .v (.tok 2) qn [] [])], [(4, ⟨.tok 0, q9c, [(0, 65)], []⟩)]⟩
def sO2 : St := ⟨[(4, .sn 4 (.ref 4 [] 0 q9c)), (5, .v (.tok 1) .str [] []), (6, .ref 6 [] 0 qn)], [(4, ⟨.tok 0, q9c, [(0, 65)], []⟩), (6, ⟨.tok 2, qn, [], []⟩)]⟩
def sO3 : St := ⟨[(4, .sn 4 (.ref 4 [] 0 q9c))], []⟩
def sO4 : St := ⟨[(4, .sn 4 (.ref 4 [] 0 q9c))], [(4, ⟨.tok 0, q9c, [(0, 65)], []⟩)]⟩
def sO5 : St := ⟨[(4, .ref 4 [] 0 q9c)], [(4, ⟨.tok 0, q9c, [(0, 65)], []⟩)]⟩
def zl3 : Tree := (.br (.not (.eq (.fld (.tok 1) 0) (.lit (.i 5)))) (.need [(.not (.eq (.fld (.tok 1) 0) (.lit (.i 5))))] (.leaf [(.lit (.r []))])) (.need [(.le (.lit (.i 0)) (.add (.fld (.tok 1) 1) (.lit (.i 2)))), (.lt (.add (.fld (.tok 1) 1) (.lit (.i 2))) (.len (.fld (.tok 0) 0))), (.rng .i64 (.add (.fld (.tok 1) 1) (.lit (.i 2))))] (.need [(.eq (.fld (.tok 1) 0) (.lit (.i 5)))] (.leaf [(.lit (.r []))]))))
theorem zdu : q4q Tryz.prog [] z23 2 28 ow1 2 (qql zi) (fun n r σ => match r with | .normal => .need [.eq (.fld (.tok 1) 0) (.lit (.i 5))] (qn8 [] iR [] sR n .normal σ) | r => .need [.not (.eq (.fld (.tok 1) 0) (.lit (.i 5)))] (qap zi zfx n r σ)) = zl3 := by kernel_rfl
def zo1 : Tree := (.leaf [])
theorem zdy : q4q Tryz.prog [] z23 2 28 [zft] 3 sO1 (toN [] [] [] sO2) = zo1 := by kernel_rfl
def zl6 : Tree := (.need [(.le (.add (.len (.tok 0)) (.lit (.i 1))) (.lit (.i 4398046510976)))] (.leaf [(.app (.tok 0) (.row [(.mk [(.tok 1), (.tok 2)])]))]))
theorem zd7 : q4q Tryz.prog [] z23 2 28 [zdr] 3 sO2 (toN [] iR [] sO3) = zl6 := by kernel_rfl
def zoe : Tree := (.leaf [(.tok 0)])
theorem zg0 : toT Tryz.prog [] z23 2 28 owZ [] 1 sO5 (qap zi zfx) = zoe := by kernel_rfl
end
variable {v : Value} {d : D} {A : Nat → Prop} {pin : Nat} {dep : List Nat}
section
open Go.RowKit Go.Shelf
theorem z8g : Tryz.f33.body = some owC := by kernel_rfl
theorem zko : owC = seqs [sqL owC, sqL (sqR owC)] (.seq (.seq (sqL (sqL (sqR (sqR owC)))) (.block 0 owL)) owZ) := by kernel_rfl
theorem zkh : owL = .rangeFunc (.tmp 18) #[19, 20] zft zdr := by kernel_rfl
theorem zd3 : Tryz.f33.ntmps = 28 := by kernel_rfl
def sOR : St := q2a [] iR 2 (q1p [] iR [] 2 sR)
theorem znx : lkA sOR.t 4 = some (.ref 4 [] 0 q9c) := by kernel_rfl
theorem zln : lkA sOR.t 18 = some (.ff 94 27 (.tok 0) qi 29 (.get (.fld (.tok 0) 0) (.add (.fld (.tok 1) 1) (.lit (.i 2)))) qn []) := by kernel_rfl
theorem zoj : lkA sOR.m 4 = some ⟨.tok 2, q9c, [(0, 65)], []⟩ := by kernel_rfl
def sOB : St := q2a [] iR 3 (q1p [] iR [] 3 sO3)
theorem zny : lkA sOB.t 4 = some (.sn 4 (.ref 4 [] 0 q9c)) := by kernel_rfl
theorem zob : lkA sOB.m 4 = some ⟨.tok 3, q9c, [(0, 65)], []⟩ := by kernel_rfl
theorem zlq : q2a [] [] 3 (q1p [] [] [] 3 sO2) = sO2 := by kernel_rfl
theorem z8x {c : Cx} {S : Nat → List D → Option (List D)} (h4 : a.tmps[4]? = some v) (hsn : c.snap 4 = v) (hv : ∃ g, p 64 = some g ∧ v = .pointer (some ⟨g, 0, none⟩) ∧ c.At 4 g) (hm : q0p (c.at S [d]) p W 4 ⟨.tok 0, q9c, [(0, 65)], []⟩) : SF (c.at S [d]) sO4 p W a := by
 refine ⟨fun t x hx => ?_, fun k e he => ?_⟩
 ·have hx := qx hx
  simp only [sO4, gnM] at hx
  obtain ⟨rfl, rfl⟩ := hx
  exact ⟨v, h4, hsn.symm, hv⟩
 ·have he := qx he
  simp only [sO4, gnM] at he
  obtain ⟨rfl, rfl⟩ := he
  exact hm
def z21 : List D → Option (List D)
 | [s, c] => if (dC c).t = 5 then (if inS (dS s) ((dC c).n + 2) ∧ (dS s).cs.length ≤ 4000000000000 then some [.r ((yf (dS s) (cellAt (dS s) ((dC c).n + 2))).map eA)] else none) else some [.r []]
 | _ => none
theorem qb0 (s : So) : ∀ (k : Nat) (c : Ce) (met : List ByteArray), (q7b s k c met).length ≤ k
 | 0, _, _ => Nat.le_refl _
 | k + 1, c, met => by
  unfold q7b
  split
  ·simp
  ·rename_i nm tl vl _
   have := qb0 s k tl (nm :: met)
   split <;> simp <;> omega
theorem zgh {w w' : World} (h : Con A p w (.r []) q9c [(0, pin)] dep cs) (hk : ∀ g, p pin = some g → w'.heap[g]? = w.heap[g]?) : Con A' p w' (.r []) q9c [(0, pin)] dep cs := by
 rcases h with ⟨E, te, l, v, e1, hte, e2, e3, hv⟩ | ⟨K, V, kt, vt, l, g, es, clock, e1, hK, hV, e2, -⟩
 ·injection e2 with e2
  subst e2
  refine .inl ⟨E, te, [], v, e1, hte, rfl, e3, ?_⟩
  rcases hv with ⟨rfl, -⟩ | ⟨g, cap, cur, rfl, hg, hh, h1, h2, h3, h4, h5⟩
  ·exact .inl ⟨rfl, rfl⟩
  ·exact .inr ⟨g, cap, cur, rfl, hg, (hk g hg).trans hh, h1, h2, h3, h4, fun i hi => absurd hi (Nat.not_lt_zero _)⟩
 ·cases e2
section
variable {c c' : Cx} {p p2 : qm} {w w' W1 : World} {a a' : Act} {m g : Nat} {s : So} {x0 : Ce} {cs1 : List Value} {v4 : Value}
def qlj (c : Cx) (w' : World) (g m : Nat) (b : Nat) : Prop := c.A b ∧ b ≠ g ∧ ¬ q31 w' (g + 1) m b
def zgg (p2 : qm) (w' : World) (g m : Nat) (b : Nat) : Prop := pinned p2 b ∨ q31 w' (g + 1) m b
def OwI (c : Cx) (p2 : qm) (w' W1 : World) (g m : Nat) (s : So) (x0 : Ce) (a' : Act) (c' : Cx) (k N : Nat) (W : World) : Prop := w'.heap.size + 2 ≤ N ∧ N ≤ W.heap.size ∧ ∃ p3, Bs (qlj c w' g m) c.F W1 (zgg p2 w' g m) p3 W ∧ SF (c'.at (qb []) [.r (((yf s x0).take k).map eA)]) sO4 p3 W a' ∧ ∀ y b, p3 y = some b → b < N
def OwM (c : Cx) (p2 : qm) (w' W1 : World) (g m : Nat) (s : So) (x0 : Ce) (c' : Cx) (k N B : Nat) (a1 : Act) (W : World) : Prop := ∃ y p4, (yf s x0)[k]? = some y ∧ Bs (qlj c w' g m) c.F W1 (zgg p2 w' g m) p4 W ∧ SF (c'.at (qb []) [.r (((yf s x0).take k).map eA), .s y.name, eC y.val]) sO2 p4 W a1 ∧ a1.defers = [] ∧ a1.tmps.size = 28 ∧ w'.heap.size + 2 ≤ N ∧ N ≤ B ∧ B ≤ W.heap.size ∧ ∀ q b, p4 q = some b → b < N ∨ B ≤ b
theorem zb9 {F : Flr} (hfz : ∀ te, F.mx te = 0) {W' : World} {p3 : qm} (hS : ∀ b, q31 w' (g + 1) m b → S1 b) (hA : ∀ b, A' b → ¬ q31 w' (g + 1) m b) (h : Bs A' F W1 S1 p3 W) (hb : But (q31 w' (g + 1) m) W W') : Bs A' F W1 S1 p3 W' ∧ Stab A' no no p3 W p3 W' :=
 ⟨⟨h.inj, fun x b hx => Nat.lt_of_lt_of_le (h.bd x b hx) hb.size, h.but.trans hb fun i hi _ => .inl (hS i hi), h.pin, h.new, h.pa, fun x b hx => (h.obj x b hx).same (hb.block b (h.bd x b hx) (hA b (h.pa x b hx))), Flo.of0 hfz h.flo⟩,
  hb.size, fun b hlt ha hf => ⟨hb.block b hlt (hA b ha), hf⟩, fun x b _ hx => hx, fun x b _ hx => hb.block b (h.bd x b hx) (hA b (h.pa x b hx))⟩
theorem zir (hln : s.cs.length ≤ 4000000000000) (hlo : c.lo = 2) (hfz : ∀ te, c.F.mx te = 0) (hz : a'.tmps.size = 28) (so : s.ok) (hc' : c' = { c with A := qlj c w' g m, snap := fun t => a'.tmps.getD t Go.undef }) (h4 : a'.tmps[4]? = some v4)
  (hg : ∃ T, w'.heap[g]? = some (.cells cs1.toArray T (0, 0))) (hfg : q5j p2 g) (hbut : But Nil w' W1) (hm1 : w'.heap.size + 2 ≤ m) (hm2 : m < W1.heap.size) (r1 : Rd w' (fun b => FFD c.A p2 [] b ∧ b < g) (eS s) qi cs1) :
  ItOk w' a' 3 g (g + 1) m 19 20 zft zdr cs1 s x0 (OwI c p2 w' W1 g m s x0 a' c') (OwM c p2 w' W1 g m s x0 c') fun _ => False := by
 obtain ⟨T, hg⟩ := hg
 have hgl := qu hg
 have hAh : ∀ b, qlj c w' g m b → ¬ q31 w' (g + 1) m b := fun b h => h.2.2
 have hSh : ∀ b, q31 w' (g + 1) m b → zgg p2 w' g m b := fun b h => .inr h
 have hfm : ∀ te, c'.F.mx te ≤ flM [] te := fun te => by rw [hc']; show c.F.mx te ≤ _; rw [hfz]; exact Nat.zero_le _
 have hcA : c'.A = qlj c w' g m := by rw [hc']
 have hcF : c'.F = c.F := by rw [hc']
 have hcl : c'.lo = 2 := by rw [hc']; exact hlo
 have hsn : c'.snap 4 = v4 := by
  rw [hc']
  show a'.tmps.getD 4 Go.undef = v4
  simp [Array.getD_eq_getD_getElem?, h4]
 have hcT : c'.At = c.At := by rw [hc']
 refine ⟨?_, ?_, ?_, ?_, ?_, fun _ _ h => h.elim⟩
 ·rintro k N W ⟨h1, h2, p3, hb3, hf3, hp3⟩
  have hk : ∀ b o, w'.heap[b]? = some o → q5j p2 b → ¬ q31 w' (g + 1) m b → W.heap[b]? = some o := fun b o ho hf hh => by
   have hlt : b < w'.heap.size := (Array.getElem?_eq_some_iff.1 ho).1
   refine (hb3.but.block b (Nat.lt_of_lt_of_le hlt hbut.size) ?_).trans ((hbut.block b hlt (fun h => h)).trans ho)
   rintro (⟨x, hx⟩ | h)
   ·exact hf x hx
   ·exact hh h
  have hng : ¬ q31 w' (g + 1) m g := by unfold q31; omega
  refine ⟨h1, h2, ⟨T, hk g _ hg hfg hng⟩, Rd.keeps (fun b o hb ho => ?_) _ r1⟩
  obtain ⟨hb1, hb2⟩ := hb
  rcases hb1 with ⟨-, hf⟩ | ⟨y, hy, -⟩
  ·refine ⟨hk b o ho hf (by unfold q31; omega), by omega, by omega⟩
  ·cases hy
 ·rintro k N W W' ⟨h1, h2, p3, hb3, hf3, hp3⟩ hb
  obtain ⟨q1, q2⟩ := zb9 hfz hSh hAh hb3 hb
  exact ⟨h1, Nat.le_trans h2 hb.size, p3, q1, SF.same (by show Stab c'.A no no p3 W p3 W'; rw [hcA]; exact q2) hf3, hp3⟩
 ·rintro k N W y hy hyo ⟨h1, h2, p3, hb3, hf3, hp3⟩
  obtain ⟨v, t4, hv⟩ := hf3.t 4 _ (by kernel_rfl : lkA sO4.t 4 = some (.sn 4 (.ref 4 [] 0 q9c)))
  have hm := hf3.m 4 _ (by kernel_rfl : lkA sO4.m 4 = some ⟨.tok 0, q9c, [(0, 65)], []⟩)
  rw [h4] at t4
  injection t4 with t4
  subst t4
  have hsf : SF (c'.at (qb []) [.r (((yf s x0).take k).map eA), .s y.name, eC y.val]) sO1 p3 W { tmps := (a'.tmps.setIfInBounds 19 (.string y.name)).setIfInBounds 20 (.agg (ceL y.val).toArray), defers := [] } := by
   refine ⟨fun t x hx => ?_, fun j e he => ?_⟩
   ·have hx := qx hx
    simp only [sO1, gnM] at hx
    rcases hx with ⟨rfl, rfl⟩ | ⟨rfl, rfl⟩ | ⟨rfl, rfl⟩
    ·exact ⟨v4, by rw [Array.getElem?_setIfInBounds_ne (by decide), Array.getElem?_setIfInBounds_ne (by decide)]; exact h4, hv⟩
    ·refine ⟨.string y.name, by rw [Array.getElem?_setIfInBounds_ne (by decide), Array.getElem?_setIfInBounds_self_of_lt (by omega)], _, rfl, Con.of_rd (show Rd W _ (.s y.name) .str _ from ⟨rfl, rfl, hyo.1⟩)⟩
    ·refine ⟨.agg (ceL y.val).toArray, by rw [Array.getElem?_setIfInBounds_self_of_lt (by simp; omega)], ceL y.val, rfl, Con.of_rd (show Rd W _ (eC y.val) qn _ from qvt hyo.2)⟩
   ·have he := qx he
    simp only [sO1, gnM] at he
    obtain ⟨rfl, rfl⟩ := he
    exact hm
  have pre := q9i (c := c') (z := 28) (some (w'.heap.size + 1)) 3 .nil hfm rfl [zft] (n := 3) (ann := z23) (R := fun o => o = []) (B := fun _ _ => False) (ts := []) (ms := []) (kill := []) (σk := sO2) (l := [.r (((yf s x0).take k).map eA), .s y.name, eC y.val]) (σ := sO1) (d := []) (w0 := W) (S0 := pinned p3) (p := p3) (Q := fun _ _ _ => False)
   (K := fun a1 W2 => OwM c p2 w' W1 g m s x0 c' k N W.heap.size a1 W2 ∧ KpN w' (g + 1) m N W.heap.size W W2)
   (by rw [hcl, zdy]; rfl) rfl (by rw [hcA, hcF]; exact hb3.anew) hsf rfl (by simp; exact hz) (fun st p4 W2 a2 hR hst hb4 hf4 hd4 hz4 => ?_)
  ·exact pre
  ·have hR : st = [] := hR
   subst hR
   rw [zlq] at hf4
   rw [hcA, hcF] at hb4
   refine ⟨⟨y, p4, hy, hb3.comp hb4, hf4, hd4, hz4, h1, h2, hb4.but.size, fun q b hq => ?_⟩, hb4.but.size, fun b hlt hb => hb4.but.block b hlt ?_⟩
   ·rcases hb4.pin q b hq with ⟨q', hq'⟩ | h
    ·exact .inl (hp3 q' b hq')
    ·exact .inr h
   ·rintro ⟨q, hq⟩
    rcases hb with hb | hb
    ·have := hp3 q b hq
     omega
    ·exact hAh b (hb3.pa q b hq) hb
 ·rintro k N B a1 W W' ⟨y, p4, hy, hb4, hf4, hd4, hz4, h1, h2, h3, hp4⟩ hb
  obtain ⟨q1, q2⟩ := zb9 hfz hSh hAh hb4 hb
  exact ⟨y, p4, hy, q1, SF.same (by show Stab c'.A no no p4 W p4 W'; rw [hcA]; exact q2) hf4, hd4, hz4, h1, h2, Nat.le_trans h3 hb.size, hp4⟩
 ·rintro k N B a1 W hkl ⟨y, p4, hy, hb4, hf4, hd4, hz4, h1, h2, h3, hp4⟩
  have hlen : ((yf s x0).take k).length ≤ 4000000000000 := by
   have h1 := qb0 s s.cs.length x0 []
   simp only [List.length_take]
   unfold yf at *
   omega
  have pre := q9i (c := c') (z := 28) (some (w'.heap.size + 1)) 3 .nil hfm rfl [zdr] (n := 3) (ann := z23) (R := fun o => o = [.r (((yf s x0).take k).map eA ++ [eA y])]) (B := fun _ _ => False) (ts := []) (ms := iR) (kill := []) (σk := sO3) (l := [.r (((yf s x0).take k).map eA), .s y.name, eC y.val]) (σ := sO2) (d := []) (w0 := W) (S0 := pinned p4) (p := p4) (Q := fun _ _ _ => False)
   (K := fun a2 W2 => KpN w' (g + 1) m N B W W2 ∧ OwI c p2 w' W1 g m s x0 a' c' (k + 1) W2.heap.size W2)
   (by
    rw [hcl, zd7]
    unfold zl6
    rw [qa]
    refine ⟨⟨?_, trivial⟩, ?_⟩
    ·show (D.b (decide (((((yf s x0).take k).map eA).length : Int) + 1 ≤ 4398046510976))).tt = true
     rw [List.length_map, q5i, decide_eq_true_eq]
     omega
    ·rfl) rfl (by rw [hcA, hcF]; exact hb4.anew) hf4 hd4 hz4 (fun st p5 W2 a2 hR hst hb5 hf5 hd5 hz5 => ?_)
  ·refine wpIn_mono pre fun e a2 W2 hq => ?_
   cases e with
   | normal => exact ⟨hq.1, .inl ⟨rfl, hq.2⟩⟩
   | _ => exact hq.elim
  ·have hR : st = [.r (((yf s x0).take k).map eA ++ [eA y])] := hR
   subst hR
   rw [hcA, hcF] at hb5
   have hf5 : SF (c'.at (qb []) [.r (((yf s x0).take k).map eA), .s y.name, eC y.val, .r (((yf s x0).take k).map eA ++ [eA y])]) sOB p5 W2 a2 := hf5
   obtain ⟨v, t4, ev, g4, hg4, eg, hat⟩ := hf5.t 4 _ zny
   have hm := hf5.m 4 _ zob
   refine ⟨⟨hb5.but.size, fun b hlt hb => hb5.but.block b (by omega) ?_⟩, by have := hb5.but.size; omega, Nat.le_refl _, p5, hb4.comp hb5, ?_, fun q b hq => hb5.bd q b hq⟩
   ·rintro ⟨q, hq⟩
    rcases hb with hb | hb
    ·have := hp4 q b hq
     omega
    ·exact hAh b (hb4.pa q b hq) hb
   ·have e : ((yf s x0).take (k + 1)).map eA = ((yf s x0).take k).map eA ++ [eA y] := by
     rw [List.take_add_one, hy]
     simp
    rw [e]
    have ev : v = v4 := ev.trans hsn
    exact z8x h4 hsn ⟨g4, hg4, ev.symm.trans eg, hat⟩ hm
end
set_option maxHeartbeats 1000000 in
theorem q6p : FOk zi z21 := by
 refine z79 (qb []) Tryz.f33 owC Tryz.func33 z8g qsh (by rw [zd3]; decide) fun ds outs hwf hg c p w a Q hlo hfz hfr hdl hb hf hd hz hfin => ?_
 obtain ⟨d, r, rfl, hs, e, r', rfl, hc, rfl⟩ := hwf
 obtain ⟨s, rfl, so⟩ := wfS hs
 obtain ⟨x, rfl, co⟩ := wfC hc
 simp only [z21, zk, yw] at hg
 have hlo : c.lo = 2 := hlo
 have hz : a.tmps.size = 28 := hz.trans zd3
 have hfm : ∀ te, c.F.mx te ≤ flM [] te := fun te => by rw [hfz]; exact Nat.zero_le _
 have hcl : Code.wpIn (FR none) 5 Tryz.prog (seqs [sqL owC, sqL (sqR owC)] (.seq (.seq (sqL (sqL (sqR (sqR owC)))) (.block 0 owL)) owZ)) Q a w := by
  refine q1j _ ?_
  have pre : q9r (FR none) 5 Tryz.prog Q ow1 ((Code.block 0 owL).wpIn (FR none) 5 Tryz.prog (Exit.then (owZ.wpIn (FR none) 5 Tryz.prog Q) Q)) a w := by
   refine q90 (c := c) (z := 28) none 5 .nil hfm rfl ow1 (n := 2) (ann := z23) (R := fun o => o = [.r []]) (B := fun _ _ => False) (d := []) (l := [eS s, eC x]) (σ := qql zi) (by
    rw [hlo, zdu]
    unfold zl3
    simp only [qj, qa, qd, qg, X.says, X.ev, X.evs, evl, List.getD_cons_zero, List.getD_cons_succ, qnd, qtt, qer, q6i, yv, q5i, List.length_map, qp9, decide_eq_true_eq, decide_eq_false_iff_not, Bool.not_eq_true', Bool.not_eq_false', q52]
    refine ⟨fun h => ⟨⟨h, trivial⟩, trivial⟩, fun h => ?_⟩
    rw [if_pos h] at hg
    split at hg
    ·rename_i hin
     obtain ⟨h1, h2⟩ := z5.1 hin.1
     have h3 := qx6 so
     unfold i64 at *
     refine ⟨⟨by omega, by omega, by omega, trivial⟩, ⟨h, trivial⟩, trivial⟩
    ·cases hg) rfl hb hf hd hz fun n' r σ' l' B' p' w' a' hl' hpre hgo hb' hf' hd' hz' => ?_
   have tk1 : l'.getD 1 .u = eC x := by
    have : (l'.take 2).getD 1 .u = eC x := by rw [hpre]; rfl
    rw [List.getD_eq_getElem?_getD, List.getElem?_take_of_lt (by omega), ← List.getD_eq_getElem?_getD] at this
    exact this
   have ret : ∀ r' : ResD, (Tree.need [.not (.eq (.fld (.tok 1) 0) (.lit (.i 5)))] (qap zi zfx n' r' σ')).go (qb []) (fun o => o = [.r []]) l' B' → Q r'.exit' a' w' := fun r' hgo => by
    obtain ⟨⟨hN, -⟩, hgo⟩ := hgo
    have hN : (D.b (!(D.b (decide ((l'.getD 1 .u).fld 0 = .i 5))).tt)).tt = true := hN
    rw [tk1, qnd] at hN
    have hx : x.t ≠ 5 := by simpa [q5i] using hN
    rw [if_neg hx] at hg
    exact hfin n' r' σ' l' B' p' w' a' c hl' (z7m hgo fun o ho => ho.trans (Option.some.inj hg)) rfl rfl rfl (fun b h => h) hb' hb'.anew hf' ⟨[], by rw [hd']; rfl, by simp, fun D hD => by cases hD⟩ (hz'.trans zd3.symm)
   cases r with
   | ret => exact ret .ret hgo
   | exit i => exact ret (.exit i) hgo
   | normal =>
    obtain ⟨⟨hN, -⟩, hgo⟩ := hgo
    have hN : (D.b (decide ((l'.getD 1 .u).fld 0 = .i 5))).tt = true := hN
    rw [tk1, qnd] at hN
    have hx : x.t = 5 := by simpa [q5i] using hN
    rw [if_pos hx] at hg
    split at hg
    ·rename_i hin
     have hg := (Option.some.inj hg).symm
     obtain ⟨st, p2, hR, -, hb2, hf2⟩ := qhw (c := c) hgo hpre rfl hb' hf'
     have hR : st = [.r []] := hR
     subst hR
     have hf2 : SF (c.at (qb []) [eS s, eC x, .r []]) sOR p2 w' a' := hf2
     obtain ⟨v4, t4, g4, hg4, e4, hat4⟩ := hf2.t 4 _ znx
     obtain ⟨v18, t18, gg, cs1, cs2, e18, ⟨ha1, hf1⟩, ⟨ha2, hf2'⟩, ⟨hfr1, hfr2⟩, hh1, hh2, r1, r2⟩ := hf2.t 18 _ zln
     obtain ⟨gm, csm, Tm, hgm, hhm, htm, hcm⟩ := hf2.m 4 _ zoj
     have ex0 : (X.get (.fld (.tok 0) 0) (.add (.fld (.tok 1) 1) (.lit (.i 2)))).ev (c.at (qb []) [eS s, eC x, .r []]).v = eC (cellAt s (x.n + 2)) := by
      show ((eS s).fld 0).get (((eC x).fld 1).int + 2) = _
      rw [qer, qtt, yv]
      exact ze hin.1
     rw [ex0] at r2
     have hs2 := r2
     obtain rfl := quu r2
     have hfr1 := hfr gg hfr1
     have hfr2 := hfr (gg + 1) hfr2
     show (Code.block 0 owL).wpIn (FR none) 5 Tryz.prog (Exit.then (owZ.wpIn (FR none) 5 Tryz.prog Q) Q) a' w'
     refine wpIn_block ?_
     rw [zkh]
     refine z9b (nn := 5) (bs := gg) (bc := gg + 1) (css := cs1) (s := s) (c0 := cellAt s (x.n + 2)) (by omega) ((q9l t18).trans e18) (by omega) ⟨_, hh1⟩ (Rd.mono (fun b _ h => by have := h.2; omega) r1) so ⟨_, by kernel_rfl, hh2⟩ (z4t hs2) fun m W1 hbut hm1 hm2 => ?_
     have hw1 := hb'.but.size
     have hw2 := hbut.size
     obtain ⟨c', hc'⟩ : ∃ c' : Cx, c' = { c with A := qlj c w' gg m, snap := fun t => a'.tmps.getD t Go.undef } := ⟨_, rfl⟩
     have hcA : c'.A = qlj c w' gg m := by rw [hc']
     have hcF : c'.F = c.F := by rw [hc']
     have hc2 : c'.lo = c.lo := by rw [hc']
     have hcT : c'.At = c.At := by rw [hc']
     have hgl := qu hh1
     have hgl2 := qu hh2
     have hSp : ∀ b, zgg p2 w' gg m b → pinned p b ∨ w.heap.size ≤ b := by
      rintro b (⟨q, hq⟩ | h | h | h | h)
      ·exact hb2.pin q b hq
      ·exact .inr (by omega)
      ·exact .inr (by omega)
      ·exact .inr (by omega)
      ·exact .inr (by omega)
     refine ⟨_, _, _, zir (c := c) (c' := c') (p2 := p2) (W1 := W1) hin.2 hlo hfz hz' so hc' t4 ⟨_, hh1⟩ hf1 hbut hm1 hm2 r1, ?_, ?_, fun W h => h.elim⟩
     ·refine ⟨by omega, Nat.le_refl _, p2, ⟨hb2.inj, fun q b hq => Nat.lt_of_lt_of_le (hb2.bd q b hq) hw2, But.refl _ _, fun q b hq => .inl (.inl ⟨q, hq⟩), fun b hb => ⟨⟨(hb2.new b (by omega)).1, by omega, by unfold q31; omega⟩, (hb2.new b (by omega)).2⟩, fun q b hq => ⟨hb2.pa q b hq, fun e => hf1 q (e ▸ hq), ?_⟩, fun q b hq => (hb2.obj q b hq).same (hbut.block b (hb2.bd q b hq) fun h => h), Flo.of0 hfz hb2.flo⟩, ?_, fun q b hq => Nat.lt_of_lt_of_le (hb2.bd q b hq) hw2⟩
      ·have := hb2.bd q b hq
       rintro (h | h | h | h)
       ·exact hf2' q (h ▸ hq)
       ·omega
       ·omega
       ·omega
      ·have hsn : c'.snap 4 = v4 := by
        rw [hc']
        show a'.tmps.getD 4 Go.undef = v4
        simp [Array.getD_eq_getD_getElem?, t4]
       have hc0 : Con c'.A p2 W1 (.r []) q9c [(0, 65)] [] csm.toList := zgh hcm fun g hg => hbut.block g (hb2.bd _ _ hg) fun h => h
       exact z8x t4 hsn ⟨g4, hg4, e4, by rw [hcT]; exact hat4⟩ ⟨gm, csm, Tm, hgm, (hbut.block gm (qu hhm) fun h => h).trans hhm, htm, hc0⟩
     ·rintro N W ⟨h1, h2, p3, hb3, hf3, hp3⟩ hD
      show owZ.wpIn (FR none) 5 Tryz.prog Q _ W
      have hnD : ¬ qlj c w' gg m w'.heap.size := fun h => h.2.2 (.inr (.inr (.inl rfl)))
      rw [List.take_of_length_le (Nat.le_refl _)] at hf3
      have hf3' : SF (c'.at (qb []) [.r ((yf s (cellAt s (x.n + 2))).map eA)]) sO5 p3 W { a' with defers := { target := .collected w'.heap.size, args := #[] } :: a'.defers } := by
       refine ⟨fun t y hy => ?_, fun k e he => hf3.m k e he⟩
       have hy := qx hy
       simp only [sO5, gnM] at hy
       obtain ⟨rfl, rfl⟩ := hy
       obtain ⟨v, q1, -, q2⟩ := hf3.t 4 _ (by kernel_rfl : lkA sO4.t 4 = some (.sn 4 (.ref 4 [] 0 q9c)))
       exact ⟨v, q1, q2⟩
      refine qkt none 5 (c := c') (z := 28) (w0 := W) (S0 := pinned p3) (d := { target := .collected w'.heap.size, args := #[] } :: a'.defers) .nil (fun te => by rw [hcF, hfz]; exact Nat.zero_le _) owZ (ids := []) (n := 1) (ann := z23) (k := qap zi zfx) (R := fun o => o = outs) (B := fun _ _ => False) (l := [.r ((yf s (cellAt s (x.n + 2))).map eA)]) (σ := sO5) (p := p3) (by
       rw [hc2, hlo, zg0, hg]
       rfl) rfl (by rw [hcA, hcF]; exact hb3.anew) hf3' rfl hz' (q49 rfl) (qgu rfl) fun n5 r5 σ5 l5 B5 p5 W5 a5 hl5 hpre5 _ hgo5 hb5 hf5 hd5 hz5 => ?_
      rw [hcA, hcF] at hb5
      have hb6 := hb3.comp hb5
      refine hfin n5 r5 σ5 l5 B5 p5 W5 a5 c' hl5 hgo5 hc2 hcF hcT (fun b h => by rw [hcA] at h; exact h.1) ⟨hb6.inj, hb6.bd, (hb'.but.trans_nil hbut).trans hb6.but fun b hb _ => hSp b hb, fun q b hq => ?_, hb.new, fun q b hq => (hb6.pa q b hq).1, hb6.obj, Flo.of0 hfz hb.flo⟩ (by rw [hcA, hcF]; exact hb5.anew) hf5 ⟨[w'.heap.size], by rw [hd5, hd']; rfl, by simp, fun D hD' => ?_⟩ (hz5.trans zd3.symm)
      ·rcases hb6.pin q b hq with h | h
       ·exact hSp b h
       ·exact .inr (by omega)
      ·obtain rfl : D = w'.heap.size := by simpa using hD'
       exact ⟨by omega, (hb5.stays (Array.getElem?_eq_some_iff.1 hD).1 fun q hq => hnD (hb3.pa q _ hq)).1.trans hD, by rw [hcA]; exact hnD⟩
    ·cases hg
  refine q5v (Q := Q) (Q' := Q) (fun e a w _ h => h) [sqL owC, sqL (sqR owC)] (fun a w h => ?_) (qah [sqL owC, sqL (sqR owC)] [sqL (sqL (sqR (sqR owC)))] pre)
  refine wpIn_seq (wpIn_seq (wpIn_mono h fun e a w hq => ?_))
  cases e with
  | normal => exact hq
  | _ => exact hq
 have e := zko
 rw [← e] at hcl
 exact hcl
end
variable {c : Ce}
section
open Go.RowKit Go.Shelf
theorem qdu : q02 q56 := .cons qdk (.cons zkt (.cons qwe .nil))
noncomputable def znm : Nat := match sqL (sqR (sqR wkC)) with
 | .region i _ _ => i
 | _ => 0
theorem zid : wkC = seqs zka (.seq (.region znm zhm.toArray false) q5w) := by kernel_rfl
noncomputable def z0a : Nat := match sqR (sqL z3f) with
 | .block i _ => i
 | _ => 0
theorem z7u : q5w = seqs [sqL q5w, sqL (sqR q5w)] (.seq (.seq (sqL (sqL z3f)) (.block z0a (.loop qeh))) wkZ) := by kernel_rfl
noncomputable def zjy : Nat := match sqL (sqR (sqR qeh)) with
 | .block i _ => i
 | _ => 0
noncomputable def zik : Nat := match sqR (sqR zcw) with
 | .block i _ => i
 | _ => 0
theorem zkg : z0a = 0 := by kernel_rfl
theorem qic : qeh = seqs wkH (.seq (.block zjy (seqs wkR (.seq wkY (.block zik wkF)))) (sqR (sqR (sqR qeh)))) := by kernel_rfl
theorem zb5 : Tryz.f23.body = some wkC := by kernel_rfl
theorem zd5 : Tryz.f23.ntmps = 69 := by kernel_rfl
theorem z7e {wv : Ce} {sk : So} (h : qba wv sk (yf sk c) = true) : (yf sk c).length ≤ 1048576 := by
 cases hl : yf sk c with
 | nil => simp
 | cons x l =>
  rw [hl] at h
  unfold qba at h
  simp only [Bool.and_eq_true] at h
  obtain ⟨h1, h2, h3, h4⟩ := zc5 h.1
  have := qb0 sk sk.cs.length c []
  rw [← hl]
  unfold yf at *
  omega
theorem Dfs.keep {lb : Nat} {d : List Deferred} {w w' : World} {ds : List Deferred} {S0 : Nat → Prop} {p : qm} (h : Dfs A lb d w ds) (hk : ∀ b, b < w.heap.size → ¬ A b → w'.heap[b]? = w.heap[b]?) : Dfs A lb d w' ds := by
 obtain ⟨Ds, e, hn, hD⟩ := h
 exact ⟨Ds, e, hn, fun D hd => ⟨(hD D hd).1, (hk D (qu (hD D hd).2.1) (hD D hd).2.2).trans (hD D hd).2.1, (hD D hd).2.2⟩⟩
theorem z0s (s : So) (o : List Ce) (w : Wk) (l : List Wk) : q3w s o (w :: l) = if (jj w.val s o (yf s w.att)).2.2 = 0 then q3w (jj w.val s o (yf s w.att)).1 (jj w.val s o (yf s w.att)).2.1 l else jj w.val s o (yf s w.att) := rfl
theorem zef {s r : So} (hc : s.cs.length ≤ r.cs.length) (hy : s.ys.length ≤ r.ys.length) (ht : s.tr.length ≤ r.tr.length) {e : Int} (he : ¬ e = 0) : q4y [.i e, eS r, eS s] = some [eS (qzf s r)] := by
 have he' : ¬ (D.i e).int = 0 := he
 simp only [q4y, if_neg he', qer, zcg, z45, z24, zkp, zi4, q6i, List.length_map]
 rw [if_pos ⟨hc, hy, ht⟩]
 unfold qzf eS
 simp only [List.map_take]
def zlo (c : Cx) (w : World) (S0 : Nat → Prop) (dK : Deferred) (s : So) (ws : List Wk) (k : Nat) (a : Act) (W : World) : Prop := ∃ (c2 : Cx) (p3 : qm) (sk : So) (o : List Ce), c2.lo = c.lo ∧ c2.F = c.F ∧ c2.At = c.At ∧ c2.snap (VB + 3) = c.snap (VB + 3) ∧ (∀ b, c2.A b → c.A b) ∧ Bs c.A c.F w S0 p3 W ∧ Bs c2.A c2.F W (pinned p3) p3 W ∧ SF (c2.at (qb q56) [eS s, .r (ws.map eW), .i k, eS sk, .r (o.map eC), .i 0]) q4r p3 W a ∧ Dfs c2.A w.heap.size [dK] W a.defers ∧ a.tmps.size = 69 ∧
 q3w sk o (ws.drop k) = q3w s [] ws ∧ qwg sk o (ws.drop k) = true ∧ qaq s sk ∧ o.length ≤ k * 1048576 ∧ k ≤ ws.length
theorem zlh {c : Cx} {x : X} {sk : So} {own : List (Nat × Nat)} (h : q0p c p W 0 ⟨x, qi, own, []⟩) (hx : x.ev c.v = eS sk) : sk.ok := by
 obtain ⟨g, cs, T, hg, hh, hT, hcon⟩ := h
 have hcon : Con c.A p W (x.ev c.v) qi own [] cs.toList := hcon
 rw [hx] at hcon
 obtain ⟨s', e, hs'⟩ := wfS ⟨W, _, _, Con.rd hcon (dep' := own.map (·.2)) (fun _ h => nomatch h) (fun _ h => h)⟩
 rw [z3s e]
 exact hs'
section
variable {c : Cx} {w : World} {S0 : Nat → Prop} {dK : Deferred} {s : So} {ws : List Wk} {outs : List D} {Q : Exit → Act → World → Prop}
set_option maxHeartbeats 1000000 in
theorem qw1 (hlo : c.lo = 1) (hfz : ∀ te, c.F.mx te = 0) (hwl : ws.length ≤ 1000000)
  (ho : outs = (if (q3w s [] ws).2.2 = 0 then [.r ((q3w s [] ws).2.1.map eC), .i 0, eS { (q3w s [] ws).1 with wk := [] }] else [.r [], .i (q3w s [] ws).2.2, eS (qzf s (q3w s [] ws).1)]))
  (hfin : ∀ n' (r : ResD) σ' l' B' p' w' a' (c2 : Cx), l'.length = n' → (qf0 yk Tryz.f23 2 0 3 (.tok 0) n' r σ').go (qb q56) (fun o => o = outs) l' B' → l'.getD 0 .u = eS s → c2.lo = c.lo → c2.F = c.F → c2.At = c.At → c2.snap (VB + 3) = c.snap (VB + 3) → (∀ b, c2.A b → c.A b) → Bs c.A c.F w S0 p' w' → Bs c2.A c2.F w' (pinned p') p' w' → SF (c2.at (qb q56) l') σ' p' w' a' → Dfs c2.A w.heap.size [dK] w' a'.defers → a'.tmps.size = 69 → Q r.exit' a' w') :
  ∀ (f k : Nat) (a : Act) (W : World), zlo c w S0 dK s ws k a W → ws.length - k < f → Code.roundsIn (FR none) 5 Tryz.prog qeh (Exit.inBlock z0a (Exit.then (wkZ.wpIn (FR none) 5 Tryz.prog Q) Q)) f a W
 | 0, k, a, W, _, hf => absurd hf (Nat.not_lt_zero _)
 | f + 1, k, a, W, ⟨c2, p3, sk, o, e1, e2, e3, e4, hA2, hbs, hbn, hsf, hdf, hz, hrun, hok, hgr, hol, hkl⟩, hfu => by
  have hfm : ∀ te, c2.F.mx te ≤ flM q56 te := fun te => by rw [e2, hfz]; exact Nat.zero_le _
  have hfz2 : ∀ te, c2.F.mx te = 0 := fun te => by rw [e2]; exact hfz te
  have hl2 : c2.lo = 1 := e1.trans hlo
  rw [roundsIn_succ, qic, ← qic]
  refine (show Code.wpIn (FR none) 5 Tryz.prog qeh _ a W from ?_)
  rw [qic, ← qic]
  have hW : (seqs wkH (.seq (.block zjy (seqs wkR (.seq wkY (.block zik wkF)))) (sqR (sqR (sqR qeh))))).wpIn (FR none) 5 Tryz.prog (Exit.then (Code.roundsIn (FR none) 5 Tryz.prog qeh (Exit.inBlock z0a (Exit.then (wkZ.wpIn (FR none) 5 Tryz.prog Q) Q)) f) (Exit.inBlock z0a (Exit.then (wkZ.wpIn (FR none) 5 Tryz.prog Q) Q))) a W := by
   refine q1j wkH ?_
   refine q90 (c := c2) (z := 69) none 5 qdu hfm rfl wkH (n := 6) (ann := q75) (R := fun q => q = []) (B := fun _ _ => False) (d := a.defers) (l := [eS s, .r (ws.map eW), .i k, eS sk, .r (o.map eC), .i 0]) (σ := q4r) (k := zm9) (by
    rw [hl2, zdj]
    unfold zlz
    rw [qj]
    refine ⟨fun h => ?_, fun h => ?_⟩
    ·rw [qa]
     exact ⟨⟨h, trivial⟩, rfl⟩
    ·rw [qa]
     refine ⟨⟨?_, trivial⟩, rfl⟩
     show (D.b (!(X.ev _ _).tt)).tt = true
     rw [h]
     rfl) rfl hbn hsf rfl hz fun n' r σ' l' B' p' w' a' hl' hpre hgo hb' hf' hd' hz' => ?_
   cases r with
   | ret => exact hgo.elim
   | exit i =>
    match i, hgo with
    | 0, hgo =>
     -- the end of the loop
     obtain ⟨⟨hlt, -⟩, hgo⟩ := hgo
     obtain ⟨st, p5, hR, -, hb5, hf5⟩ := qhw (n' := n') (c := c2) hgo hpre rfl hb' hf'
     have hR : st = [] := hR
     subst hR
     rw [zcd, List.append_nil] at hf5
     have q2 : l'.getD 2 .u = .i k := by
      have : (l'.take 6).getD 2 .u = .i k := by rw [hpre]; rfl
      rw [List.getD_eq_getElem?_getD, List.getElem?_take_of_lt (by omega), ← List.getD_eq_getElem?_getD] at this
      exact this
     have q1 : l'.getD 1 .u = .r (ws.map eW) := by
      have : (l'.take 6).getD 1 .u = .r (ws.map eW) := by rw [hpre]; rfl
      rw [List.getD_eq_getElem?_getD, List.getElem?_take_of_lt (by omega), ← List.getD_eq_getElem?_getD] at this
      exact this
     have hlt : (D.b (!(D.b (decide ((l'.getD 2 .u).int < ((l'.getD 1 .u).rs.length : Nat)))).tt)).tt = true := hlt
     rw [q1, q2] at hlt
     have hk : k = ws.length := by
      have : ¬ ((k : Int) < (ws.length : Nat)) := by simpa [q5i, q6i, yv] using hlt
      omega
     subst hk
     rw [List.drop_length] at hrun
     have hrun : (sk, o, (0 : Int)) = q3w s [] ws := hrun
     rw [← hrun] at ho
     show Exit.inBlock z0a (Exit.then (wkZ.wpIn (FR none) 5 Tryz.prog Q) Q) (.exit 0) a' w'
     rw [zkg]
     show wkZ.wpIn (FR none) 5 Tryz.prog Q a' w'
     have hst5 : ∀ b, b < W.heap.size → ¬ c2.A b → w'.heap[b]? = W.heap[b]? := fun b hb hn => (hb5.stays hb fun q hq => hn (hbn.pa q _ hq)).1
     have hbs5 : Bs c.A c.F w S0 p5 w' := hbs.up (show Bs c2.A c.F W (pinned p3) p5 w' from e2 ▸ hb5) hA2
     refine qkt none 5 (c := c2) (z := 69) (w0 := w') (S0 := pinned p5) (d := a'.defers) qdu hfm wkZ (ids := []) (n := 6) (ann := q75) (k := qf0 yk Tryz.f23 2 0 3 (.tok 0)) (R := fun q => q = outs) (B := fun _ _ => False) (l := [eS s, .r (ws.map eW), .i ws.length, eS sk, .r (o.map eC), .i 0]) (σ := q4r) (p := p5) (by
      rw [hl2, ze2, ho]
      have hset : (X.set (.tok 3) 3 (.lit (.r []))).ev (evl (qb q56) [eS s, .r (ws.map eW), .i ws.length, eS sk, .r (o.map eC), .i 0]) = eS { sk with wk := [] } := rfl
      have hg : qb q56 2 [.i 0, eS { sk with wk := [] }, eS s] = some [eS { sk with wk := [] }] := rfl
      unfold zn3
      simp only [qa, qd, qg, X.says, X.evs, X.ev, evl, List.getD_cons_zero, List.getD_cons_succ, if_true]
      exact ⟨⟨rfl, trivial⟩, rfl⟩) rfl hb5.anew hf5 rfl hz' (q49 rfl) (qgu rfl) fun n7 r7 σ7 l7 B7 p7 W7 a7 hl7 hpre7 _ hgo7 hb7 hf7 hd7 hz7 => ?_
     have q0 : l7.getD 0 .u = eS s := by
      have : (l7.take 6).getD 0 .u = eS s := by rw [hpre7]; rfl
      rw [List.getD_eq_getElem?_getD, List.getElem?_take_of_lt (by omega), ← List.getD_eq_getElem?_getD] at this
      exact this
     have hdf7 : Dfs c2.A w.heap.size [dK] W7 a7.defers := by
      rw [hd7, hd']
      exact (hdf.keep (S0 := S0) (p := p3) hst5).keep (S0 := S0) (p := p3) fun b hb hn => (hb7.stays hb fun q hq => hn (hb5.pa q _ hq)).1
     exact hfin n7 r7 σ7 l7 B7 p7 W7 a7 c2 hl7 hgo7 q0 e1 e2 e3 e4 hA2 (hbs5.up (show Bs c2.A c.F w' (pinned p5) p7 W7 from e2 ▸ hb7) hA2) hb7.anew hf7 hdf7 hz7
    | i + 1, hgo => exact hgo.elim
   | normal =>
    -- a wake
    obtain ⟨⟨hlt, -⟩, hgo⟩ := hgo
    obtain ⟨st, p5, hR, -, hb5, hf5⟩ := qhw (n' := n') (c := c2) hgo hpre rfl hb' hf'
    have hR : st = [] := hR
    subst hR
    rw [zcd, List.append_nil] at hf5
    have q2 : l'.getD 2 .u = .i k := by
     have : (l'.take 6).getD 2 .u = .i k := by rw [hpre]; rfl
     rw [List.getD_eq_getElem?_getD, List.getElem?_take_of_lt (by omega), ← List.getD_eq_getElem?_getD] at this
     exact this
    have q1 : l'.getD 1 .u = .r (ws.map eW) := by
     have : (l'.take 6).getD 1 .u = .r (ws.map eW) := by rw [hpre]; rfl
     rw [List.getD_eq_getElem?_getD, List.getElem?_take_of_lt (by omega), ← List.getD_eq_getElem?_getD] at this
     exact this
    have hlt : (D.b (decide ((l'.getD 2 .u).int < ((l'.getD 1 .u).rs.length : Nat)))).tt = true := hlt
    rw [q1, q2] at hlt
    have hk : k < ws.length := by
     have : ((k : Int) < (ws.length : Nat)) := by simpa [q5i, q6i, yv] using hlt
     omega
    have hst5 : ∀ b, b < W.heap.size → ¬ c2.A b → w'.heap[b]? = W.heap[b]? := fun b hb hn => (hb5.stays hb fun q hq => hn (hbn.pa q _ hq)).1
    have hbs5 : Bs c.A c.F w S0 p5 w' := hbs.up (show Bs c2.A c.F W (pinned p3) p5 w' from e2 ▸ hb5) hA2
    have hdf5 : Dfs c2.A w.heap.size [dK] w' a'.defers := by
     rw [hd']
     exact hdf.keep (S0 := S0) (p := p3) hst5
    obtain ⟨wk, hwk⟩ : ∃ wk, ws[k] = wk := ⟨_, rfl⟩
    have hdr : ws.drop k = wk :: ws.drop (k + 1) := by rw [List.drop_eq_getElem_cons hk, hwk]
    rw [hdr] at hrun hok
    unfold qwg at hok
    rw [z0s] at hrun
    simp only [Bool.and_eq_true, Bool.or_eq_true, decide_eq_true_eq] at hok
    have hab := z7e hok.1
    show (Code.seq (.block zjy (seqs wkR (.seq wkY (.block zik wkF)))) (sqR (sqR (sqR qeh)))).wpIn (FR none) 5 Tryz.prog _ a' w'
    refine wpIn_seq (wpIn_block (q1j wkR ?_))
    refine q9i (c := c2) (z := 69) none 5 qdu hfm rfl wkR (n := 6) (ann := q75) (R := fun q => q = [eS sk, .r (o.map eC), .i 0, eW wk]) (B := fun _ _ => False) (ts := []) (ms := zfg) (kill := []) (σk := zgd) (d := a'.defers) (l := [eS s, .r (ws.map eW), .i k, eS sk, .r (o.map eC), .i 0]) (σ := q4r) (w0 := w') (S0 := pinned p5) (p := p5) (by
     rw [hl2, zex]
     unfold zn7
     rw [qa]
     refine ⟨⟨?_, ?_, trivial⟩, ?_⟩
     ·show (D.b (decide ((0 : Int) ≤ (k : Int)))).tt = true
      rw [q5i, decide_eq_true_eq]
      omega
     ·show (D.b (decide ((k : Int) < (((ws.map eW).length : Nat) : Int)))).tt = true
      rw [q5i, decide_eq_true_eq, List.length_map]
      omega
     ·show [eS sk, D.r (o.map eC), D.i 0, (D.r (ws.map eW)).get (k : Int)] = _
      have : (D.r (ws.map eW)).get (k : Int) = eW wk := by
       show ((ws.map eW)[((k : Int)).toNat]?).getD .u = _
       simp [hk, hwk]
      rw [this]) rfl hb5.anew hf5 rfl hz' fun st p6 W6 a6 hR hst hb6 hf6 hd6 hz6 => ?_
    have hR : st = [eS sk, .r (o.map eC), .i 0, eW wk] := hR
    subst hR
    rw [zdq] at hf6
    have hst6 : ∀ b, b < w'.heap.size → ¬ c2.A b → W6.heap[b]? = w'.heap[b]? := fun b hb hn => (hb6.stays hb fun q hq => hn (hb5.pa q _ hq)).1
    have hbs6 : Bs c.A c.F w S0 p6 W6 := hbs5.up (show Bs c2.A c.F w' (pinned p5) p6 W6 from e2 ▸ hb6) hA2
    have hdf6 : Dfs c2.A w.heap.size [dK] W6 a6.defers := by
     rw [hd6]
     exact hdf5.keep (S0 := S0) (p := p3) hst6
    have so : sk.ok := zlh (hf6.m 0 ⟨.tok 6, qi, qv 0 qi, []⟩ (by kernel_rfl)) rfl
    have hnew : ∀ {A3 : Nat → Prop} {W' : World} {a2 : Act} {D : Nat}, (∀ b, A3 b → c2.A b) → ¬ A3 D → W6.heap.size ≤ D → W'.heap[D]? = some (.deferred (some [])) → a2.defers = qre D :: a6.defers → (∀ b, b < W6.heap.size → ¬ pinned p6 b → W'.heap[b]? = W6.heap[b]?) → Dfs A3 w.heap.size [dK] W' a2.defers := fun {A3 W' a2 D} hA3 hD hDl hDh hde hold => by
     obtain ⟨Ds, f1, f2, f3⟩ := hdf6
     have hs6 := hbs6.but.size
     refine ⟨D :: Ds, by rw [hde, f1]; rfl, List.nodup_cons.2 ⟨fun hm => ?_, f2⟩, fun D' hm => ?_⟩
     ·have := qu (f3 D hm).2.1
      omega
     ·rcases List.mem_cons.1 hm with rfl | hm
      ·exact ⟨by omega, hDh, hD⟩
      ·obtain ⟨g1, g2, g3⟩ := f3 D' hm
       exact ⟨g1, (hold D' (qu g2) fun ⟨q, hq⟩ => g3 (hb6.pa q _ hq)).trans g2, fun h => g3 (hA3 _ h)⟩
    refine zcf (c2 := c2) (p8 := p6) hl2 hfz2 hb6.anew hf6 hz6 hok.1 (by omega) so (fun A3 p' W' a2 D hA3 hD hDl hDh hde hz2 hold hb8 hbn8 he hs8 hlen => ?_) (fun A3 p' W' a2 D hA3 hD hDl hDh hde hz2 hold hb8 hbn8 he hs8 => ?_)
    ·-- the next wake
     show (sqR (sqR (sqR qeh))).wpIn (FR none) 5 Tryz.prog _ a2 W'
     have hdf8 := hnew hA3 hD hDl hDh hde hold
     have hbs8 : Bs c.A c.F w S0 p' W' := hbs6.up (show Bs c2.A c.F W6 (pinned p6) p' W' from e2 ▸ hb8) hA2
     obtain ⟨r, hr⟩ : ∃ r, r = jj wk.val sk o (yf sk wk.att) := ⟨_, rfl⟩
     rw [← hr] at hs8 he hlen hrun hok
     obtain ⟨c3, hc3⟩ : ∃ c3 : Cx, c3 = { c2 with A := A3 } := ⟨_, rfl⟩
     have hc3A : c3.A = A3 := by rw [hc3]
     have hc3F : c3.F = c2.F := by rw [hc3]
     have hc3l : c3.lo = 1 := by rw [hc3]; exact hl2
     have pre := q9i (c := c3) (z := 69) none 5 qdu (fun te => by rw [hc3F]; exact hfm te) rfl wkN (n := 6) (ann := q75) (R := fun q => q = [.i ((k + 1 : Nat) : Int)]) (B := fun _ _ => False) (ts := [(26, .int .i64, [], [])]) (ms := []) (kill := []) (σk := ⟨q4r.t.filter (fun e => !Nat.beq e.1 26), q4r.m⟩) (d := a2.defers) (l := [eS s, .r (ws.map eW), .i k, eS r.1, .r (r.2.1.map eC), .i 0]) (σ := q4r) (w0 := W') (S0 := pinned p') (p := p') (a := a2) (w := W') (Q := fun _ _ _ => False) (K := fun a3 W3 => zlo c w S0 dK s ws (k + 1) a3 W3) (by
      rw [hc3l, zfk]
      unfold zm0
      rw [qa]
      have hr : i64 ((k : Int) + 1) := by
       unfold i64
       omega
      simp only [qg, X.says, X.ev, evl, List.getD_cons_zero, List.getD_cons_succ, yv, q5i, q52, hr, and_self, true_and]
      rfl) rfl (by rw [hc3A, hc3F]; exact hbn8) (by rw [hc3]; exact hs8) rfl hz2 fun st p9 W9 a9 hR9 hst9 hb9 hf9 hd9 hz9 => ?_
     ·refine wpIn_mono pre fun e a3 W3 hq => ?_
      cases e with
      | normal => exact qw1 hlo hfz hwl ho hfin f (k + 1) a3 W3 hq (by omega)
      | _ => exact hq.elim
     ·have hR9 : st = [.i ((k + 1 : Nat) : Int)] := hR9
      subst hR9
      rw [show q2a [(26, .int .i64, [], [])] [] 6 (q1p [(26, .int .i64, [], [])] [] [] 6 ⟨q4r.t.filter (fun e => !Nat.beq e.1 26), q4r.m⟩) = zmk from ze1] at hf9
      have hst9 : ∀ b, b < W'.heap.size → ¬ A3 b → W9.heap[b]? = W'.heap[b]? := fun b hb hn => (hb9.stays hb fun q hq => hn (hbn8.pa q _ hq)).1
      rw [hc3A, hc3F] at hb9
      refine ⟨c3, p9, r.1, r.2.1, by rw [hc3]; exact e1, by rw [hc3]; exact e2, by rw [hc3]; exact e3, by rw [hc3]; exact e4, fun b h => hA2 b (hA3 b (by rw [← hc3A]; exact h)), hbs8.up (show Bs A3 c.F W' (pinned p') p9 W9 from e2 ▸ hb9) fun b h => hA2 b (hA3 b h), by rw [hc3A, hc3F]; exact hb9.anew, ?_, ?_, hz9, ?_, ?_, ?_, ?_, hk⟩
      ·refine ⟨fun t x hx => ?_, fun j e he => ?_⟩
       ·have hx := qx hx
        simp only [q4r, gnM] at hx
        rcases hx with ⟨rfl, rfl⟩ | ⟨rfl, rfl⟩ | ⟨rfl, rfl⟩ | ⟨rfl, rfl⟩ | ⟨rfl, rfl⟩ | ⟨rfl, rfl⟩ | ⟨rfl, rfl⟩
        ·exact hf9.t 0 (.ref 0 [] 0 qi) (by kernel_rfl)
        ·exact hf9.t 1 (.bx 1 41 (.ref 0 [] 0 qi)) (by kernel_rfl)
        ·exact hf9.t 2 (.ref 2 [] 0 zo) (by kernel_rfl)
        ·exact hf9.t 3 (.sn (VB + 3) (.ref 3 [] 0 y8)) (by kernel_rfl)
        ·exact hf9.t 24 (.v (.tok 1) q3l [(0, 385)] []) (by kernel_rfl)
        ·exact hf9.t 25 (.v (.len (.tok 1)) (.int .i64) [] []) (by kernel_rfl)
        ·exact hf9.t 26 (.v (.tok 6) (.int .i64) [] []) (by kernel_rfl)
       ·have he := qx he
        simp only [q4r, gnM] at he
        rcases he with ⟨rfl, rfl⟩ | ⟨rfl, rfl⟩ | ⟨rfl, rfl⟩
        ·exact hf9.m 0 ⟨.tok 3, qi, qv 0 qi, []⟩ (by kernel_rfl)
        ·exact hf9.m 2 ⟨.tok 4, zo, [(0, 33)], []⟩ (by kernel_rfl)
        ·exact hf9.m 3 ⟨.tok 5, y8, [], []⟩ (by kernel_rfl)
      ·rw [hd9, hc3A]
       exact hdf8.keep (S0 := S0) (p := p3) hst9
      ·rw [if_pos he] at hrun
       exact hrun
      ·rcases hok.2 with h | h
       ·exact absurd he h
       ·exact h
      ·rw [hr]
       exact hgr.trans (qg7 _ _ _ _ hok.1)
      ·have : r.2.1.length ≤ o.length + (yf sk wk.att).length := hlen
       omega
    ·-- the return from within
     have hdf8 := hnew hA3 hD hDl hDh hde hold
     have hbs8 : Bs c.A c.F w S0 p' W' := hbs6.up (show Bs c2.A c.F W6 (pinned p6) p' W' from e2 ▸ hb8) hA2
     rw [if_neg he] at hrun
     have hgt : qaq s (jj wk.val sk o (yf sk wk.att)).1 := hgr.trans (qg7 _ _ _ _ hok.1)
     obtain ⟨r, hr⟩ : ∃ r, r = jj wk.val sk o (yf sk wk.att) := ⟨_, rfl⟩
     rw [← hr] at hs8 he hrun hgt
     rw [← hrun, if_neg he] at ho
     show Q .ret a2 W'
     refine hfin 4 .ret wkE [eS s, eS r.1, .r [], .i r.2.2] (fun _ _ => False) p' W' a2 { c2 with A := A3 } rfl ?_ rfl e1 e2 e3 e4 (fun b h => hA2 b (hA3 b h)) hbs8 hbn8 hs8 hdf8 hz2
     rw [zfn, ho]
     have hg : qb q56 2 [.i r.2.2, eS r.1, eS s] = some [eS (qzf s r.1)] := zef hgt.1 hgt.2.1 (by rw [hgt.2.2.2.1]; exact Nat.le_refl _) he
     unfold zn9
     simp only [qa, qd, qg, X.says, X.evs, X.ev, evl, List.getD_cons_zero, List.getD_cons_succ, hg]
     exact ⟨⟨rfl, trivial⟩, rfl⟩
  have e := qic
  rw [← e] at hW
  exact hW
end
set_option maxHeartbeats 1000000 in
theorem qtk : FOk yk zky := by
 refine z81 Tryz.f23 2 wkC qdu (fun l => rfl) Tryz.func23 zb5 q25 (by rw [zd5]; decide) rfl zid (ann := q75) wkK fun ds outs hwf hg => ?_
 obtain ⟨d, r', rfl, hs, rfl⟩ := hwf
 obtain ⟨s, rfl, so⟩ := wfS hs
 simp only [zky, zk] at hg
 split at hg
 case isFalse => cases hg
 rename_i hcond
 obtain ⟨hw1, hc1, hwb⟩ := hcond
 have hg := (Option.some.inj hg).symm
 refine ⟨fun q => q = [.r (s.wk.map eW), .i ((s.wk.map eW).length : Nat), .i 0, eS s, .r [], .i 0], fun _ _ => False, ?_, ?_⟩
 ·show (q4q Tryz.prog q56 q75 1 Tryz.f23.ntmps zka 1 (qql yk) _).go _ _ _ _
  rw [zd5, zd8]
  have hq : zc0 3518437208780 (.r (s.wk.map eW)) = true := by
   simp only [zc0, q6i, List.length_map, decide_eq_true_eq]
   omega
  have h0 : qb q56 0 [.r (s.wk.map eW)] = some [.r (s.wk.map eW)] := by
   have ht : qb q56 0 = gCl 3518437208780 := rfl
   rw [ht]
   simp only [gCl, hq, if_true]
  have h1 : qb q56 1 [.r (s.wk.map eW)] = some [] := by
   have ht : qb q56 1 = zeh := rfl
   rw [ht]
   simp only [zeh, q6i, List.length_map, if_pos hw1]
  unfold zng
  simp only [qa, qd, qg, X.says, X.evs, X.ev, evl, List.getD_cons_zero, List.getD_cons_succ, z24, h0, h1, Option.getD_some, Option.isSome_some, q6i, q5i, and_self, and_true, true_and]
 ·intro c p w a S0 Q l n σ ks te was B dK hgo hl hpre hup hlo hfz hp0 hfr0 hb hf hd hz hfin
  unfold wkK at hgo
  split at hgo
  case isFalse => exact hgo.elim
  rename_i hok
  simp only [Bool.and_eq_true] at hok
  obtain ⟨h1, h2, h3, h4⟩ := hok
  obtain rfl := gnN h1
  obtain rfl := gnN h2
  obtain rfl := gnN h3
  obtain rfl := X.beq_ok _ _ h4
  have hlo : c.lo = 1 := hlo
  have hz : a.tmps.size = 69 := hz.trans zd5
  have hl1 : l = [eS s] := by
   have e : l.take 1 = [eS s] := hpre
   rw [← e, List.take_of_length_le (by omega)]
  subst hl1
  have hcl : Code.wpIn (FR none) 5 Tryz.prog (seqs [sqL q5w, sqL (sqR q5w)] (.seq (.seq (sqL (sqL z3f)) (.block z0a (.loop qeh))) wkZ)) Q a w := by
   refine q1j _ ?_
   have pre : q9r (FR none) 5 Tryz.prog Q zjw (fun a1 W1 => (Code.block z0a (.loop qeh)).wpIn (FR none) 5 Tryz.prog (Exit.then (wkZ.wpIn (FR none) 5 Tryz.prog Q) Q) a1 W1) a w := by
    refine q9i (c := c) (z := 69) none 5 qdu (fun te => by rw [hfz]; exact Nat.zero_le _) rfl zjw (n := 1) (ann := q75) (R := fun q => q = [.r (s.wk.map eW), .i ((s.wk.map eW).length : Nat), .i 0, eS s, .r [], .i 0]) (B := B) (ts := wkI) (ms := wkM) (kill := []) (σk := wkQ) (d := [dK]) (l := [eS s]) (σ := σ) (w0 := w) (S0 := S0) (p := p) (by rw [hlo]; exact hgo) rfl hb hf hd hz fun st p1 W1 a1 hR hst hb1 hf1 hd1 hz1 => ?_
    have hR : st = [.r (s.wk.map eW), .i ((s.wk.map eW).length : Nat), .i 0, eS s, .r [], .i 0] := hR
    subst hR
    rw [show q2a wkI wkM 1 (q1p wkI wkM [] 1 wkQ) = zld from zg6] at hf1
    refine wpIn_block (wpIn_loop_rounds (s.wk.length + 1) ?_)
    refine qw1 (c := c) (w := w) (S0 := S0) (dK := dK) (s := s) (ws := s.wk) (outs := outs) hlo hfz (by omega) ?_ ?_ (s.wk.length + 1) 0 a1 W1 ?_ (by omega)
    ·rw [hg]
     unfold z63
     split <;> rfl
    ·intro n' r σ' l' B' p' w' a' c2 q1 q2 q3 q4 q5 q6 q7 q8 q9 q10 q11 q12 q13
     exact hfin n' r σ' l' B' p' w' a' c2 q1 q2 q3 q4 q5 q6 q7 q8 q9 q10 q11 q12 (q13.trans zd5.symm)
    ·refine ⟨c, p1, s, [], rfl, rfl, rfl, rfl, fun _ h => h, hb1, hb1.anew, ?_, ⟨[], by rw [hd1]; rfl, by simp, fun D hD => nomatch hD⟩, hz1, rfl, hwb, qaq.refl s, by simp, Nat.zero_le _⟩
     refine ⟨fun t x hx => ?_, fun j e he => ?_⟩
     ·have hx := qx hx
      simp only [q4r, gnM] at hx
      rcases hx with ⟨rfl, rfl⟩ | ⟨rfl, rfl⟩ | ⟨rfl, rfl⟩ | ⟨rfl, rfl⟩ | ⟨rfl, rfl⟩ | ⟨rfl, rfl⟩ | ⟨rfl, rfl⟩
      ·exact hf1.t 0 (.ref 0 [] 0 qi) (by kernel_rfl)
      ·exact hf1.t 1 (.bx 1 41 (.ref 0 [] 0 qi)) (by kernel_rfl)
      ·exact hf1.t 2 (.ref 2 [] 0 zo) (by kernel_rfl)
      ·exact hf1.t 3 (.sn (VB + 3) (.ref 3 [] 0 y8)) (by kernel_rfl)
      ·exact hf1.t 24 (.v (.tok 1) q3l [(0, 385)] []) (by kernel_rfl)
      ·exact hf1.t 25 (.v (.tok 2) (.int .i64) [] []) (by kernel_rfl)
      ·exact hf1.t 26 (.v (.tok 3) (.int .i64) [] []) (by kernel_rfl)
     ·have he := qx he
      simp only [q4r, gnM] at he
      rcases he with ⟨rfl, rfl⟩ | ⟨rfl, rfl⟩ | ⟨rfl, rfl⟩
      ·exact hf1.m 0 ⟨.tok 4, qi, qv 0 qi, []⟩ (by kernel_rfl)
      ·exact hf1.m 2 ⟨.tok 5, zo, [(0, 33)], []⟩ (by kernel_rfl)
      ·exact hf1.m 3 ⟨.tok 6, y8, [], []⟩ (by kernel_rfl)
   refine q5v (Q := Q) (Q' := Q) (fun e a w _ h => h) [sqL q5w, sqL (sqR q5w)] (fun a w h => ?_) (qah [sqL q5w, sqL (sqR q5w)] [sqL (sqL z3f)] pre)
   refine wpIn_seq (wpIn_seq (wpIn_mono h fun e a w hq => ?_))
   cases e with
   | normal => exact hq
   | _ => exact hq
  have e := z7u
  rw [← e] at hcl
  exact hcl
end
def qbj (s : So) (d : Ce) : List At := if d.t = 5 then yf s (cellAt s (d.n + 2)) else []
abbrev zff (s : So) : Bool := decide (s.cs.length ≤ 4000000000000)
theorem zaf (s : So) (d : Ce) (h : s.cs.length ≤ 4000000000000) : (qbj s d).length ≤ 4000000000000 := by
 unfold qbj
 split
 ·exact Nat.le_trans (qb0 s s.cs.length _ []) h
 ·simp
theorem qpv {s : So} {v : Ce} (hb : zff s = true) (h : (q50 s v).2 = true) : z21 [eS s, eC (q50 s v).1] = some [.r ((qbj s (q50 s v).1).map eA)] := by
 simp only [z21, zk, yw, qbj]
 by_cases h5 : (q50 s v).1.t = 5
 ·have hin : inS s ((q50 s v).1.n + 2) = true := by
   unfold q50 at h h5 ⊢
   split at h
   ·rename_i hv
    rw [if_pos hv] at h5
    split at h
    ·rename_i h0
     rw [if_pos h0] at h5
     have h5 : (q1o s v).t = 5 := h5
     omega
    ·rename_i h0
     rw [if_neg h0] at h5
     split at h
     ·rename_i h1
      simp only [if_pos hv, if_neg h0, if_pos h1]
      simp only [Bool.and_eq_true] at h
      exact h.2
     ·rename_i h1
      rw [if_neg h1] at h5
      exact absurd h5 (by decide)
   ·cases h
  rw [if_pos h5, if_pos ⟨hin, of_decide_eq_true hb⟩, if_pos h5]
 ·rw [if_neg h5, if_neg h5]
  rfl
def zf4 (l : List At) (nm : ByteArray) : Ce × Bool := if qay l nm < 0 then (⟨0, 0⟩, false) else ((l.getD (qay l nm).toNat default).val, true)
def qqm (s : So) (v : Ce) (nm : ByteArray) : Ce × Bool := if (q50 s v).2 then zf4 (qbj s (q50 s v).1) nm else (⟨0, 0⟩, false)
def z5s : List D → Option (List D)
 | [s, v, nm] => if zff (dS s) then some [eC (qqm (dS s) (dC v) nm.str).1, .b (qqm (dS s) (dC v) nm.str).2] else none
 | _ => none
theorem z5h {l : List At} (h : ¬ qay l nm < 0) : 0 ≤ qay l nm ∧ qay l nm < l.length := by
 unfold qay at h ⊢
 split
 ·rename_i i hi
  have := (List.findIdx?_eq_some_iff_getElem.1 hi).1
  omega
 ·rename_i hi
  rw [hi] at h
  exact absurd (by decide) h
theorem z1j : FOk q1c z5s := qhl q1i q6p q7v fun ds outs hw hg => by
 obtain ⟨d, r, rfl, hd, e, r', rfl, he, f, r2, rfl, hf, rfl⟩ := hw
 obtain ⟨s, rfl, hs⟩ := wfS hd
 obtain ⟨v, rfl, hv⟩ := wfC he
 obtain ⟨nm, rfl, hn⟩ := hf.str
 simp only [z5s, zk, yw, q2s, Option.ite_none_right_eq_some, Option.some.injEq] at hg
 obtain ⟨hb, rfl⟩ := hg
 have ez : D.a [.i 0, .i 0] = eC ⟨0, 0⟩ := rfl
 simp only [q6n, gnZ, qf8, ez, qqm]
 cases h : (q50 s v).2 with
 | false => simp
 | true =>
  simp only [qpv hb h, qho, qoe, q2s, gnZ, zf4]
  by_cases hp : qay (qbj s (q50 s v).1) nm < 0
  ·simp [hp]
  ·obtain ⟨h1, h2⟩ := z5h hp
   have hk : (qay (qbj s (q50 s v).1) nm).toNat < (qbj s (q50 s v).1).length := by omega
   have eg : (D.r ((qbj s (q50 s v).1).map eA)).get (qay (qbj s (q50 s v).1) nm) = eA ((qbj s (q50 s v).1).getD (qay (qbj s (q50 s v).1) nm).toNat default) := quj eA h1 h2
   simp [hp, h1, h2, eg, zod]
def qfu (s : So) (v : Ce) : List ByteArray := if (q50 s v).2 then (qbj s (q50 s v).1).map At.name else []
def z5i : List D → Option (List D)
 | [s, v] => if zff (dS s) then some [.r ((qfu (dS s) (dC v)).map .s)] else none
 | _ => none
theorem qu0 : FOk q18 z5i := qsi q1i q6p fun ds outs hw hg => by
 obtain ⟨d, r, rfl, hd, e, r', rfl, he, rfl⟩ := hw
 obtain ⟨s, rfl, hs⟩ := wfS hd
 obtain ⟨v, rfl, hv⟩ := wfC he
 simp only [z5i, zk, yw, Option.ite_none_right_eq_some, Option.some.injEq] at hg
 obtain ⟨hb, rfl⟩ := hg
 simp only [q73, gnZ, qf8, qfu]
 cases h : (q50 s v).2 with
 | false => simp
 | true =>
  have hl := zaf s (q50 s v).1 (of_decide_eq_true hb)
  simp only [qpv hb h, gnZ, true_implies, Bool.not_true, Bool.false_eq_true, false_implies, true_and, if_true, Option.isSome_some]
  have e1 : ((z21 [eS s, ((qf8 [eS s, eC v]).getD []).getD 0 D.u]).getD []).getD 0 D.u = .r ((qbj s (q50 s v).1).map eA) := by
   simp only [qf8, zk, yw, Option.getD_some, List.getD_cons_zero, qpv hb h]
  generalize qbj s (q50 s v).1 = l at *
  rw [jt]
  refine ⟨fun st => ∃ k : Nat, k ≤ l.length ∧ st = [.r (((l.take k).map At.name).map .s), .i k], fun st => l.length - (st.getD 1 .u).int.toNat, ⟨0, Nat.zero_le _, rfl⟩, ?_⟩
  rintro st - ⟨k, hk, rfl⟩
  rw [qj]
  refine ⟨fun hlt => ?_, fun hlt => ?_⟩
  ·simp only [gnZ, e1] at hlt
   have hkl : k < l.length := by omega
   have e2 : (l.take (k + 1)).map At.name = (l.take k).map At.name ++ [(l.getD k default).name] := by
    rw [List.take_add_one, List.getElem?_eq_getElem hkl, List.map_append, List.getD_eq_getElem?_getD, List.getElem?_eq_getElem hkl]
    rfl
   simp only [gnZ, e1, q7o eA hkl, znl]
   refine ⟨⟨by omega, by omega⟩, by rw [List.length_take]; omega, ⟨by omega, by omega⟩, ?_⟩
   rw [q2p, if_pos rfl]
   refine ⟨⟨k + 1, by omega, ?_⟩, by simp [D.int]; omega⟩
   rw [e2]
   simp [q6i]
  ·simp only [gnZ, e1] at hlt ⊢
   have hkl : k = l.length := by omega
   subst hkl
   rw [List.take_length]
section
section
variable {s : So} (hv : y9 s = true)
include hv
theorem zne (c : Ce) : vcP s c = vcR s c := (qk5 hv).vc c
theorem tagz (n : Int) : 0 ≤ q2e s n ↔ inS s n = true := by
 have := (qk5 hv).tag_in n
 rw [← this]
 simp
theorem zhr : ∀ (k : Nat) (c : Ce), z2h s k c = qad s k c
 | 0, c => rfl
 | k + 1, c => by
  unfold z2h qad
  by_cases h : c.t = 0 ∧ inS s c.n = true ∧ cellAt s c.n ≠ c
  ·rw [if_pos h, if_pos ⟨h.1, (tagz hv _).2 h.2.1, h.2.2⟩, zhr k]
  ·rw [if_neg h, if_neg (fun q => h ⟨q.1, (tagz hv _).1 q.2.1, q.2.2⟩)]
theorem derz (c : Ce) : q1o s c = q35 s c := by
 unfold q1o q35
 rw [zne hv]
 cases h : vcR s c with
 | false => rfl
 | true => rw [if_pos rfl, if_pos rfl, zhr hv, z6e hv h]
theorem qya (hc : vcR s c = true) (h3 : c.t = 3) : inS s c.n = true ∧ (cellAt s c.n).t = 4 ∧ 0 ≤ (cellAt s c.n).n ∧ (cellAt s c.n).n < s.ys.length ∧ arS s (cellAt s c.n).n = (qar s (cellAt s c.n).n).ar ∧ ∀ j : Nat, (j : Int) < (qar s (cellAt s c.n).n).ar → inS s (c.n + 1 + j) = true ∧ vcR s (cellAt s (c.n + 1 + j)) = true := by
 unfold vcR at hc
 rw [if_neg (by omega), if_neg (by omega), if_neg (by omega), if_pos h3] at hc
 have h4 : q2e s c.n = 4 := of_decide_eq_true hc
 have hi : inS s c.n = true := by
  unfold q2e at h4
  split at h4
  ·assumption
  ·omega
 rw [q5c hi] at h4
 obtain ⟨a1, a2, a3⟩ := zju hv hi h4
 obtain ⟨b1, b2, b3⟩ := z8r (show 0 ≤ arS s (cellAt s c.n).n by omega)
 exact ⟨hi, h4, b1, b2, b3, fun j hj => a3 j (by rw [b3]; exact hj)⟩
theorem z1h (hc : vcR s c = true) (h2 : c.t = 2) : 0 ≤ c.n ∧ c.n < s.ys.length := by
 unfold vcR at hc
 rw [if_neg (by omega), if_neg (by omega), if_pos h2] at hc
 have h0 : arS s c.n = 0 := of_decide_eq_true hc
 obtain ⟨b1, b2, -⟩ := z8r (show 0 ≤ arS s c.n by omega)
 exact ⟨b1, b2⟩
end
def qt0 (s : So) (c : Ce) (nm : ByteArray) (k : Int) : Bool := decide (c.t = 3) && decide (qar s (cellAt s c.n).n = ⟨nm, k⟩)
def z4v : List D → Option (List D)
 | [s, c, nm, k] => if y9 (dS s) && vcR (dS s) (dC c) then some [.b (qt0 (dS s) (dC c) nm.str k.int)] else none
 | _ => none
theorem qix : FOk jq z4v := qhm fun ds outs hw hg => by
 obtain ⟨d, r, rfl, hd, e, r', rfl, he, f, r2, rfl, hf, g, r3, rfl, hk, rfl⟩ := hw
 obtain ⟨s, rfl, hs⟩ := wfS hd
 obtain ⟨c, rfl, hc⟩ := wfC he
 obtain ⟨nm, rfl, hn⟩ := hf.str
 obtain ⟨k, rfl, hk⟩ := wfI hk
 simp only [z4v, zk, yw, q2s, yv, Option.ite_none_right_eq_some, Option.some.injEq, Bool.and_eq_true] at hg
 obtain ⟨⟨hv, hcv⟩, rfl⟩ := hg
 have ek : D.a [.s nm, .i k] = eY ⟨nm, k⟩ := rfl
 by_cases h3 : c.t = 3
 ·obtain ⟨a1, a2, a3, a4, a5, -⟩ := qya hv hcv h3
  have i1 := z5.1 a1
  have eg : (D.r (s.ys.map eY)).get (cellAt s c.n).n = eY (qar s (cellAt s c.n).n) := quj eY a3 a4
  simp only [q2c, gnZ, ze a1, eg, ek, h3, qt0]
  simp [a3, a4, i1.1, i1.2, h3]
 ·simp only [q2c, gnZ, h3, qt0]
  simp [h3]
def qu9 (l : List ByteArray) (nm : ByteArray) : Int := match l.findIdx? fun a => decide (a = nm) with
 | some i => i
 | none => -1
def qvf : List D → Option (List D)
 | [l, nm] => some [.i (qu9 (l.rs.map D.str) nm.str)]
 | _ => none
theorem zkn (h : Wf d (.row 9)) : ∃ l : List ByteArray, d = .r (l.map .s) ∧ l.length ≤ 8796093021952 := by
 obtain ⟨l, rfl, h1, h2⟩ := h.row_of (te := .str) rfl
 obtain ⟨m, rfl, h3⟩ := qb7 (e := D.s) (P := fun _ => True) fun x hx => by
  obtain ⟨s, e, -⟩ := (h2 x hx).str
  exact ⟨s, e, trivial⟩
 have e : LM .str = 8796093021952 := by kernel_rfl
 rw [List.length_map, e] at h1
 exact ⟨m, rfl, h1⟩
theorem qi8 (l : List ByteArray) : (l.map D.s).map D.str = l := by
 rw [List.map_map]
 exact List.map_id _
theorem z77 {l : List ByteArray} : qu9 l nm < 0 ↔ nm ∉ l := by
 unfold qu9
 split
 ·rename_i i hi
  obtain ⟨h1, h2, -⟩ := List.findIdx?_eq_some_iff_getElem.1 hi
  have h2 : l[i] = nm := by simpa using h2
  constructor
  ·intro h
   omega
  ·intro h
   exact absurd (h2 ▸ List.getElem_mem h1) h
 ·rename_i hi
  rw [List.findIdx?_eq_none_iff] at hi
  constructor
  ·intro _ hm
   have := hi nm hm
   simp at this
  ·intro _
   decide
theorem zjv (l : List At) (nm : ByteArray) : qu9 (l.map At.name) nm = qay l nm := by
 unfold qu9 qay
 rw [List.findIdx?_map]
 rfl
set_option maxHeartbeats 1000000 in
theorem q9k : FOk ye qvf := qfw fun ds outs hw hg => by
 obtain ⟨d, r, rfl, hd, e, r', rfl, he, rfl⟩ := hw
 obtain ⟨l, rfl, hl⟩ := zkn hd
 obtain ⟨nm, rfl, hn⟩ := he.str
 simp only [qvf, q6i, qi8, q2s, Option.some.injEq] at hg
 subst hg
 rw [q3y, jt]
 refine ⟨fun st => ∃ k : Nat, k ≤ l.length ∧ st = [.i 0, .i k] ∧ ∀ j, j < k → l.getD j default ≠ nm, fun st => l.length - (st.getD 1 .u).int.toNat, ⟨0, Nat.zero_le _, rfl, fun j hj => absurd hj (Nat.not_lt_zero _)⟩, ?_⟩
 rintro st - ⟨k, hk, rfl, hP⟩
 rw [qj]
 refine ⟨fun hlt => ?_, fun hlt => ?_⟩
 ·simp only [gnZ] at hlt
  have hkl : k < l.length := by omega
  simp only [gnZ, q7o D.s hkl]
  refine ⟨⟨by omega, by omega⟩, fun hx => ?_, fun hx => ⟨⟨by omega, by omega⟩, ?_⟩⟩
  ·have hf : (l.findIdx? fun a => decide (a = nm)) = some k := by
    rw [List.findIdx?_eq_some_iff_getElem]
    refine ⟨hkl, ?_, fun j hj => ?_⟩
    ·have e : l.getD k default = l[k] := by rw [List.getD_eq_getElem?_getD, List.getElem?_eq_getElem hkl]; rfl
     rw [e] at hx
     simpa using hx
    ·have := hP j hj
     rw [List.getD_eq_getElem?_getD, List.getElem?_eq_getElem (by omega)] at this
     simpa using this
   rw [qu9, hf]
  ·rw [q2p, if_pos rfl]
   refine ⟨⟨k + 1, by omega, by simp, q2i hP (by simpa using hx)⟩, ?_⟩
   simp [D.int]
   omega
 ·simp only [gnZ] at hlt ⊢
  have : k = l.length := by omega
  subst this
  have hf : (l.findIdx? fun a => decide (a = nm)) = none := by
   rw [List.findIdx?_eq_none_iff]
   intro a ha
   obtain ⟨j, hj, rfl⟩ := List.getElem_of_mem ha
   have := hP j hj
   rw [List.getD_eq_getElem?_getD, List.getElem?_eq_getElem hj] at this
   simpa using this
  rw [qu9, hf]
theorem qus {s : So} (hv : y9 s = true) {x : Ce} (h : vcR s x = true) (h5 : x.t = 5) : inS s x.n = true ∧ cellAt s x.n = x ∧ inS s (x.n + 2) = true ∧ vcR s (cellAt s (x.n + 2)) = true := by
 unfold vcR at h
 rw [if_neg (by omega), if_neg (by omega), if_neg (by omega), if_neg (by omega), if_pos h5] at h
 have ht : q2e s x.n = 5 := of_decide_eq_true h
 have hi : inS s x.n = true := by
  unfold q2e at ht
  split at ht
  ·assumption
  ·omega
 rw [q5c hi] at ht
 have hc := qob hv hi
 unfold q9p at hc
 rw [if_neg (by omega)] at hc
 simp only [Bool.and_eq_true, Bool.or_eq_true, Bool.not_eq_true', decide_eq_false_iff_not, decide_eq_true_eq] at hc
 obtain ⟨hn, hg⟩ : (cellAt s x.n).n = x.n ∧ qkd s x.n = true := by
  rcases hc.2.2 with q | q
  ·exact (q ht).elim
  ·exact q
 simp only [qkd, Bool.and_eq_true, decide_eq_true_eq, Bool.not_eq_true', decide_eq_false_iff_not] at hg
 have h2 : inS s (x.n + 2) = true := (tagz hv _).1 hg.2.2.2.1
 refine ⟨hi, Ce.ext' (ht.trans h5.symm) hn, h2, z6o hv h2 ?_⟩
 have := hg.2.2.2.2.1
 rwa [q5c h2] at this
theorem q8b {s : So} (hv : y9 s = true) (hc : vcR s c = true) (nm : ByteArray) : qf9 s c nm = qt0 s c nm 2 := by
 rw [Bool.eq_iff_iff, q28]
 unfold qt0
 simp only [Bool.and_eq_true, decide_eq_true_eq]
 constructor
 ·rintro ⟨h1, -, -, -, -, -, h7⟩
  exact ⟨h1, h7⟩
 ·rintro ⟨h1, h7⟩
  obtain ⟨a1, a2, a3, a4, a5, a6⟩ := qya hv hc h1
  have := (a6 1 (by rw [h7]; show (1 : Int) < 2; decide)).1
  exact ⟨h1, a1, by rw [show c.n + 2 = c.n + 1 + (1 : Nat) by omega]; exact this, a2, a3, a4, h7⟩
theorem qzl {s : So} (hv : y9 s = true) (hc : vcR s c = true) (h : qt0 s c nm 2 = true) : inS s (c.n + 1) = true ∧ vcR s (cellAt s (c.n + 1)) = true ∧ inS s (c.n + 2) = true ∧ vcR s (cellAt s (c.n + 2)) = true := by
 unfold qt0 at h
 simp only [Bool.and_eq_true, decide_eq_true_eq] at h
 obtain ⟨h1, h7⟩ := h
 obtain ⟨a1, a2, a3, a4, a5, a6⟩ := qya hv hc h1
 have b0 := a6 0 (by rw [h7]; show (0 : Int) < 2; decide)
 have b1 := a6 1 (by rw [h7]; show (1 : Int) < 2; decide)
 rw [show c.n + 1 + ((0 : Nat) : Int) = c.n + 1 by omega] at b0
 rw [show c.n + 1 + ((1 : Nat) : Int) = c.n + 2 by omega] at b1
 exact ⟨b0.1, b0.2, b1.1, b1.2⟩
theorem z9y {s : So} (hv : y9 s = true) (hc : vcR s c = true) : qdb s c = decide (c.t = 2) := by
 unfold qdb
 by_cases h : c.t = 2
 ·obtain ⟨h1, h2⟩ := z1h hv hc h
  simp [h, h1, h2]
 ·simp [h]
def qc6 (l : List At) : D := .r ((l.map At.name).map .s)
def qec (l : List At) : D := .r (l.map fun x => eC x.val)
def z5j : List D → Option (List D)
 | [s, c] => if y9 (dS s) && vcR (dS s) (dC c) then some [qc6 (yf (dS s) (dC c)), qec (yf (dS s) (dC c))] else none
 | _ => none
set_option maxHeartbeats 2000000 in
theorem qeo : FOk yt z5j := qd7 qcu qix q9k qu8 fun ds outs hw hg => by
 obtain ⟨d, r, rfl, hd, e, r', rfl, he, rfl⟩ := hw
 obtain ⟨s, rfl, hs⟩ := wfS hd
 obtain ⟨c0, rfl, hc0⟩ := wfC he
 simp only [z5j, zk, yw, Option.ite_none_right_eq_some, Option.some.injEq, Bool.and_eq_true] at hg
 obtain ⟨⟨hv, hcv⟩, rfl⟩ := hg
 have hl := qxg hv
 have hD : ∀ c, z2u [eS s, eC c] = some [eC (q35 s c)] := fun c => by
  simp only [z2u, zk, yw]
  rw [if_pos hv]
 have hF : ∀ c nm, vcR s c = true → z4v [eS s, eC c, .s nm, .i 2] = some [.b (qt0 s c nm 2)] := fun c nm hc => by
  simp only [z4v, zk, yw, hv, hc, q2s, yv, Bool.and_self, if_true]
 have hP : ∀ (l : List At) nm, qvf [qc6 l, .s nm] = some [.i (qu9 (l.map At.name) nm)] := fun l nm => by
  simp only [qvf, qc6, q6i, qi8, q2s]
 have hK : ∀ c, q4t [eC c] = some [eC (q3m c)] := fun c => by
  simp only [q4t, yw]
 rw [q2j, qa]
 refine ⟨by simp [gnZ, hD], ?_⟩
 rw [jt]
 refine ⟨fun st => ∃ (L : List At) (i : Nat) (c : Ce) (met : List ByteArray), i ≤ s.cs.length ∧ vcR s c = true ∧ st = [qc6 L, qec L, .i i, eC (q35 s c)] ∧ L ++ q7b s (s.cs.length - i) c met = yf s c0 ∧ (∀ nm, hasB met nm = true ↔ nm ∈ L.map At.name) ∧ L.length ≤ i, fun st => s.cs.length - (st.getD 2 .u).int.toNat, ⟨[], 0, c0, [], Nat.zero_le _, hcv, by simp [gnZ, hD, qc6, qec], rfl, by simp [hasB], Nat.le_refl _⟩, ?_⟩
 rintro st - ⟨L, i, c, met, hi, hc, rfl, hrest, hmet, hLi⟩
 have hcd := qhu hv hc
 have hnl : (qc6 L).rs.length = L.length := by simp [qc6, D.rs]
 have hvl : (qec L).rs.length = L.length := by simp [qec, D.rs]
 rw [qj]
 refine ⟨fun hlt => ?_, fun hlt => ?_⟩
 ·simp only [gnZ] at hlt
  have hil : i < s.cs.length := by omega
  obtain ⟨k, hk⟩ : ∃ k, s.cs.length - i = k + 1 := ⟨s.cs.length - i - 1, by omega⟩
  rw [hk] at hrest
  unfold q7b at hrest
  rw [qa]
  refine ⟨by simp [gnZ, hF _ _ hcd], ?_⟩
  rw [qj]
  have e1 := hF (q35 s c) ⟨#[46]⟩ hcd
  cases hf1 : qt0 s (q35 s c) ⟨#[46]⟩ 2 with
  | false =>
   have hnx : q42 s c = none := by
    unfold q42
    rw [derz hv, q8b hv hcd, hf1]
    rfl
   rw [hnx] at hrest
   have hrest : L ++ [] = yf s c0 := hrest
   rw [List.append_nil] at hrest
   rw [hf1] at e1
   simp only [gnZ, e1]
   simp [hrest]
  | true =>
   rw [hf1] at e1
   obtain ⟨a1, a2, a3, a4⟩ := qzl hv hcd hf1
   have p1 := z5.1 a1
   have p3 := z5.1 a3
   generalize hC : q35 s c = C at *
   have hpd := qhu hv a2
   have e2 := hF (q35 s (cellAt s (C.n + 1))) ⟨#[45]⟩ hpd
   generalize hPp : q35 s (cellAt s (C.n + 1)) = P at *
   cases hf2 : qt0 s P ⟨#[45]⟩ 2 with
   | false =>
    have hnx : q42 s c = none := by
     unfold q42
     simp only [derz hv, hC, hPp, q8b hv hcd, q8b hv hpd, hf1, hf2, if_true, Bool.false_eq_true, if_false]
    rw [hnx] at hrest
    have hrest : L ++ [] = yf s c0 := hrest
    rw [List.append_nil] at hrest
    rw [hf2] at e2
    simp only [gnZ, e1, hD, ze a1, hPp, e2]
    simp [hrest, p1]
    omega
   | true =>
    rw [hf2] at e2
    obtain ⟨b1, b2, b3, b4⟩ := qzl hv hpd hf2
    have r1 := z5.1 b1
    have r3 := z5.1 b3
    have hkd := qhu hv b2
    generalize hKk : q35 s (cellAt s (P.n + 1)) = K at *
    by_cases h2 : K.t = 2
    ·obtain ⟨n1, n2⟩ := z1h hv hkd h2
     have eg : (D.r (s.ys.map eY)).get K.n = eY (qar s K.n) := quj eY n1 n2
     have hnx : q42 s c = some ((qar s K.n).name, cellAt s (C.n + 2), cellAt s (P.n + 2)) := by
      unfold q42
      simp only [derz hv, hC, hPp, hKk, q8b hv hcd, q8b hv hpd, z9y hv hkd, hf1, hf2, h2, if_true, decide_true]
      rfl
     rw [hnx] at hrest
     simp only at hrest
     have hpn := z77 (l := L.map At.name) (nm := (qar s K.n).name)
     have hkk : s.cs.length - (i + 1) = k := by omega
     by_cases hin : hasB met (qar s K.n).name = true
     ·have hpos : ¬ qu9 (L.map At.name) (qar s K.n).name < 0 := fun h => hpn.1 h ((hmet _).1 hin)
      rw [hin] at hrest
      simp only [gnZ, e1, hD, ze a1, hPp, e2, ze b1, hKk, h2, eg, hP, hpos, ze a3]
      refine ⟨fun h => (by cases h), fun _ => ⟨⟨by omega, by omega, by omega, by omega⟩, fun h => (by cases h), fun _ => ⟨⟨by omega, by omega, by omega, by omega⟩, fun h => (by cases h), fun _ => ⟨⟨n1, n2⟩, fun h => (by cases h), fun _ => ⟨⟨by omega, by omega, by omega, by omega⟩, ⟨by omega, by omega⟩, ?_⟩⟩⟩⟩⟩
      rw [q2p, if_pos rfl]
      refine ⟨⟨L, i + 1, cellAt s (C.n + 2), (qar s K.n).name :: met, by omega, a4, by simp, by rw [hkk]; simpa using hrest, fun nm => ?_, by omega⟩, ?_⟩
      ·have h1 := hmet nm
       have h2 := (hmet (qar s K.n).name).1 hin
       have e : hasB ((qar s K.n).name :: met) nm = (decide ((qar s K.n).name = nm) || hasB met nm) := rfl
       rw [e, Bool.or_eq_true, decide_eq_true_eq, h1]
       constructor
       ·rintro (rfl | h)
        ·exact h2
        ·exact h
       ·exact .inr
      ·simp [D.int]
       omega
     ·have hpos : qu9 (L.map At.name) (qar s K.n).name < 0 := hpn.2 fun h => hin ((hmet _).2 h)
      have hin' : hasB met (qar s K.n).name = false := by simpa using hin
      rw [hin'] at hrest
      simp only [gnZ, e1, hD, ze a1, hPp, e2, ze b1, hKk, h2, eg, hP, hpos, ze a3, ze b3, hK, hnl, hvl]
      have hml : L.length + 1 ≤ 1048577 := by omega
      refine ⟨fun h => (by cases h), fun _ => ⟨⟨by omega, by omega, by omega, by omega⟩, fun h => (by cases h), fun _ => ⟨⟨by omega, by omega, by omega, by omega⟩, fun h => (by cases h), fun _ => ⟨⟨n1, n2⟩, fun _ => ⟨by omega, ⟨by omega, by omega, by omega, by omega, by omega⟩, ⟨by omega, by omega, by omega, by omega⟩, ⟨by omega, by omega⟩, ?_⟩, fun h => (by cases h)⟩⟩⟩⟩
      rw [q2p, if_pos rfl]
      refine ⟨⟨L ++ [⟨(qar s K.n).name, q3m (q1o s (cellAt s (P.n + 2)))⟩], i + 1, cellAt s (C.n + 2), (qar s K.n).name :: met, by omega, a4, ?_, ?_, fun nm => ?_, by simp; omega⟩, ?_⟩
      ·rw [derz hv]
       simp [qc6, qec, D.rs]
      ·rw [hkk]
       simpa using hrest
      ·have h1 := hmet nm
       have e : hasB ((qar s K.n).name :: met) nm = (decide ((qar s K.n).name = nm) || hasB met nm) := rfl
       rw [e, Bool.or_eq_true, decide_eq_true_eq, h1, List.map_append, List.mem_append]
       constructor
       ·rintro (rfl | h)
        ·exact .inr (by simp)
        ·exact .inl h
       ·rintro (h | h)
        ·exact .inr h
        ·exact .inl (by simp at h; exact h.symm)
      ·simp [D.int]
       omega
    ·have hnx : q42 s c = none := by
      unfold q42
      simp only [derz hv, hC, hPp, hKk, q8b hv hcd, q8b hv hpd, z9y hv hkd, hf1, hf2, h2, if_true, decide_false, Bool.false_eq_true, if_false]
     rw [hnx] at hrest
     have hrest : L ++ [] = yf s c0 := hrest
     rw [List.append_nil] at hrest
     simp only [gnZ, e1, hD, ze a1, hPp, e2, ze b1, hKk, h2]
     simp [hrest, p1, r1]
     omega
 ·simp only [gnZ] at hlt ⊢
  have : i = s.cs.length := by omega
  subst this
  rw [Nat.sub_self] at hrest
  have hrest : L ++ [] = yf s c0 := hrest
  rw [List.append_nil] at hrest
  simp [hrest]
def z5r : List D → Option (List D)
 | [s, c] => if y9 (dS s) then some [eC (q35 (dS s) (dC c)), .b (vcR (dS s) (dC c) && (decide ((q35 (dS s) (dC c)).t = 0) || decide ((q35 (dS s) (dC c)).t = 5)))] else none
 | _ => none
theorem qfp : FOk jd z5r := qfx qcu q1n fun ds outs hw hg => by
 obtain ⟨d, r, rfl, hd, e, r', rfl, he, rfl⟩ := hw
 obtain ⟨s, rfl, hs⟩ := wfS hd
 obtain ⟨c, rfl, hc⟩ := wfC he
 simp only [z5r, zk, yw, Option.ite_none_right_eq_some, Option.some.injEq] at hg
 obtain ⟨hv, rfl⟩ := hg
 simp [q3x, gnZ, z2u, qb8, hv]
theorem varz {s : So} (hv : y9 s = true) (v : Ce) : q50 s v = if vcR s v && (decide ((q35 s v).t = 0) || decide ((q35 s v).t = 5)) then (q35 s v, true) else (⟨0, 0⟩, false) := by
 unfold q50
 rw [zne hv, derz hv]
 cases hc : vcR s v with
 | false => rfl
 | true =>
  have hd := qhu hv hc
  simp only [if_true, Bool.true_and]
  by_cases h0 : (q35 s v).t = 0
  ·simp [h0, (qxu hd h0).1]
  ·by_cases h5 : (q35 s v).t = 5
   ·obtain ⟨a1, -, a3, -⟩ := qus hv hd h5
    simp [h0, h5, a1, a3]
   ·simp [h0, h5]
def qa6 (s : So) (v : Ce) : List At := if (q50 s v).2 then qbj s (q50 s v).1 else []
def qv2 : List D → Option (List D)
 | [s, v] => if y9 (dS s) then some [qc6 (qa6 (dS s) (dC v)), qec (qa6 (dS s) (dC v))] else none
 | _ => none
theorem qf7 : FOk jh qv2 := qrt qfp qeo fun ds outs hw hg => by
 obtain ⟨d, r, rfl, hd, e, r', rfl, he, rfl⟩ := hw
 obtain ⟨s, rfl, hs⟩ := wfS hd
 obtain ⟨v, rfl, hc⟩ := wfC he
 simp only [qv2, zk, yw, Option.ite_none_right_eq_some, Option.some.injEq] at hg
 obtain ⟨hv, rfl⟩ := hg
 have hV : z5r [eS s, eC v] = some [eC (q35 s v), .b (vcR s v && (decide ((q35 s v).t = 0) || decide ((q35 s v).t = 5)))] := by
  simp only [z5r, zk, yw, hv, if_true]
 simp only [q7k, gnZ, hV, qa6, varz hv]
 cases hc : vcR s v with
 | false => simp [qc6, qec]
 | true =>
  have hd := qhu hv hc
  by_cases h5 : (q35 s v).t = 5
  ·obtain ⟨a1, a2, a3, a4⟩ := qus hv hd h5
   have p3 := z5.1 a3
   have hA : z5j [eS s, eC (cellAt s ((q35 s v).n + 2))] = some [qc6 (yf s (cellAt s ((q35 s v).n + 2))), qec (yf s (cellAt s ((q35 s v).n + 2)))] := by
    simp only [z5j, zk, yw, hv, a4, Bool.and_self, if_true]
   simp only [h5, ze a3, hA, qbj]
   have hl := qxg hv
   simp [h5, p3]
   omega
  ·by_cases h0 : (q35 s v).t = 0
   ·simp [h0, qbj, qc6, qec]
   ·simp [h0, h5, qbj, qc6, qec]
def qwf : List D → Option (List D)
 | [s, v, nm] => if y9 (dS s) then some [eC (qqm (dS s) (dC v) nm.str).1, .b (qqm (dS s) (dC v) nm.str).2] else none
 | _ => none
theorem qyh : FOk q1y qwf := qta qf7 q9k fun ds outs hw hg => by
 obtain ⟨d, r, rfl, hd, e, r', rfl, he, f, r2, rfl, hf, rfl⟩ := hw
 obtain ⟨s, rfl, hs⟩ := wfS hd
 obtain ⟨v, rfl, hc⟩ := wfC he
 obtain ⟨nm, rfl, hn⟩ := hf.str
 simp only [qwf, zk, yw, q2s, Option.ite_none_right_eq_some, Option.some.injEq] at hg
 obtain ⟨hv, rfl⟩ := hg
 have hM : qv2 [eS s, eC v] = some [qc6 (qa6 s v), qec (qa6 s v)] := by
  simp only [qv2, zk, yw, hv, if_true]
 have hP : qvf [qc6 (qa6 s v), .s nm] = some [.i (qay (qa6 s v) nm)] := by
  simp only [qvf, qc6, q6i, qi8, q2s, zjv]
 have hG : qqm s v nm = zf4 (qa6 s v) nm := by
  unfold qqm qa6
  split
  ·rfl
  ·rfl
 have ez : D.a [.i 0, .i 0] = eC ⟨0, 0⟩ := rfl
 simp only [q8u, gnZ, hM, hP, hG, zf4, ez]
 by_cases hp : qay (qa6 s v) nm < 0
 ·simp [hp]
 ·obtain ⟨h1, h2⟩ := z5h hp
  have eg : (qec (qa6 s v)).get (qay (qa6 s v) nm) = eC ((qa6 s v).getD (qay (qa6 s v) nm).toNat default).val := quj (fun x : At => eC x.val) h1 h2
  have el : (qec (qa6 s v)).rs.length = (qa6 s v).length := by simp [qec, D.rs]
  simp [hp, h1, h2, eg, el]
def qw9 : List D → Option (List D)
 | [s, v] => if y9 (dS s) then some [.r ((qfu (dS s) (dC v)).map .s)] else none
 | _ => none
theorem qps : FOk q0i qw9 := qn6 qf7 fun ds outs hw hg => by
 obtain ⟨d, r, rfl, hd, e, r', rfl, he, rfl⟩ := hw
 obtain ⟨s, rfl, hs⟩ := wfS hd
 obtain ⟨v, rfl, hc⟩ := wfC he
 simp only [qw9, zk, yw, Option.ite_none_right_eq_some, Option.some.injEq] at hg
 obtain ⟨hv, rfl⟩ := hg
 have hM : qv2 [eS s, eC v] = some [qc6 (qa6 s v), qec (qa6 s v)] := by
  simp only [qv2, zk, yw, hv, if_true]
 have hG : qfu s v = (qa6 s v).map At.name := by
  unfold qfu qa6
  split <;> rfl
 simp only [q5q, gnZ, hM, hG, qc6]
end
def q1h : Ct := ⟨25, [], [(.st 26, true), (.st 28, false), (.bool, false)], [], none, [], []⟩
theorem qed : EnZ q1h := fun _ _ => by kernel_rfl
def qih : Ann := ⟨[0, 1, 2, 3, 4, 5, 6, 7], []⟩
def q4f : Tree := (.need [(.ok 0 [(.lit (.i 100))])] (.need [(.ok 1 [(.call 0 0 [(.lit (.i 100))])])] (.need [(.ok 3 [(.call 1 2 [(.call 0 0 [(.lit (.i 100))])]), (.call 1 0 [(.call 0 0 [(.lit (.i 100))])]), (.lit (.s ⟨#[97]⟩)), (.call 2 0 [(.lit (.i 1))])]), (.ok 2 [(.lit (.i 1))])] (.leaf [(.call 3 1 [(.call 1 2 [(.call 0 0 [(.lit (.i 100))])]), (.call 1 0 [(.call 0 0 [(.lit (.i 100))])]), (.lit (.s ⟨#[97]⟩)), (.call 2 0 [(.lit (.i 1))])]), (.call 1 0 [(.call 0 0 [(.lit (.i 100))])]), (.and (.and (.eq (.call 0 1 [(.lit (.i 100))]) (.lit (.i 0))) (.eq (.call 1 1 [(.call 0 0 [(.lit (.i 100))])]) (.lit (.i 0)))) (.eq (.call 3 0 [(.call 1 2 [(.call 0 0 [(.lit (.i 100))])]), (.call 1 0 [(.call 0 0 [(.lit (.i 100))])]), (.lit (.s ⟨#[97]⟩)), (.call 2 0 [(.lit (.i 1))])]) (.lit (.i 0))))]))))
theorem qgo (g0 g1 g2 g3 : GfZ) : CdZ [(q0s, g0), (qz, g1), (q06, g2), (q19, g3)] qih q1h Tryz.f25 q4f := fun cd h => by injection h with h; subst h; kernel_rfl
theorem qh6 {g0 g1 g2 g3 g : GfZ} (h0 : FOk q0s g0) (h1 : FOk qz g1) (h2 : FOk q06 g2) (h3 : FOk q19 g3) (h : HgZ q4f q1h [(q0s, g0), (qz, g1), (q06, g2), (q19, g3)] g) : FOk q1h g := yh (qgo g0 g1 g2 g3) (.cons h0 (.cons h1 (.cons h2 (.cons h3 .nil)))) rfl rfl qed (by decide) h
def q29 : Ct := ⟨8, [], [(.bool, false)], [], none, [], []⟩
theorem qhy : EnZ q29 := fun _ _ => by kernel_rfl
def qbp : Ann := ⟨[0, 1, 2, 3, 4, 5, 6, 7, 8, 9, 48, 59], []⟩
section
namespace Dl
open Go.RowKit Go.Shelf
attribute [local go_sem] Oper.semAt_some
theorem z7g (w : World) {o : Oper} (hgd : o.guard = none) (s x : Operand) (t t' : TypeId)
  (ho : o.op = .call { callee := .builtin .append, args := #[s, x], argTypes := #[t, t'] }) (v u : Value) (hs : a.eval s = v) (hx : a.eval x = u) {v' : Value} {w' : World}
  (hr : (Builtin.append_ #[t, t'] o.type #[v, u]).run Tryz.prog w = .ok v' w') (h : wpList Tryz.prog ops Q rest (a.put o.dst v') w') : wpList Tryz.prog ops Q (o :: rest) a w :=
 wpList_plain hgd fun _ hK => by
  unfold Oper.wp execOp
  simp only [ho, resolve, invoke, builtin, Sem.run_bind, Sem.run_pure, Result.andThen_ok, List.map_toArray, List.map_cons, List.map_nil, hs, hx, hr]
  exact hK _ _ h
theorem zfj (w : World) (b cap n i : Nat) (hi : i < n) (hcap : n ≤ cap) (hc63 : cap ≤ 9223372036854775807) (w1 w2 : World)
  (happ : ∀ o : Addr, o.block = b → (i + 1 < n → o = ⟨b, (i + 1) * 3, none⟩) → (Builtin.append_ #[62, 62] 62 #[.slice (some ⟨b, 0, none⟩) i cap, .slice (some o) (n - (i + 1)) (cap - (i + 1))]).run Tryz.prog w.drew = .ok (.slice (some ⟨b, 0, none⟩) (n - 1) cap) w1)
  (hclr : (Builtin.clear_ #[62] 0 #[.slice (some ⟨b, (n - 1) * 3, none⟩) 1 (cap - (n - 1))]).run Tryz.prog w1 = .ok (.tuple #[]) w2) : Calls Tryz.prog 46 #[.slice (some ⟨b, 0, none⟩) n cap, .int .i64 (i : Nat), .int .i64 ((i : Nat) + 1)] w fun e w' => e = .returned (.slice (some ⟨b, 0, none⟩) (n - 1) cap) ∧ w' = w2 := by
 have hne : ¬ ((i : Int) = (i : Int) + 1) := by omega
 have h1 : i ≤ cap := by omega
 have h2 : i + 1 ≤ n := by omega
 have h3 : i + 1 ≤ cap := by omega
 have h4 : (0 : Int) ≤ (i : Int) + 1 ∧ (i : Int) + 1 ≤ (n : Int) := by omega
 go_enter Tryz.func46, Tryz.ntmps46
 go_wp2_with fail
 go_still_tail 6, (by kernel_rfl)
 change wpList _ _ _ _ _ w.drew
 obtain ⟨o, ho⟩ : ∃ o : Addr, (if cap = i + 1 then some (⟨b, 0, none⟩ : Addr) else some ⟨b, (i + 1) * 3, none⟩) = some o := by
  by_cases e : cap = i + 1
  ·exact ⟨_, if_pos e⟩
  ·exact ⟨_, if_neg e⟩
 have ho1 : o.block = b := by
  split at ho <;> (injection ho with ho; subst ho; rfl)
 have ho2 : i + 1 < n → o = ⟨b, (i + 1) * 3, none⟩ := fun h => by
  rw [if_neg (by omega)] at ho
  injection ho with ho
  exact ho.symm
 rw [ho]
 have ha := happ o ho1 ho2
 refine z7g _ rfl _ _ _ _ rfl _ _ rfl rfl ha ?_
 have k1 : n - 1 ≤ n := by omega
 have k2 : n ≤ cap := hcap
 have k3 : ((n - 1 : Nat) : Int) ≤ (n : Int) := by omega
 have k4 : n - (n - 1) = 1 := by omega
 have k5 : ¬ cap = n - 1 := by omega
 go_wp2_with fail
 exact bodyPost_ret (v := .slice (some ⟨b, 0, none⟩) (n - 1) cap) (by simp [results, Tryz.results46, go_sem]) rfl ⟨rfl, rfl⟩
end Dl
end
section
namespace Dl
open Go.RowKit Go.Shelf
abbrev tAt : TypeId := 66
abbrev qzh : TypeId := 62
theorem wA : (Ty.st aS).w = 3 := by kernel_rfl
def flT (a : At) : List Value := [.string a.name, .int .i64 a.val.t, .int .i64 a.val.n]
def rwA (l : List At) : List Value := l.flatMap flT
theorem qas (l : List At) : (rwA l).length = l.length * 3 := by
 induction l with
 | nil => rfl
 | cons x l ih => simp [rwA, flT] at ih ⊢; omega
theorem qwu (l m : List At) : rwA (l ++ m) = rwA l ++ rwA m := List.flatMap_append
theorem qzy (x : At) (l : List At) : rwA (x :: l) = flT x ++ rwA l := rfl
theorem zg5 {l : List At} : ∀ v ∈ rwA l, v.oneCell' = true := fun v hv => by
 obtain ⟨x, -, hx⟩ := List.mem_flatMap.1 hv
 simp only [flT, List.mem_cons, List.not_mem_nil, or_false] at hx
 rcases hx with rfl | rfl | rfl <;> rfl
theorem znf {x : At} (h : x.ok) (w : World) (F : Nat → Prop) : Rd w F (eA x) (.st aS) (flT x) :=
 ⟨_, _, rfl, flA, .str, [qn], [.string x.name], ceL x.val, rfl, rfl, ⟨rfl, rfl, h.1⟩, qn, [], ceL x.val, [], rfl, by simp, qvt h.2, rfl, rfl⟩
theorem zjk {w : World} (h : Rd w F d (.st aS) cs) : ∃ x : At, x.ok ∧ d = eA x ∧ cs = flT x := by
 obtain ⟨l, rfl, hF⟩ := Ins.of_rdS flA h
 obtain ⟨d1, l1, c1, c2, rfl, rfl, h1, hG⟩ := Ins.of_rdF hF
 obtain ⟨d2, l2, c3, c4, rfl, rfl, h2, hH⟩ := Ins.of_rdF hG
 obtain ⟨rfl, rfl⟩ := Ins.of_rdN hH
 obtain ⟨x, ha, hx⟩ := wfA ⟨w, F, _, h⟩
 obtain ⟨n, v⟩ := x
 have e := congrArg D.fs ha
 simp only [eA, D.fs, List.cons.injEq, and_true] at e
 obtain ⟨rfl, rfl⟩ := e
 obtain rfl := quu h2
 obtain ⟨-, rfl, -⟩ := h1
 exact ⟨⟨n, v⟩, hx, rfl, rfl⟩
theorem qw3 {w : World} {b o : Nat} (hc : w.heap[b]? = some (.cells cur T (0, 0))) : ∀ {rs : List D} {i : Nat}, RdE w F rs (.st aS) (some ⟨b, o, none⟩) i → ∃ L : List At, rs = L.map eA ∧ (∀ x ∈ L, x.ok) ∧ cur.toList.drop (o + i * 3) = rwA L ++ cur.toList.drop (o + (i + rs.length) * 3)
 | [], i, _ => ⟨[], rfl, fun x hx => (by cases hx), by simp [rwA]⟩
 | d :: rs, i, ⟨⟨b', o', cs, e, hF, hr, hd⟩, h⟩ => by
  injection e with e
  injection e with e1 e2
  subst e1 e2
  obtain ⟨x, hx, rfl, rfl⟩ := zjk hd
  obtain ⟨L, rfl, hL, hdr⟩ := qw3 hc h
  rw [wA] at hr
  refine ⟨x :: L, rfl, fun y hy => (List.mem_cons.1 hy).elim (fun e => e ▸ hx) (hL y), ?_⟩
  have := Ins.range_drop3 hc hr
  rw [this, show o + i * 3 + 3 = o + (i + 1) * 3 by omega, hdr, show i + 1 + (L.map eA).length = i + (eA x :: L.map eA).length by simp; omega]
  rfl
theorem z83 {w : World} {l : List D} (h : q21 A p w dep pin tAt (.st aS) l v) (h0 : 0 < l.length) :
  ∃ g cap L post, v = .slice (some ⟨g, 0, none⟩) l.length cap ∧ p pin = some g ∧ l = L.map eA ∧ (∀ x ∈ L, x.ok) ∧ w.heap[g]? = some (.cells (rwA L ++ post).toArray tAt (0, 0)) ∧ l.length ≤ cap ∧ cap ≤ maxLen ∧ post.length = (cap - l.length) * 3 := by
 rcases h with ⟨-, rfl⟩ | ⟨g, cap, cur, rfl, hg, hh, h1, h2, h3, h4, h5⟩
 ·simp at h0
 ·obtain ⟨L, hL, hok, hdr⟩ := qw3 (F := FFD A p (pin :: dep)) (o := 0) hh (rs := l) (i := 0) (q0n.2 fun j hj => by
   obtain ⟨cs, hr, hx⟩ := h5 j hj
   exact ⟨g, 0, cs, rfl, .inr ⟨pin, by simp, hg⟩, by simpa using hr, hx.mono fun b _ hb => hb.mono fun x hx => List.mem_cons_of_mem _ hx⟩)
  have hl := qas L
  have hll : l.length = L.length := by rw [hL, List.length_map]
  simp only [Nat.zero_mul, Nat.zero_add, List.drop_zero] at hdr
  rw [wA] at h3
  have hcl := congrArg List.length hdr
  rw [List.length_append, List.length_drop, Array.length_toList] at hcl
  refine ⟨g, cap, L, cur.toList.drop (l.length * 3), rfl, hg, hL, hok, ?_, h1, h2, ?_⟩
  ·rw [← hdr]
   exact hh
  ·rw [List.length_drop, Array.length_toList]
   omega
theorem z6g : ∀ {l : List At} {i : Nat} (h : i < l.length) {j : Nat} {v : Value}, (flT l[i])[j]? = some v → (rwA l)[i * 3 + j]? = some v
 | x :: l, 0, _, j, v, hj => by
  rw [Nat.zero_mul, Nat.zero_add, qzy]
  exact List.getElem?_append_left (by have := (List.getElem?_eq_some_iff.1 hj).1; exact this) ▸ hj
 | x :: l, i + 1, h, j, v, hj => by
  have := z6g (l := l) (i := i) (by simpa using h) (j := j) (v := v) (by simpa using hj)
  rw [qzy, show (i + 1) * 3 + j = i * 3 + j + 3 by omega]
  exact this
theorem quz {w : World} {b k : Nat} (h : w.heap[b]? = some (.cells cs.toArray T (0, 0))) (hv : cs[k]? = some v) : w.cell? ⟨b, k, none⟩ = some v := by
 have := cell_of_row w b k _ T (0, 0) h
 rw [this]
 simpa using hv
theorem zgc {w : World} {g cap : Nat} {M : List At} {post : List Value} (hp : p pin = some g) (hM : ∀ x ∈ M, x.ok) (hh : w.heap[g]? = some (.cells (rwA M ++ post).toArray tAt (0, 0))) (h1 : M.length ≤ cap) (h2 : cap ≤ maxLen) (h3 : post.length = (cap - M.length) * 3) (h4 : M.length ≤ 4398046510976) :
  q21 A p w [] pin tAt (.st aS) (M.map eA) (.slice (some ⟨g, 0, none⟩) M.length cap) := by
 have hl := qas M
 refine .inr ⟨g, cap, _, by rw [List.length_map], hp, hh, by rw [List.length_map]; exact h1, h2, by rw [List.size_toArray, List.length_append, wA]; omega, by rw [List.length_map, lmA]; exact h4, fun i hi => ?_⟩
 have hi' : i < M.length := by simpa using hi
 refine ⟨flT M[i], fun j v hj => ?_, by simpa using znf (hM _ (List.getElem_mem hi')) _ _⟩
 rw [wA]
 have := z6g hi' hj
 exact quz hh (List.getElem?_append_left (by have := (List.getElem?_eq_some_iff.1 this).1; exact this) ▸ this)
theorem za1 : Tryz.prog.underlying qzh = some (.slice tAt) := by kernel_rfl
theorem zgr : (Tryz.prog.info? tAt).map (fun i => i.size) = some 3 := by kernel_rfl
theorem zdc (w : World) : (zeroValue tAt).run Tryz.prog w = .ok (.agg #[.string ⟨#[]⟩, .int .i64 0, .int .i64 0]) w := by kernel_rfl
theorem z3e (w : World) (g i m cap mc : Nat) (a : Addr) (cur : Array Value) (t : TypeId) (cs : List Value)
  (hg : w.heap[g]? = some (.cells cur t (0, 0))) (hl : cs.length = m * 3) (hsrc : ∀ j v, cs[j]? = some v → w.cell? (a.add j) = some v) (hroom : i + m ≤ cap) (hfit : i * 3 + cs.length ≤ cur.size) (h1 : ∀ v ∈ cs, v.oneCell' = true) :
  (Builtin.append_ #[qzh, qzh] qzh #[.slice (some ⟨g, 0, none⟩) i cap, .slice (some a) m mc]).run Tryz.prog w =
   .ok (.slice (some ⟨g, 0, none⟩) (i + m) cap) (w.setRow g (cur.toList.take (i * 3) ++ cs ++ cur.toList.drop (i * 3 + cs.length)).toArray) := by
 have hld := run_loadCells_list (P := Tryz.prog) w a cs hsrc
 have hst := run_storeCells_at Tryz.prog g (i * 3) t cs 0 cur w hg (by simpa using hfit) h1
 obtain ⟨ti, hi, e⟩ := Option.map_eq_some_iff.1 zgr
 have e : ti.size = 3 := e
 rw [hl] at hld
 simp [Builtin.append_, run_underlying za1, Builtin.lenOf, Builtin.firstCells, sizeOf, typeInfo, hi, e, hroom, hld, hst, Addr.add_lit]
def zAt : List Value := [.string ⟨#[]⟩, .int .i64 0, .int .i64 0]
theorem z2j (w : World) (g q c : Nat) (cur : Array Value) (t : TypeId) (hg : w.heap[g]? = some (.cells cur t (0, 0))) (hfit : q + 3 ≤ cur.size) :
  (Builtin.clear_ #[qzh] 0 #[.slice (some ⟨g, q, none⟩) 1 c]).run Tryz.prog w = .ok (.tuple #[]) (w.setRow g (cur.toList.take q ++ zAt ++ cur.toList.drop (q + 3)).toArray) := by
 have hst := run_storeCells_at Tryz.prog g q t zAt 0 cur w hg (by simpa [zAt] using hfit) (fun v hv => by
  simp only [zAt, List.mem_cons, List.not_mem_nil, or_false] at hv
  rcases hv with rfl | rfl | rfl <;> rfl)
 have hz : (Builtin.zeroCells #[.string ⟨#[]⟩, .int .i64 0, .int .i64 0] 1).toList = zAt := by kernel_rfl
 have hl : zAt.length = 3 := rfl
 rw [hl] at hst
 simp only [Nat.add_zero] at hst
 simp only [Builtin.clear_, List.getElem?_toArray, List.getElem?_cons_zero, Sem.run_bind, run_underlying za1, Result.andThen_ok, zdc, Value.cells, hz, hst, Sem.run_pure]
end Dl
end
section
open Go.RowKit Go.Shelf
open Dl
def zi2 : List D → Option (List D)
 | [l, i, j] => if 0 ≤ i.int ∧ i.int < l.rs.length ∧ j.int = i.int + 1 then some [.r (l.rs.take i.int.toNat ++ l.rs.drop (i.int.toNat + 1))] else none
 | _ => none
theorem zdp {w : World} (h : Con A p w d (.row tAt) [(0, pin)] [] cs) : ∃ l v, d = .r l ∧ cs = [v] ∧ q21 A p w [] pin tAt (.st aS) l v := by
 rcases h with ⟨E, te, l, v, e, hte, rfl, rfl, h⟩ | ⟨K, V, kt, vt, l, g, es, clock, e, -⟩
 ·injection e with e
  subst e
  obtain rfl := Option.some.inj (hte.symm.trans tyA)
  exact ⟨l, v, rfl, rfl, h⟩
 ·cases e
set_option maxHeartbeats 1000000 in
theorem q8e : FOk yj zi2 := FOk.of_at q6w fun ds outs hw hg => by
 obtain ⟨d, r, rfl, hd, e, r', rfl, he, e2, r2, rfl, he2, hw⟩ := hw
 obtain rfl : r2 = [] := hw
 obtain ⟨l, te, rfl, hte, hl, -⟩ := hd.row
 obtain ⟨n, rfl, hn⟩ := wfI he
 obtain ⟨m, rfl, hm⟩ := wfI he2
 have hg' : (if 0 ≤ n ∧ n < l.length ∧ m = n + 1 then some [D.r (l.take n.toNat ++ l.drop (n.toNat + 1))] else none) = some outs := hg
 split at hg'
 case isFalse => cases hg'
 rename_i hc
 obtain ⟨h1, h2, rfl⟩ := hc
 injection hg' with hg'
 subst hg'
 clear hg
 intro A F p w vs us hfl hfo hpre hvl hargs
 have hF0 : ∀ te, F.mx te = 0 := fun te => hfl.zero rfl te
 obtain ⟨v0, r0, d0, ds0, e0, e00, ⟨cs0, hpk0, hc0⟩, v1, r1, d1, ds1, e1, e11, ⟨cs1, hpk1, hc1⟩, v2, r2, d2, ds2, e2', e22, ⟨cs2, hpk2, hc2⟩, hr⟩ := hargs
 obtain rfl : r2 = [] := hr.1
 subst e1 e2'
 obtain ⟨rfl, rfl⟩ := List.cons.inj e00
 obtain ⟨rfl, rfl⟩ := List.cons.inj e11
 obtain ⟨rfl, -⟩ := List.cons.inj e22
 clear e00 e11 e22 hr
 obtain ⟨rfl, rfl⟩ : vs = [v0, v1, v2] ∧ us = [] := by
  have hl3 : vs.length = 3 := hvl
  have hus : us.length = 0 := by
   have := congrArg List.length e0
   simp at this
   omega
  obtain rfl := List.length_eq_zero_iff.1 hus
  exact ⟨by simpa using e0, rfl⟩
 clear e0
 have hc0 : Con A p w (D.r l) (.row tAt) [(0, 1)] [] cs0 := hc0
 obtain ⟨l', u0, q0, rfl, ho0⟩ := zdp hc0
 injection q0 with q0
 subst q0
 obtain rfl : u0 = v0 := (List.cons.inj hpk0).1
 obtain ⟨n', -, e, rfl⟩ := Ins.of_rdI hc1
 injection e with e
 subst e
 obtain rfl : Value.int .i64 n = v1 := (List.cons.inj hpk1).1
 obtain ⟨n', -, e, rfl⟩ := Ins.of_rdI hc2
 injection e with e
 subst e
 obtain rfl : Value.int .i64 (n + 1) = v2 := (List.cons.inj hpk2).1
 obtain ⟨g, cap, L, post, rfl, hpg, hL, hLo, hg, hcap, hcm, hpost⟩ := z83 ho0 (by omega)
 have hLl : l.length = L.length := by rw [hL, List.length_map]
 obtain ⟨i, rfl⟩ : ∃ i : Nat, n = i := ⟨n.toNat, by omega⟩
 have hi : i < L.length := by omega
 have hlm : cap ≤ 9223372036854775807 := by unfold maxLen at hcm; omega
 have hout : l.take (i : Int).toNat ++ l.drop ((i : Int).toNat + 1) = (L.take i ++ L.drop (i + 1)).map eA := by
  rw [hL, Int.toNat_natCast]
  simp
 have hNo : ∀ y ∈ L.take i ++ L.drop (i + 1), y.ok := fun y hy => by
  rcases List.mem_append.1 hy with h | h
  ·exact hLo y (List.mem_of_mem_take h)
  ·exact hLo y (List.mem_of_mem_drop h)
 have hNl : (L.take i ++ L.drop (i + 1)).length = L.length - 1 := by simp; omega
 have hlL := qas L
 have hlD := qas (L.drop (i + 1))
 have hlN := qas (L.take i ++ L.drop (i + 1))
 have hlT := qas (L.take i)
 rw [List.length_drop] at hlD
 rw [List.length_take, Nat.min_eq_left (by omega)] at hlT
 rw [hNl] at hlN
 have hsp : rwA L = rwA (L.take i) ++ rwA (L.drop i) := by rw [← qwu, List.take_append_drop]
 have hsp2 : rwA L = rwA (L.take (i + 1)) ++ rwA (L.drop (i + 1)) := by rw [← qwu, List.take_append_drop]
 have hlT2 := qas (L.take (i + 1))
 rw [List.length_take, Nat.min_eq_left (by omega)] at hlT2
 have hgd : w.drew.heap[g]? = some (.cells (rwA L ++ post).toArray tAt (0, 0)) := hg
 -- the cells behind the append
 have hc1' : ((rwA L ++ post).take (i * 3) ++ rwA (L.drop (i + 1)) ++ (rwA L ++ post).drop (i * 3 + (rwA (L.drop (i + 1))).length)) = rwA (L.take i ++ L.drop (i + 1)) ++ (rwA L ++ post).drop ((L.length - 1) * 3) := by
  rw [qwu, hlD]
  congr 1
  ·congr 1
   rw [hsp, List.append_assoc, ← hlT, List.take_left]
  ·congr 1
   omega
 have hsz : (rwA L ++ post).length = cap * 3 := by rw [List.length_append, hlL, hpost, hLl]; omega
 have happ : ∀ o : Addr, o.block = g → (i + 1 < L.length → o = ⟨g, (i + 1) * 3, none⟩) → (Builtin.append_ #[qzh, qzh] qzh #[.slice (some ⟨g, 0, none⟩) i cap, .slice (some o) (L.length - (i + 1)) (cap - (i + 1))]).run Tryz.prog w.drew = .ok (.slice (some ⟨g, 0, none⟩) (L.length - 1) cap) (w.drew.setRow g (rwA (L.take i ++ L.drop (i + 1)) ++ (rwA L ++ post).drop ((L.length - 1) * 3)).toArray) := fun o ho1 ho2 => by
  have := z3e w.drew g i (L.length - (i + 1)) cap (cap - (i + 1)) o (rwA L ++ post).toArray tAt (rwA (L.drop (i + 1))) hgd hlD (fun j v hj => ?_) (by omega) (by rw [hlD]; simp only [List.size_toArray, hsz]; omega) zg5
  ·rw [this, show i + (L.length - (i + 1)) = L.length - 1 by omega]
   rw [← hc1']
  ·have hj' := (List.getElem?_eq_some_iff.1 hj).1
   rw [hlD] at hj'
   rw [ho2 (by omega)]
   rw [Addr.add_lit]
   refine quz hgd ?_
   rw [List.getElem?_append_left (by rw [hlL]; omega), hsp2, List.getElem?_append_right (by omega), hlT2, show (i + 1) * 3 + j - (i + 1) * 3 = j by omega]
   exact hj
 have hg1 := setRow_heap w.drew g _ (rwA (L.take i ++ L.drop (i + 1)) ++ (rwA L ++ post).drop ((L.length - 1) * 3)).toArray tAt (0, 0) hgd
 have hclr := z2j (w.drew.setRow g (rwA (L.take i ++ L.drop (i + 1)) ++ (rwA L ++ post).drop ((L.length - 1) * 3)).toArray) g ((L.length - 1) * 3) (cap - (L.length - 1)) _ tAt hg1 (by simp only [List.size_toArray, List.length_append, hlN, List.length_drop]; simp only [List.length_append] at hsz; omega)
 have hc2' : ((rwA (L.take i ++ L.drop (i + 1)) ++ (rwA L ++ post).drop ((L.length - 1) * 3)).toArray.toList.take ((L.length - 1) * 3) ++ zAt ++ (rwA (L.take i ++ L.drop (i + 1)) ++ (rwA L ++ post).drop ((L.length - 1) * 3)).toArray.toList.drop ((L.length - 1) * 3 + 3)) = rwA (L.take i ++ L.drop (i + 1)) ++ (zAt ++ post) := by
  show ((rwA (L.take i ++ L.drop (i + 1)) ++ (rwA L ++ post).drop ((L.length - 1) * 3)).take ((L.length - 1) * 3) ++ zAt ++ (rwA (L.take i ++ L.drop (i + 1)) ++ (rwA L ++ post).drop ((L.length - 1) * 3)).drop ((L.length - 1) * 3 + 3)) = _
  rw [← hlN, List.take_left, List.append_assoc]
  congr 2
  rw [List.drop_append, List.drop_eq_nil_of_le (by omega), List.nil_append, List.drop_drop, hlN, show (L.length - 1) * 3 + ((L.length - 1) * 3 + 3 - (L.length - 1) * 3) = (rwA L).length by rw [hlL]; omega, List.drop_left]
 rw [hc2', setRow_setRow] at hclr
 rw [show (List.length l) = L.length from hLl]
 refine Calls.mono (zfj w g cap L.length i hi (by omega) hlm _ _ happ hclr) ?_
 rintro e w' ⟨rfl, rfl⟩
 have hbut : But (pinned p) w (w.drew.setRow g (rwA (L.take i ++ L.drop (i + 1)) ++ (zAt ++ post)).toArray) := q5s (But.refl (pinned p) w).drew (.inl ⟨_, hpg⟩) _
 have hh := setRow_heap w.drew g _ (rwA (L.take i ++ L.drop (i + 1)) ++ (zAt ++ post)).toArray tAt (0, 0) hgd
 have hp' : ∀ y b, (fun y => if y = 49 then some g else none : qm) y = some b → y = 49 ∧ b = g := fun y b h => by
  by_cases hy : y = 49
  ·subst hy
   exact ⟨rfl, (Option.some.inj h).symm⟩
  ·simp [hy] at h
 refine .inr ⟨[.slice (some ⟨g, 0, none⟩) (L.length - 1) cap], fun y => if y = 49 then some g else none, rfl, ⟨?_, ?_, hbut, ?_, hpre.new, ?_, ?_, Flo.of0 hF0 hfo⟩, ?_, rfl⟩
 ·intro y z b h1 h2
  rw [(hp' y b h1).1, (hp' z b h2).1]
 ·intro y b h
  rw [(hp' y b h).2]
  exact qu hh
 ·intro y b h
  rw [(hp' y b h).2]
  exact .inl ⟨_, hpg⟩
 ·intro y b h
  rw [(hp' y b h).2]
  exact hpre.pa _ _ hpg
 ·intro y b h
  rw [(hp' y b h).2]
  exact .inl ⟨_, _, hh⟩
 ·refine ⟨_, _, _, _, rfl, rfl, ⟨[.slice (some ⟨g, 0, none⟩) (L.length - 1) cap], rfl, ?_⟩, rfl⟩
  refine .inl ⟨tAt, .st aS, _, _, rfl, tyA, rfl, rfl, ?_⟩
  rw [hout, ← hNl]
  refine zgc rfl hNo hh (by rw [hNl]; omega) hcm (by rw [hNl, List.length_append, hpost]; show 3 + _ = _; omega) ?_
  rw [hNl]
  have := hl
  obtain rfl := Option.some.inj (hte.symm.trans tyA)
  rw [lmA] at hl
  omega
end
def qqq : List D → Option (List D) := q8h [] 60 qa0
theorem qhg : FOk q16 qqq := qxk  fun ds outs hw hg => q0a (fuel := 60) hg
def qj1 : List D → Option (List D) := q8h [] 60 q8m
theorem qf6 : FOk q06 qj1 := qtv  fun ds outs hw hg => q0a (fuel := 60) hg
def qvh : List D → Option (List D) := q8h [(yg, gTb q2w), (jk, gTi fun t => min (szT t : Int) 2001), (zr, gTb jv), (zw, gTT z33)] 60 q8z
theorem qts : FOk q0y qvh := qtl qa4 qhj qid qcp fun ds outs hw hg => q0a (fuel := 60) hg
def qge : List D → Option (List D) := q8h [(zq, gSt qbm), (q14, zed), (j6, gSL ql8), (q0y, qvh), (zn, z7t)] 60 q7h
theorem qd8 : FOk yq qge := qq6 q57 qlh q8d qts qi7 fun ds outs hw hg => q0a (fuel := 60) hg
def qpd : List D → Option (List D) := q8h [(qs, qf8), (zp, z62), (ql, qb8 vcP), (zi, z21), (y7, qho), (yq, qge), (zg, z1p vcP q8x), (qdc, q4y)] 60 q9y
theorem qhc : FOk q19 qpd := qyg q1i qaa yy q6p q7v qd8 q59 fun ds outs hw hg => q0a (fuel := 60) hg
def z0e : List D → Option (List D) := q8h [(qs, qf8), (zi, z21), (y7, qho), (zp, z62), (yj, zi2), (yq, qge), (zg, z1p vcP q8x), (qdc, q4y)] 60 qa3
theorem qyi : FOk q4p z0e := qyx q1i q6p q7v qaa q8e qd8 q59 fun ds outs hw hg => q0a (fuel := 60) hg
def z0t : List D → Option (List D) := q8h [(qs, qf8), (zi, z21), (y7, qho)] 60 q6n
theorem qxs : FOk q1c z0t := qhl q1i q6p q7v fun ds outs hw hg => q0a (fuel := 60) hg
def qvm : List D → Option (List D) := q8h [(q0b, q4t), (zg, z1p vcP q8x)] 60 q51
theorem qto : FOk q08 qvm := qf1 qbd q59 fun ds outs hw hg => q0a (fuel := 60) hg
def qv3 : List D → Option (List D) := q8h [(qs, qf8), (ql, qb8 vcP), (zb, qcq), (zg, z1p vcP q8x), (q08, qvm), (jm, qa7 inS), (z8, zei), (q0d, gOr)] 60 q8a
theorem qtw : FOk q3k qv3 := qt1 q1i yy q47 q59 qto qgk q6u qsx fun ds outs hw hg => q0a (fuel := 60) hg
def z0l (r : List D → Option (List D)) : List D → Option (List D) := q8h [(yi, r), (zb, qcq), (q16, qqq), (yp, q82 arS), (zq, gSt qbm), (yo, q82 q2e)] 60 q61
def qr2 : List D → Option (List D) := upN z0l 6
theorem qmd : FOk yi qr2 := qqy q9o (fun r hr => qm8 hr q47 qhg qd0 q57 q80 fun ds outs hw hg => q0a (fuel := 60) hg) 6
def qvg : List D → Option (List D) := q8h [(yi, qr2), (ql, qb8 vcP)] 60 q93
theorem qsw : FOk q39 qvg := qt7 qmd yy fun ds outs hw hg => q0a (fuel := 60) hg
def qz6 (r : List D → Option (List D)) : List D → Option (List D) := q8h [(yd, r)] 60 q3a
def ql7 : List D → Option (List D) := upN qz6 6
theorem qmx : FOk yd ql7 := qqy q58 (fun r hr => qbq hr fun ds outs hw hg => q0a (fuel := 60) hg) 6
def qpp : List D → Option (List D) := q8h [(yd, ql7)] 60 q45
theorem qpk : FOk jw qpp := qcl qmx fun ds outs hw hg => q0a (fuel := 60) hg
def qrf : List D → Option (List D) := q8h [] 60 q48
theorem qpt : FOk jx qrf := qcz  fun ds outs hw hg => q0a (fuel := 60) hg
def qxp (r : List D → Option (List D)) : List D → Option (List D) := q8h [(jx, qrf), (zz, r)] 60 q3b
def qle : List D → Option (List D) := upN qxp 6
theorem qmt : FOk zz qle := qqy q5f (fun r hr => qbl qpt hr fun ds outs hw hg => q0a (fuel := 60) hg) 6
def qld : List D → Option (List D) := q8h [(jw, qpp), (zz, qle)] 60 q37
theorem qnk : FOk ji qld := qbr qpk qmt fun ds outs hw hg => q0a (fuel := 60) hg
def qit (r : List D → Option (List D)) : List D → Option (List D) := q8h [(zd, r)] 60 q2z
def qbu : List D → Option (List D) := upN qit 6
theorem qeq : FOk zd qbu := qqy q5n (fun r hr => qel hr fun ds outs hw hg => q0a (fuel := 60) hg) 6
def qrx : List D → Option (List D) := q8h [(ji, qld), (zd, qbu)] 60 q7l
theorem qrj : FOk q2h qrx := qq0 qnk qeq fun ds outs hw hg => q0a (fuel := 60) hg
def qvq : List D → Option (List D) := q8h [] 60 q95
theorem qsq : FOk q0s qvq := qui  fun ds outs hw hg => q0a (fuel := 60) hg
def qfe : List D → Option (List D) := q8h [(q0s, qvq), (qz, qz3), (q06, qj1), (q19, qpd)] 60 q4f
theorem qhi : FOk q1h qfe := qh6 qsq qcm qf6 qhc fun ds outs hw hg => q0a (fuel := 60) hg
theorem z2f {ct : Ct} {tbl : Tbl} {outs : List D} {fuel : Nat} (ann : Ann) (fn : Func) (cd : Code) (htb : q02 tbl) (hf : Tryz.prog.funcs[ct.f]? = some fn) (hb : fn.body = some cd)
  (hen : ∀ args w, (callFunc ct.f args).run Tryz.prog w = .ok (.enter ct.f args) w) (hsz : ct.ar.length ≤ fn.ntmps) (har : ct.ars = []) (hden : q8h tbl fuel (qck Tryz.prog tbl ann ct fn cd) [] = some outs) (hnp : q7q tbl = true) (hkp : ct.kp = []) (hfl : ct.fl = []) : FOk ct fun _ => some outs :=
 zak ann fn cd htb hf hb hen hsz (fun ds o hw hg => by
  rw [har] at hw
  obtain rfl : ds = [] := hw
  injection hg with hg
  subst hg
  exact q0a hden) hnp hkp hfl
def z4n : Ct := ⟨26, [], [(.st 4242424242, true)], [], none, [], []⟩
theorem zer : FOk z4n fun _ => none := ⟨qc0, (fun A F p w vs us ds outs h => by cases h), fun h => absurd rfl h⟩
noncomputable def awC : Code := match Tryz.f8.body with
 | some c => c
 | none => .skip
def zkk : Tbl := [(z4n, fun _ => none), (q1h, qfe), (q1c, z0t), (q06, qj1), (q19, qpd), (q4p, z0e), (q3k, qv3), (yk, zky), (q39, qvg), (zq, gSt qbm), (q16, qqq), (j6, gSL ql8), (q2h, qrx)]
theorem zfa : q02 zkk := .cons zer (.cons qhi (.cons qxs (.cons qf6 (.cons qhc (.cons qyi (.cons qtw (.cons qtk (.cons qsw (.cons q57 (.cons qhg (.cons q8d (.cons qrj .nil))))))))))))
theorem zjj : q8h zkk 12 (qck Tryz.prog zkk qbp q29 Tryz.f8 awC) [] = some [.b true] := by kernel_rfl
theorem qp3 : FOk q29 fun _ => some [.b true] := z2f qbp Tryz.f8 awC zfa (by kernel_rfl) (by kernel_rfl) qhy (by decide) (by kernel_rfl) zjj (by kernel_rfl) (by kernel_rfl) (by kernel_rfl)
def q1r : Ct := ⟨3, [.val (.st 26), .val (.st 28), .val (.str)], [(.bool, false)], [], none, [], []⟩
theorem qdd : EnZ q1r := fun _ _ => by kernel_rfl
def qga : Ann := ⟨[0, 1, 2, 3, 4, 6, 7, 8, 9, 10, 11, 14, 28], []⟩
def q3q : Tree :=
 let b : X := .tok 0
 let d : X := .tok 1
 let e : X := .call 1 0 []
 let a : X := .and (.eq (.call 2 0 [b, d, (.tok 2)]) (.call 5 0 [b, d, (.tok 2)])) (.eq (.call 2 1 [b, d, (.tok 2)]) (.call 5 1 [b, d, (.tok 2)]))
 let c : X := .and a (.call 7 0 [(.call 3 0 [b, d]), (.call 6 0 [b, d])])
 (.need [(.ok 0 [b])] (.br (.not (.call 0 0 [b])) (.need [(.ok 1 [])] (.leaf [e])) (.need [(.ok 2 [b, d, (.tok 2)])] (.need [(.ok 3 [b, d])] (.need [(.ok 4 [b])] (.br (.not (.call 4 0 [b])) (.need [(.ok 1 [])] (.leaf [e])) (.need [(.ok 5 [b, d, (.tok 2)])] (.need [(.imp a (.ok 6 [b, d])), (.imp a (.ok 7 [(.call 3 0 [b, d]), (.call 6 0 [b, d])])), (.imp c (.ok 1 []))] (.leaf [(.and c e)])))))))))
theorem qet (g0 g1 g2 g3 g4 g5 g6 g7 : GfZ) : CdZ [(q0h, g0), (q29, g1), (q1c, g2), (q18, g3), (q0k, g4), (q1y, g5), (q0i, g6), (q0m, g7)] qga q1r Tryz.f3 q3q := fun cd h => by injection h with h; subst h; kernel_rfl
theorem qg2 {g0 g1 g2 g3 g4 g5 g6 g7 g : GfZ} (h0 : FOk q0h g0) (h1 : FOk q29 g1) (h2 : FOk q1c g2) (h3 : FOk q18 g3) (h4 : FOk q0k g4) (h5 : FOk q1y g5) (h6 : FOk q0i g6) (h7 : FOk q0m g7) (h : HgZ q3q q1r [(q0h, g0), (q29, g1), (q1c, g2), (q18, g3), (q0k, g4), (q1y, g5), (q0i, g6), (q0m, g7)] g) : FOk q1r g := yh (qet g0 g1 g2 g3 g4 g5 g6 g7) (.cons h0 (.cons h1 (.cons h2 (.cons h3 (.cons h4 (.cons h5 (.cons h6 (.cons h7 .nil)))))))) rfl rfl qdd (by decide) h
def qzd (s : So) : Bool := decide (s.cs.length ≤ 300) && decide (s.ys.length ≤ 100) && decide (s.tr.length ≤ 300) && decide (s.wk.length ≤ 50)
theorem qqz : FOk q0h (gSb qzd) := qm3 fun ds outs hw hg => by
 obtain ⟨d, r, rfl, hd, rfl⟩ := hw
 obtain ⟨s, rfl, hs⟩ := wfS hd
 simp only [gSb, zk, Option.some.injEq] at hg
 subst hg
 have h1 : decide ((s.cs.length : Int) ≤ 300) = decide (s.cs.length ≤ 300) := decide_eq_decide.2 (by omega)
 have h2 : decide ((s.ys.length : Int) ≤ 100) = decide (s.ys.length ≤ 100) := decide_eq_decide.2 (by omega)
 have h3 : decide ((s.tr.length : Int) ≤ 300) = decide (s.tr.length ≤ 300) := decide_eq_decide.2 (by omega)
 have h4 : decide ((s.wk.length : Int) ≤ 50) = decide (s.wk.length ≤ 50) := decide_eq_decide.2 (by omega)
 simp only [q65, gnZ, qzd, h1, h2, h3, h4]
def zj8 : List D → Option (List D)
 | [a, b] => some [.b (decide (a.rs.map D.str = b.rs.map D.str))]
 | _ => none
theorem qn5 : FOk q0m zj8 := qnl fun ds outs hw hg => by
 obtain ⟨d, r, rfl, hd, e, r', rfl, he, rfl⟩ := hw
 obtain ⟨l, rfl, hl⟩ := zkn hd
 obtain ⟨m, rfl, hm⟩ := zkn he
 simp only [zj8, q6i, qi8, Option.some.injEq] at hg
 subst hg
 rw [q6f, qj]
 refine ⟨fun h => ?_, fun h => ?_⟩
 ·simp only [gnZ] at h ⊢
  have h : l.length ≠ m.length := by
   intro e
   simp [e] at h
  have : l ≠ m := fun e => h (by rw [e])
  simp [this]
 ·simp only [gnZ] at h
  have hlm : l.length = m.length := Classical.byContradiction fun hne => by
   have hne' : ¬ ((l.length : Int) = m.length) := by omega
   simp [hne, hne'] at h
  rw [jt]
  refine ⟨fun st => ∃ k : Nat, k ≤ l.length ∧ st = [.b false, .i k] ∧ ∀ j, j < k → l.getD j default = m.getD j default, fun st => l.length - (st.getD 1 .u).int.toNat, ⟨0, Nat.zero_le _, rfl, fun j hj => absurd hj (Nat.not_lt_zero _)⟩, ?_⟩
  rintro st - ⟨k, hk, rfl, hP⟩
  rw [qj]
  refine ⟨fun hlt => ?_, fun hlt => ?_⟩
  ·simp only [gnZ] at hlt
   have hkl : k < l.length := by omega
   simp only [gnZ, q7o D.s hkl, q7o D.s (show k < m.length by omega)]
   refine ⟨⟨by omega, by omega, by omega, by omega⟩, fun hx => ?_, fun hx => ⟨⟨by omega, by omega⟩, ?_⟩⟩
   ·have : l ≠ m := fun e => by
     subst e
     simp at hx
    simp [this]
   ·rw [q2p, if_pos rfl]
    refine ⟨⟨k + 1, by omega, by simp, fun j hj => ?_⟩, ?_⟩
    ·rcases Nat.lt_or_eq_of_le (Nat.le_of_lt_succ hj) with h1 | rfl
     ·exact hP j h1
     ·simpa using hx
    ·simp [D.int]
     omega
  ·simp only [gnZ] at hlt ⊢
   have hkl : k = l.length := by omega
   subst hkl
   have : l = m := List.ext_getElem hlm fun j h1 h2 => by
    have := hP j h1
    rw [List.getD_eq_getElem?_getD, List.getD_eq_getElem?_getD, List.getElem?_eq_getElem h1, List.getElem?_eq_getElem h2] at this
    exact this
   simp [this]
set_option maxHeartbeats 1000000 in
theorem qwj : FOk q1r fun _ => some [.b true] := qg2 qqz qp3 z1j qu0 qpy qyh qps qn5 fun ds outs hw hg => by
 obtain ⟨d, r, rfl, hd, e, r', rfl, he, f, r2, rfl, hf, rfl⟩ := hw
 obtain ⟨s, rfl, hs⟩ := wfS hd
 obtain ⟨v, rfl, hc⟩ := wfC he
 obtain ⟨nm, rfl, hn⟩ := hf.str
 injection hg with hg
 subst hg
 simp only [q3q, gnZ, gSb]
 cases hsm : qzd s with
 | false => simp
 | true =>
  have hlb : zff s = true := by
   unfold qzd at hsm
   simp only [Bool.and_eq_true, decide_eq_true_eq] at hsm
   exact decide_eq_true (by omega)
  have hG : z5s [eS s, eC v, .s nm] = some [eC (qqm s v nm).1, .b (qqm s v nm).2] := by
   simp only [z5s, zk, yw, q2s]
   rw [if_pos hlb]
  have hN : z5i [eS s, eC v] = some [.r ((qfu s v).map .s)] := by
   simp only [z5i, zk, yw]
   rw [if_pos hlb]
  simp only [gnZ, hG, hN]
  cases hv : y9 s with
  | false => simp
  | true =>
   have hG2 : qwf [eS s, eC v, .s nm] = some [eC (qqm s v nm).1, .b (qqm s v nm).2] := by
    simp only [qwf, zk, yw, q2s]
    rw [if_pos hv]
   have hN2 : qw9 [eS s, eC v] = some [.r ((qfu s v).map .s)] := by
    simp only [qw9, zk, yw]
    rw [if_pos hv]
   simp only [gnZ, hG2, hN2, zj8]
   simp
section
open Go.ChangeShapes Go.WideShapes Go.ChangeAt Go.RowKit
theorem z7v : ownKnob Tryz.prog.godebug = none := by kernel_rfl
theorem qkk : laidOutB Tryz.prog = true := by kernel_rfl
section
variable {H : Type} {enc : TypeId × Value → H} {W : World} {base : Nat} {spare : Nat → Bool} {held : Bool}
def qax (t : TypeId) (d : DataW H) : Prop := ∀ n ∈ d.weights Tryz.prog t, n ≤ reachBytes
theorem qbx {e : TypeId} : ∀ {l : List (DataW H)} {d : DataW H}, d ∈ l → ∀ n ∈ d.weights Tryz.prog e, n ∈ DataW.weightsAll Tryz.prog e l
 | [], _, h, _, _ => by cases h
 | x :: l, d, h, n, hn => by
  simp only [DataW.weightsAll, List.mem_append]
  rcases List.mem_cons.1 h with rfl | h
  ·exact .inl hn
  ·exact .inr (qbx h n hn)
theorem qax.each {ts : List TypeId} {l : List (DataW H)} {k : Nat} {t : TypeId} {d : DataW H} (h : ∀ n ∈ DataW.weightsEach Tryz.prog ts l, n ≤ reachBytes) (ht : ts[k]? = some t) (hd : l[k]? = some d) : qax t d := fun n hn =>
 h n (DataW.weights_mem_each ht hd n hn)
theorem qvw : reachBytes = LIM := rfl
theorem qwm (h : qo T = some t) : Tryz.prog.cellsOf T = t.w := by
 obtain ⟨i, hi, h1, -⟩ := q32 h
 simp [Program.cellsOf, hi, h1]
theorem zkz {k : IntKind} {t : TypeId} (ht : qo t = some (.int k)) {n : Int} (h : (Lit.int k n).wf = true) : yz k n = true := by
 have h0 := (q3f ht).2.1
 cases k <;> first | (simp [yz] at h0; done) | (simp [Lit.wf, IntKind.min, IntKind.max, IntKind.signed, IntKind.bits] at h; simp [yz]; omega)
theorem z3k {a : Addr} (h : W.cell? a = some v) : a.spot = none := by
 unfold World.cell? at h
 split at h
 ·split at h
  ·cases h
  ·rename_i hs; simpa using hs
 ·cases h
theorem zcq : ∀ {fl : List Field} {fs : List Ty} {o : Nat}, q2n fl fs o = true → (∀ (j : Nat) (f : Field) (t : Ty), fl[j]? = some f → fs[j]? = some t → ∃ y, Rd W F y t ((cs.drop f.offset).take t.w)) → cs.length = o + widths fs → ∃ ds, RdF W F ds fs (cs.drop o)
 | [], [], o, _, _, hl => by
  simp [widths] at hl
  exact ⟨[], rfl, by rw [List.drop_eq_nil_iff]; omega⟩
 | f :: l, t :: ts, o, hb, hf, hl => by
  simp only [q2n, Bool.and_eq_true] at hb
  obtain ⟨⟨⟨h1, -⟩, -⟩, h3⟩ := hb
  have ho := gnN h1
  rw [q6y] at hl
  obtain ⟨ds, hds⟩ := zcq h3 (fun j f' t' hj ht => hf (j + 1) f' t' (by simpa using hj) (by simpa using ht)) (by omega)
  obtain ⟨y, hy⟩ := hf 0 f t rfl rfl
  refine ⟨y :: ds, t, ts, (cs.drop o).take t.w, cs.drop (o + t.w), rfl, ?_, by rw [← ho]; exact hy, hds⟩
  rw [← List.drop_drop, List.take_append_drop]
 | [], _ :: _, o, hb, _, _ => by cases hb
 | _ :: _, [], o, hb, _, _ => by cases hb
theorem z7i : ∀ (fuel : Nat) {T : TypeId} {t : Ty} (cs : List Value) (x : DataW H × List MemPlace), qo T = some t → qa5 t = false → DataW.trod enc Tryz.prog W base spare held fuel T cs = some x → qax T x.1 → ∃ y, Rd W (fun _ => True) y t cs := by
 intro fuel
 induction fuel with
 | zero => intro T t cs x _ _ h; simp [DataW.trod] at h
 | succ fuel ih =>
  intro T t cs x hT hM h hL
  cases t with
  | map K V => cases hM
  | int k =>
   obtain ⟨n, rfl, -, hw⟩ := DataW.trod_int (q3f hT).1 h
   exact ⟨.i n, k, rfl, rfl, zkz hT hw⟩
  | bool =>
   obtain ⟨b, rfl, -⟩ := DataW.trod_bool (q3z hT).1 h
   exact ⟨.b b, rfl, rfl⟩
  | str =>
   obtain ⟨s, rfl, rfl, -⟩ := DataW.trod_string (q3c hT).1 h
   have := hL s.data.toList.length (by simp [DataW.weights])
   exact ⟨.s s, rfl, rfl, by rw [qvw] at this; simpa using this⟩
  | st S =>
   obtain ⟨fields, fs, zc, i, hu, hfs, hfb, hi, hsz, -, -, -, -⟩ := q4d hT
   obtain ⟨xs, n, hn, hx, hlen, hxl, hf⟩ := DataW.trod_struct hu h
   obtain rfl : fuel = n := by omega
   have hw : ∀ n ∈ DataW.weightsEach Tryz.prog (fields.toList.map (·.type)) (xs.map (·.1)), n ≤ reachBytes := fun n hn => hL n (by rw [hx]; simp only [DataW.weights, hu]; exact hn)
   have hcl : cs.length = 0 + widths fs := by rw [hlen, qwm hT, (qod hfs).1]; omega
   obtain ⟨ds, hds⟩ := zcq (W := W) (F := fun _ => True) hfb (fun j f t hj ht => by
    obtain ⟨f', hf', ho, hty, -⟩ := q72 hfb ht
    obtain rfl := Option.some.inj (hj.symm.trans hf')
    have h5 := hf j f (by rw [← Array.getElem?_toList]; exact hj)
    have hjl : j < fields.toList.length := (List.getElem?_eq_some_iff.1 hj).1
    have hjx : j < xs.length := by rw [hxl]; simpa using hjl
    rw [qwm hty, List.getElem?_eq_getElem hjx] at h5
    refine ih _ _ hty (zeb hfs (List.mem_of_getElem? ht)) h5 (qax.each (k := j) hw ?_ ?_)
    ·rw [List.getElem?_map, hj]; rfl
    ·rw [List.getElem?_map, List.getElem?_eq_getElem hjx]; rfl) hcl
   exact ⟨.a ds, S, fs, rfl, hfs, by simpa using hds⟩
  | row E =>
   obtain ⟨hu, ⟨te, hte⟩, -⟩ := q0t hT
   rcases DataW.trod_slice hu h with ⟨rfl, hx⟩ | ⟨a, len, cap, elems, rest, n, hn, rfl, hx, hb, hl, hm, hlen, hel, -⟩
   ·exact ⟨.r [], E, te, none, 0, rfl, hte, rfl, by simp, by simp, by simp [maxLen], by simp [RdE]⟩
   ·obtain rfl : fuel = n := by omega
    have hwd := q26 hte
    rw [qwm hte] at hel
    have hw := hL
    rw [hx] at hw
    simp only [qax, DataW.weights, hu, List.mem_cons, List.mem_append] at hw
    have hlen2 : len ≤ LM te := by
     have := hw _ (.inl rfl)
     rw [qvw] at this
     have hbe : Tryz.prog.bytesOf E = te.by := by
      obtain ⟨i, hi, -⟩ := q32 hte
      simp [Program.bytesOf, hi, qj5 hte hi]
     refine (Nat.le_div_iff_mul_le (za7 hte).1).2 ?_
     simp [hbe] at this
     have h2 : len * te.by ≤ (elems.length + rest.length) * te.by := Nat.mul_le_mul_right _ (by omega)
     exact Nat.le_trans h2 this
    have spot : 0 < len → a.spot = none := fun h0 => by
     have h2 := hel 0 h0
     rw [List.getElem?_eq_getElem (by omega)] at h2
     cases hc0 : W.cells? base (a.add (0 * te.w)) te.w with
     | none => rw [hc0] at h2; cases h2
     | some cs0 =>
      obtain ⟨_, hcl0, hat0⟩ := World.cells?_some hc0
      have hp : 0 < cs0.length := by omega
      have := hat0 0 (by omega)
      rw [List.getElem?_eq_getElem hp] at this
      exact z3k (a := a) (v := cs0[0]) (by simpa [Addr.add] using this)
    have each : ∀ i, i < len → ∃ y, zjz W (fun _ => True) y te (some a) i := fun i hi => by
     have h1 := hel i hi
     rw [List.getElem?_eq_getElem (by omega)] at h1
     cases hc : W.cells? base (a.add (i * te.w)) te.w with
     | none => rw [hc] at h1; cases h1
     | some cs' =>
      rw [hc] at h1
      obtain ⟨_, hcl, hat⟩ := World.cells?_some hc
      obtain ⟨y, hy⟩ := ih cs' _ hte (zgs hT hte) h1 (fun n hn => hw n (.inr (.inl (qbx (List.mem_map.2 ⟨_, List.getElem_mem (by omega), rfl⟩) n hn))))
      have hsp := spot (by omega)
      obtain ⟨b, o, sp⟩ := a
      obtain rfl : sp = none := hsp
      have add : ∀ k, (Addr.add ⟨b, o, none⟩ (i * te.w)).add k = ⟨b, o + i * te.w + k, none⟩ := fun k => by
       unfold Addr.add
       split <;> split <;> simp <;> omega
      refine ⟨y, b, o, cs', rfl, trivial, fun j v hj => ?_, hy⟩
      have hj' := (List.getElem?_eq_some_iff.1 hj).1
      have := hat j (by omega)
      rw [add, hj] at this
      exact this
    have pick : ∀ n, n ≤ len → ∃ l : List D, l.length = n ∧ ∀ i (h : i < l.length), zjz W (fun _ => True) l[i] te (some a) i := by
     intro n
     induction n with
     | zero => exact fun _ => ⟨[], rfl, fun i hi => by simp at hi⟩
     | succ n ihn =>
      intro hn
      obtain ⟨l, hl1, hl2⟩ := ihn (by omega)
      obtain ⟨t, ht⟩ := each n (by omega)
      refine ⟨l ++ [t], by simp [hl1], fun i hi => ?_⟩
      by_cases hin : i < l.length
      ·rw [List.getElem_append_left hin]; exact hl2 i hin
      ·obtain rfl : i = l.length := by simp at hi; omega
       rw [List.getElem_append_right (by omega)]
       simp [hl1]
       exact ht
    obtain ⟨l, hl1, hl2⟩ := pick len (Nat.le_refl _)
    exact ⟨.r l, E, te, some a, cap, rfl, hte, by rw [hl1], by omega, by omega, hm, q0n.2 fun j hj => by rw [Nat.zero_add]; exact hl2 j hj⟩
theorem z2t (hT : qo T = some t) (hM : qa5 t = false) {d : DataW H} {p : List MemPlace} {b0 : Nat} {r : Reach} (hv : Value.okWide Tryz.prog W r b0 T v) (h : DataW.Trod enc Tryz.prog W base spare held T v d p) (hL : qax T d) :
  ∃ x cs, yr t cs v ∧ Rd W (fun b => b < W.heap.size) x t cs := by
 obtain ⟨fuel, hf⟩ := h
 obtain ⟨y, hy⟩ := z7i fuel _ _ hT hM hf hL
 refine ⟨y, v.cells.toList, ?_, Rd.keeps (fun b o _ ho => ⟨ho, qu ho⟩) _ hy⟩
 cases t with
 | int k => obtain ⟨n, rfl⟩ := okWide_int (q3f hT).1 hv; rfl
 | bool => obtain ⟨n, rfl⟩ := okWide_bool (q3z hT).1 hv; rfl
 | str => obtain ⟨n, rfl⟩ := okWide_string (q3c hT).1 hv; rfl
 | map K V => cases hM
 | row E => obtain ⟨A, l, c, rfl⟩ := okWide_slice (q0t hT).1 hv; rfl
 | st S =>
  obtain ⟨fields, fs, zc, i, hu, -⟩ := q4d hT
  obtain ⟨cs, rfl, -⟩ := okWide_struct hu hv
  simp [yr, Value.cells]
end
def qv1 (W : World) : List Ar → List Value → List D → Prop
 | [], vs, ds => vs = [] ∧ ds = []
 | .val t :: l, vs, ds => ∃ v r d ds', vs = v :: r ∧ ds = d :: ds' ∧ (∃ cs, yr t cs v ∧ Rd W (FFD (fun _ => True) (fun _ => none) []) d t cs) ∧ qv1 W l r ds'
 | _ :: _, _, _ => False
theorem qv1.ok {V : List Value} : ∀ {i : Nat} {ar : List Ar} {vs : List Value} {ds : List D}, qv1 W ar vs ds → ym V (fun _ => True) (fun _ => none) W (idx i ar) vs ds ∧ vs.length = ar.length
 | _, [], vs, ds, h => ⟨h, by rw [h.1]; rfl⟩
 | i, .val t :: l, vs, ds, ⟨v, r, d, ds', e1, e2, h1, h⟩ => by
  obtain ⟨h2, h3⟩ := qv1.ok (V := V) (i := i + 1) h
  exact ⟨⟨v, r, d, ds', e1, e2, h1, h2⟩, by rw [e1]; simp [h3]⟩
 | _, .ref _ _ :: _, _, _, h => h.elim
 | _, .rref _ :: _, _, _, h => h.elim
 | _, .own _ :: _, _, _, h => h.elim
 | _, .mref _ :: _, _, _, h => h.elim
 | _, .nils :: _, _, _, h => h.elim
 | _, .nilp :: _, _, _, h => h.elim
 | _, .fn _ _ :: _, _, _, h => h.elim
 | _, .cell _ _ :: _, _, _, h => h.elim
theorem z7x {ct : Ct} {g : List D → Option (List D)} (h : FOk ct g) (hrs : ct.rs = [(.bool, false)]) (hvr : ct.vr = []) {vs : List Value} {ds : List D} (ha : qv1 W ct.ar vs ds) (hg : g ds = some [.b true]) :
  Calls Tryz.prog ct.f vs.toArray W fun e W' => e = .returned (.bool true) ∧ But Nil W W' := by
 obtain ⟨h1, h2⟩ := qv1.ok (V := vs ++ []) (i := 0) ha
 refine (h.call (fun _ => True) .no (fun _ => none) W vs [] ds _ hg (qg6.of0 fun _ => rfl) Flo.no (by constructor <;> simp [Flr.no]) h2 (by simpa [Ct.all, hvr, idx] using h1)).mono ?_
 rintro e W' (⟨T, -, ho, -⟩ | ⟨rs, p', rfl, hb, hr, -⟩)
 ·cases ho
 rw [hrs] at hr
 obtain ⟨v, r, d, ds', rfl, hd, ⟨cs, hp, hc⟩, rfl⟩ := hr
 simp at hd
 obtain ⟨rfl, rfl⟩ := hd
 obtain ⟨e1, e2⟩ : D.b true = .b true ∧ cs = [.bool true] := ⟨rfl, by
  have hc' : Rd W' (FFD (fun _ => True) p' []) (.b true) .bool cs := hc
  exact hc'.2⟩
 subst e2
 have hpv : [Value.bool true] = [v] := hp
 injection hpv with hpv
 subst hpv
 exact ⟨rfl, hb.but.mono fun i hi _ => by obtain ⟨x, hx⟩ := hi; cases hx⟩
end
end Go.Proofs.YtdaadonfbnedaaaGreat
