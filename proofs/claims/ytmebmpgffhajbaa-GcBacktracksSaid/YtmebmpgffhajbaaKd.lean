/-
  Lemmas of the walk and plain laws, put together. No condition.
-/
import Derived.Great.BuildSlice
import Derived.OrdersHeld
import Derived.Test.YtmebmpgffhajbaaKc
namespace Go.Proofs.Ytmebmpgffhajbaa
open Go.RowKit
set_option linter.unusedVariables false
set_option maxRecDepth 100000

theorem Wf.row {d : D} {E : TypeId} (h : Wf d (.row E)) : ∃ l te, d = .r l ∧ tyOf E = some te ∧ l.length ≤ LM te ∧ ∀ x ∈ l, Wf x te := by
  obtain ⟨w, F, cs, h⟩ := h
  cases d with
  | r l =>
    obtain ⟨E', te, A, cap, e, hte, e3, h1, h2, -, hR⟩ := h
    injection e with e
    subst e
    refine ⟨l, te, rfl, hte, h2, fun x hx => ?_⟩
    obtain ⟨i, hi, rfl⟩ := List.mem_iff_getElem.1 hx
    obtain ⟨b, o, c, -, -, -, hr⟩ := rdE_iff.1 hR i hi
    exact ⟨w, F, c, hr⟩
  | u => exact h.elim
  | i n => obtain ⟨k, e, -⟩ := h; cases e
  | b x => cases h.1
  | s x => cases h.1
  | a l => obtain ⟨T', fs0, e1, -⟩ := h; cases e1
  | mp l => obtain ⟨K, V, kt, vt, g, es, clock, e, -⟩ := h; cases e

theorem Wf.int {d : D} {k : IntKind} (h : Wf d (.int k)) : ∃ n, d = .i n ∧ rngB k n = true := by
  obtain ⟨w, F, cs, h⟩ := h
  cases d with
  | i n =>
    obtain ⟨k', e, -, hr⟩ := h
    injection e with e
    subst e
    exact ⟨n, rfl, hr⟩
  | u => exact h.elim
  | r l => obtain ⟨E, te, A, cap, e, -⟩ := h; cases e
  | b x => cases h.1
  | s x => cases h.1
  | a l => obtain ⟨T', fs0, e1, -⟩ := h; cases e1
  | mp l => obtain ⟨K, V, kt, vt, g, es, clock, e, -⟩ := h; cases e

theorem Wf.bool {d : D} (h : Wf d .bool) : ∃ x, d = .b x := by
  obtain ⟨w, F, cs, h⟩ := h
  cases d with
  | b x => exact ⟨x, rfl⟩
  | u => exact h.elim
  | r l => obtain ⟨E, te, A, cap, e, -⟩ := h; cases e
  | i n => obtain ⟨k, e, -⟩ := h; cases e
  | s x => cases h.1
  | a l => obtain ⟨T', fs0, e1, -⟩ := h; cases e1
  | mp l => obtain ⟨K, V, kt, vt, g, es, clock, e, -⟩ := h; cases e

theorem Wf.str {d : D} (h : Wf d .str) : ∃ x, d = .s x ∧ x.size ≤ LIM := by
  obtain ⟨w, F, cs, h⟩ := h
  cases d with
  | s x => exact ⟨x, rfl, h.2.2⟩
  | u => exact h.elim
  | r l => obtain ⟨E, te, A, cap, e, -⟩ := h; cases e
  | i n => obtain ⟨k, e, -⟩ := h; cases e
  | b x => cases h.1
  | a l => obtain ⟨T', fs0, e1, -⟩ := h; cases e1
  | mp l => obtain ⟨K, V, kt, vt, g, es, clock, e, -⟩ := h; cases e

def WfL : List D → List Ty → Prop
  | [], fs => fs = []
  | d :: ds, fs => ∃ t ts, fs = t :: ts ∧ Wf d t ∧ WfL ds ts

theorem RdF.wf {w : World} {F : Nat → Prop} : ∀ {ds : List D} {fs : List Ty} {cs : List Value}, RdF w F ds fs cs → WfL ds fs
  | [], fs, cs, h => h.1
  | d :: ds, fs, cs, h => by
    obtain ⟨t, ts, c1, c2, e1, -, h1, h2⟩ := h
    exact ⟨t, ts, e1, ⟨w, F, c1, h1⟩, RdF.wf h2⟩

theorem Wf.st {d : D} {S : TypeId} (h : Wf d (.st S)) : ∃ ds fs, d = .a ds ∧ flds S = some fs ∧ WfL ds fs := by
  obtain ⟨w, F, cs, h⟩ := h
  cases d with
  | a l =>
    obtain ⟨T', fs0, e1, e2, h⟩ := h
    injection e1 with e1
    subst e1
    exact ⟨l, fs0, rfl, e2, RdF.wf h⟩
  | u => exact h.elim
  | r l => obtain ⟨E, te, A, cap, e, -⟩ := h; cases e
  | i n => obtain ⟨k, e, -⟩ := h; cases e
  | b x => cases h.1
  | s x => cases h.1
  | mp l => obtain ⟨K, V, kt, vt, g, es, clock, e, -⟩ := h; cases e
end Go.Proofs.Ytmebmpgffhajbaa


namespace Go.Proofs.Ytmebmpgffhajbaa
open Go.RowKit
set_option linter.unusedVariables false
set_option maxRecDepth 100000

def allB (e : Ev) : List X → Bool
  | [] => true
  | x :: l => (x.ev e).tt && allB e l
theorem allB_ok {e : Ev} : ∀ {l : List X}, allB e l = true → allSay e l
  | [], _ => trivial
  | x :: l, h => by
    simp only [allB, Bool.and_eq_true] at h
    exact ⟨h.1, allB_ok h.2⟩

def itf (f : List D → Option (Nat × List D)) (id : Nat) : Nat → List D → Option (Nat × List D)
  | 0, _ => none
  | k + 1, st => match f st with
    | some (j, st') => if Nat.beq j (id + 1) then itf f id k st' else some (j, st')
    | none => none

def sameOut : Nat × List D → Nat × List D → Bool := fun a b => Nat.beq a.1 b.1 && D.beqs a.2 b.2

def Tree.den (S : Nat → List D → Option (List D)) (fuel : Nat) : Tree → List D → Option (Nat × List D)
  | .bad _, _ => none
  | .need ns t, l => if allB (evl S l) ns then t.den S fuel l else none
  | .br x t e, l => if (x.ev (evl S l)).tt then t.den S fuel l else e.den S fuel l
  | .amb x neg t e, l => if (x.ev (evl S l)).rs.isEmpty then (match t.den S fuel l, e.den S fuel l with
      | some a, some b => if sameOut a b then some a else none
      | _, _ => none) else if neg then t.den S fuel l else e.den S fuel l
  | .leaf xs, l => some (0, X.evs (evl S l) xs)
  | .back id xs, l => some (id + 1, X.evs (evl S l) xs)
  | .loop id n init body, l => itf (fun st => body.den S fuel (l.take n ++ st)) id fuel (X.evs (evl S l) init)

def outOk (R : List D → Prop) (B : Nat → List D → Prop) : Nat × List D → Prop
  | (0, xs) => R xs
  | (id + 1, xs) => B id xs

theorem beqs_eq : ∀ {l m : List D}, D.beqs l m = true → l = m
  | [], [], _ => rfl
  | x :: l, y :: m, h => by
    simp only [D.beqs, Bool.and_eq_true] at h
    rw [(D.q0c _ _).1 h.1, beqs_eq h.2]
  | [], _ :: _, h => by simp [D.beqs] at h
  | _ :: _, [], h => by simp [D.beqs] at h

theorem sameOut_ok {a b : Nat × List D} (h : sameOut a b = true) : a = b := by
  obtain ⟨i, l⟩ := a
  obtain ⟨j, m⟩ := b
  simp only [sameOut, Bool.and_eq_true] at h
  rw [Nat.eq_of_beq_eq_true h.1, beqs_eq h.2]

theorem least_of {P : Nat → Prop} (h : ∃ k, P k) : ∃ m, P m ∧ ∀ k, P k → m ≤ k := by
  obtain ⟨k, hk⟩ := h
  induction k using Nat.strongRecOn with
  | _ k ih =>
    by_cases hl : ∃ j, j < k ∧ P j
    · obtain ⟨j, hj, hp⟩ := hl
      exact ih j hj hp
    · exact ⟨k, hk, fun j hj => Nat.le_of_not_lt fun hlt => hl ⟨j, hlt, hj⟩⟩
open Classical in
noncomputable def leastN (P : Nat → Prop) : Nat := if h : ∃ k, P k then (least_of h).choose else 0
theorem leastN_ok {P : Nat → Prop} (h : ∃ k, P k) : P (leastN P) ∧ ∀ k, P k → leastN P ≤ k := by
  unfold leastN
  rw [dif_pos h]
  exact (least_of h).choose_spec

theorem go_of_den {S : Nat → List D → Option (List D)} {fuel : Nat} {R : List D → Prop} : ∀ (t : Tree) {l : List D} {B : Nat → List D → Prop} {out : Nat × List D}, t.den S fuel l = some out → outOk R B out → t.go S R l B := by
  intro t
  induction t with
  | bad n => intro l B out h; cases h
  | need ns t ih =>
    intro l B out h ho
    unfold Tree.den at h
    split at h
    · rename_i hs
      exact ⟨allB_ok hs, ih h ho⟩
    · cases h
  | br x t e iht ihe =>
    intro l B out h ho
    unfold Tree.den at h
    refine ⟨fun hx => ?_, fun hx => ?_⟩
    · rw [if_pos hx] at h
      exact iht h ho
    · rw [if_neg (by rw [hx]; decide)] at h
      exact ihe h ho
  | amb x neg t e iht ihe =>
    intro l B out h ho
    unfold Tree.den at h
    split at h
    · split at h
      · rename_i a b ha hb
        split at h
        · rename_i hs
          injection h with h
          subst h
          have := sameOut_ok hs
          subst this
          exact ⟨fun _ => iht ha ho, fun _ => ihe hb ho⟩
        · cases h
      · cases h
    · rename_i hne
      have hne' : ¬ (x.ev (evl S l)).rs = [] := fun e => hne (by rw [e]; rfl)
      split at h
      · rename_i hn
        exact ⟨fun _ => iht h ho, fun hc => absurd (hc hn) hne'⟩
      · rename_i hn
        exact ⟨fun hc => absurd (hc (by simpa using hn)) hne', fun _ => ihe h ho⟩
  | leaf xs =>
    intro l B out h ho
    simp only [Tree.den, Option.some.injEq] at h
    subst h
    exact ho
  | back id xs =>
    intro l B out h ho
    simp only [Tree.den, Option.some.injEq] at h
    subst h
    exact ho
  | loop id n init body ih =>
    intro l B out h ho
    unfold Tree.den at h
    generalize hf : (fun st => body.den S fuel (l.take n ++ st)) = f at h
    have hfe : ∀ st, body.den S fuel (l.take n ++ st) = f st := fun st => by rw [← hf]
    -- more rounds answer alike
    have mono : ∀ k st o, itf f id k st = some o → itf f id (k + 1) st = some o := by
      intro k
      induction k with
      | zero => intro st o h; cases h
      | succ k ihk =>
        intro st o h
        unfold itf at h ⊢
        split at h
        · rename_i j st' hj
          split at h
          · rename_i hb
            rw [if_pos hb]
            exact ihk _ _ h
          · rename_i hb
            rw [if_neg hb]
            exact h
        · cases h
    refine ⟨fun st => ∃ k o, itf f id k st = some o ∧ outOk R B o, fun st => leastN fun k => (itf f id k st).isSome = true, ⟨fuel, out, h, ho⟩, ?_⟩
    rintro st - ⟨k, o, hk, hoo⟩
    have hex : ∃ k, (itf f id k st).isSome = true := ⟨k, by rw [hk]; rfl⟩
    obtain ⟨hmin, -⟩ := leastN_ok hex
    obtain ⟨o', ho'⟩ := Option.isSome_iff_exists.1 hmin
    have up : ∀ a b st o, itf f id a st = some o → itf f id (a + b) st = some o := by
      intro a b
      induction b with
      | zero => intro st o h; exact h
      | succ b ihb => intro st o h; exact mono _ _ _ (ihb st o h)
    have hoo' : o' = o := by
      have h1 := up _ k st o' ho'
      have h2 := up k (leastN fun k => (itf f id k st).isSome = true) st o hk
      rw [Nat.add_comm] at h2
      exact Option.some.inj (h1.symm.trans h2)
    rw [hoo'] at ho'
    cases hm : leastN (fun k => (itf f id k st).isSome = true) with
    | zero => rw [hm] at ho'; cases ho'
    | succ m =>
      rw [hm] at ho'
      unfold itf at ho'
      split at ho'
      · rename_i j st' hj
        refine ih ((hfe st).trans hj) ?_
        split at ho'
        · rename_i hb
          obtain rfl := Nat.eq_of_beq_eq_true hb
          show updB B id _ id st'
          unfold updB
          rw [if_pos rfl]
          refine ⟨⟨m, o, ho', hoo⟩, ?_⟩
          have hex' : ∃ k, (itf f id k st').isSome = true := ⟨m, by rw [ho']; rfl⟩
          show _ < leastN (fun k => (itf f id k st).isSome = true)
          rw [hm]
          exact Nat.lt_succ_of_le ((leastN_ok hex').2 m (by rw [ho']; rfl))
        · rename_i hb
          injection ho' with ho'
          subst ho'
          cases j with
          | zero => exact hoo
          | succ j =>
            show updB B id _ j st'
            unfold updB
            rw [if_neg]
            · exact hoo
            · intro e
              subst e
              exact hb (Nat.beq_refl _)
      · cases ho'

def outs0 : Option (Nat × List D) → Option (List D)
  | some (0, xs) => some xs
  | _ => none
theorem outs0_ok {o : Option (Nat × List D)} {xs : List D} (h : outs0 o = some xs) : o = some (0, xs) := by
  unfold outs0 at h
  split at h
  · injection h with h; rw [h]
  · cases h

def denF (tbl : Tbl) (fuel : Nat) (t : Tree) : List D → Option (List D) := fun ds => outs0 (t.den (tblS tbl) fuel ds)
theorem q16 {tbl : Tbl} {fuel : Nat} {t : Tree} {ds outs : List D} (h : denF tbl fuel t ds = some outs) : t.go (tblS tbl) (fun o => o = outs) ds fun _ _ => False :=
  go_of_den t (outs0_ok h) rfl

theorem FOk.none {ct : Ct} (hen : ∀ args w, (callFunc ct.f args).run Try.prog w = .ok (.enter ct.f args) w) : FOk ct fun _ => Option.none := ⟨hen, fun A p w vs us ds outs h => by cases h⟩
def cutM (m : List D → Nat) (n : Nat) (g : List D → Option (List D)) : List D → Option (List D) := fun ds => if m ds < n then g ds else none
theorem fok_cut {ct : Ct} {m : List D → Nat} {g : List D → Option (List D)} (hen : ∀ args w, (callFunc ct.f args).run Try.prog w = .ok (.enter ct.f args) w) (h : ∀ n, FOk ct (cutM m n g) → FOk ct (cutM m (n + 1) g)) : FOk ct g := by
  have key : ∀ n, FOk ct (cutM m n g) := by
    intro n
    induction n with
    | zero => exact ⟨hen, fun A p w vs us ds outs h => by simp [cutM] at h⟩
    | succ n ih => exact h n ih
  refine ⟨hen, fun A p w vs us ds outs hg hp hl ha => (key (m ds + 1)).call A p w vs us ds outs ?_ hp hl ha⟩
  simp only [cutM, if_pos (Nat.lt_succ_self _)]
  exact hg
theorem FOk.sub {ct : Ct} {g g' : List D → Option (List D)} (h : FOk ct g) (hs : ∀ ds outs, g' ds = some outs → g ds = some outs) : FOk ct g' := ⟨h.enter, fun A p w vs us ds outs hg hp hl ha => h.call A p w vs us ds outs (hs ds outs hg) hp hl ha⟩
end Go.Proofs.Ytmebmpgffhajbaa


namespace Go.Proofs.Ytmebmpgffhajbaa
open Go.RowKit
set_option linter.unusedVariables false
set_option maxRecDepth 100000

section
variable {A A' : Nat → Prop} {p : Pins} {w : World} (hA : ∀ b, b < w.heap.size → A b → A' b)
include hA

theorem FFD.chA {dep : List Nat} {b : Nat} (hb : b < w.heap.size) (h : FFD A p dep b) : FFD A' p dep b := by
  rcases h with ⟨h1, h2⟩ | h
  · exact .inl ⟨hA b hb h1, h2⟩
  · exact .inr h

theorem Rd.chA {dep : List Nat} {d : D} {t : Ty} {cs : List Value} (h : Rd w (FFD A p dep) d t cs) : Rd w (FFD A' p dep) d t cs := Rd.mono (fun b hb hf => hf.chA hA hb) h

theorem Fl.chA {dep : List Nat} {o : Option Nat} {d : D} {t : Ty} {cs : List Value} (h : Fl A p w dep o d t cs) : Fl A' p w dep o d t cs := by
  cases o with
  | none => exact Rd.chA hA h
  | some pin =>
    rcases h with ⟨E, te, l, v, e1, hte, e2, e3, hv⟩ | h
    · refine .inl ⟨E, te, l, v, e1, hte, e2, e3, ?_⟩
      rcases hv with hv | ⟨g, cap, cur, e4, hg, hh, q1, q2, q3, q4, q5⟩
      · exact .inl hv
      · refine .inr ⟨g, cap, cur, e4, hg, hh, q1, q2, q3, q4, fun i hi => ?_⟩
        obtain ⟨vs, hr1, hd⟩ := q5 i hi
        exact ⟨vs, hr1, Rd.chA hA hd⟩
    · exact .inr h

theorem Fls.chA {dep : List Nat} {own : List (Nat × Nat)} : ∀ {ds : List D} {j : Nat} {fs : List Ty} {cs : List Value}, Fls A p w dep own j ds fs cs → Fls A' p w dep own j ds fs cs
  | [], _, _, _, h => h
  | d :: ds, j, fs, cs, ⟨t, ts, c1, c2, e1, e2, h1, h2⟩ => ⟨t, ts, c1, c2, e1, e2, Fl.chA hA h1, Fls.chA h2⟩

theorem Con.chA {dep : List Nat} {own : List (Nat × Nat)} {d : D} {t : Ty} {cs : List Value} (h : Con A p w d t own dep cs) : Con A' p w d t own dep cs := by
  unfold Con at h ⊢
  split
  · obtain ⟨fs, ds, hf, e, h⟩ := h
    exact ⟨fs, ds, hf, e, Fls.chA hA h⟩
  · rename_i hne
    split at h
    · rename_i T; exact absurd rfl (hne T)
    · exact Fl.chA hA h
end

mutual
/-- No word of a snapshot within. -/
def AV.plain : AV → Bool
  | .sn _ _ => false
  | .pt _ _ _ _ => false
  | .ar _ _ _ => false
  | .lv _ _ => false
  | .ax _ _ _ _ => false
  | .tup l => avsPlain l
  | .gd _ a => AV.plain a
  | .fn _ l => avsPlain l
  | .bx _ _ a => AV.plain a
  | .fr _ a => AV.plain a
  | _ => true
def avsPlain : List AV → Bool
  | [] => true
  | a :: l => AV.plain a && avsPlain l
end

section
variable {c c' : Cx} {p : Pins} {w : World}
mutual
theorem AV.chA (hA : ∀ b, b < w.heap.size → c.A b → c'.A b) (hv : c.v = c'.v) (hT : c.At = c'.At) : ∀ (x : AV) (v : Value), x.plain = true → x.pd c p w v → x.pd c' p w v
  | .any, v, _, h => h
  | .undef, v, _, h => h
  | .nilS, v, _, h => h
  | .nb x neg, v, _, ⟨b, e, h⟩ => ⟨b, e, by rw [← hv]; exact h⟩
  | .nilP, v, _, h => h
  | .ref k q o t, v, _, ⟨g, hg, e, ha⟩ => ⟨g, hg, e, by rw [← hT]; exact ha⟩
  | .v x t own dep, v, _, ⟨cs, hp, hc⟩ => ⟨cs, hp, by rw [← hv]; exact hc.chA hA⟩
  | .rd x t dep wr, v, _, ⟨b, o, cs, e, hf, hr, h0, hd, hw⟩ => by
    refine ⟨b, o, cs, e, hf.chA hA (rangeAt_lt hr h0), hr, h0, by rw [← hv]; exact Rd.chA hA hd, ?_⟩
    match wr, hw with
    | none, _ => trivial
    | some (pin, i, pt, q, te), hw =>
      refine ⟨hw.1, ?_⟩
      rw [← hv]
      exact hw.2
  | .tup l, v, hb, ⟨vs, e, h⟩ => ⟨vs, e, pds_chA hA hv hT l vs (by simpa [AV.plain] using hb) h⟩
  | .gd cs a, v, hb, h => by
    rw [show AV.pd c' p w (.gd cs a) v = ((hold c'.v cs = true → AV.pd c' p w a v) ∧ (hold c'.v cs = false → v = Go.undef)) from rfl, ← hv]
    exact ⟨fun hc => AV.chA hA hv hT a v (by simpa [AV.plain] using hb) (h.1 hc), h.2⟩
  | .fn f l, v, hb, ⟨vs, e, h⟩ => ⟨vs, e, pds_chA hA hv hT l vs (by simpa [AV.plain] using hb) h⟩
  | .bx k T a, v, hb, ⟨g, u, hg, e, hh, h⟩ => ⟨g, u, ⟨hg.1, by rw [← hT]; exact hg.2⟩, e, hh, AV.chA hA hv hT a u (by simpa [AV.plain] using hb) h⟩
  | .sn t a, v, hb, h => by simp [AV.plain] at hb
  | .pt _ _ _ _, v, hb, h => by simp [AV.plain] at hb
  | .ar _ _ _, v, hb, h => by simp [AV.plain] at hb
  | .lv _ _, v, hb, h => by simp [AV.plain] at hb
  | .ax _ _ _ _, v, hb, h => by simp [AV.plain] at hb
  | .fr T a, v, hb, ⟨g, u, ha, hf, e, hh, h⟩ => ⟨g, u, hA g (Array.getElem?_eq_some_iff.1 hh).1 ha, hf, e, hh, AV.chA hA hv hT a u (by simpa [AV.plain] using hb) h⟩
theorem pds_chA (hA : ∀ b, b < w.heap.size → c.A b → c'.A b) (hv : c.v = c'.v) (hT : c.At = c'.At) : ∀ (l : List AV) (vs : List Value), avsPlain l = true → pds c p w l vs → pds c' p w l vs
  | [], vs, _, h => h
  | a :: l, vs, hb, ⟨v, r, e, ha, hl⟩ => by
    simp only [avsPlain, Bool.and_eq_true] at hb
    exact ⟨v, r, e, AV.chA hA hv hT a v hb.1 ha, pds_chA hA hv hT l r hb.2 hl⟩
end

theorem EntOk.chA (hA : ∀ b, b < w.heap.size → c.A b → c'.A b) (hv : c.v = c'.v) {k : Nat} {e : Ent} (h : EntOk c p w k e) : EntOk c' p w k e := by
  obtain ⟨g, cs, T, hg, hh, hc⟩ := h
  exact ⟨g, cs, T, hg, hh, by rw [← hv]; exact hc.chA hA⟩

def snT (l : List (Nat × AV)) : List (Nat × AV) := l.map fun e => (e.1, .sn e.1 e.2)
def unsn : AV → AV
  | .sn _ a => a
  | a => a
def unT (l : List (Nat × AV)) : List (Nat × AV) := l.map fun e => (e.1, unsn e.2)
def plainT (l : List (Nat × AV)) : Bool := l.all fun e => e.2.plain

theorem lkA_mapK {α β : Type} {f : Nat → α → β} {l : List (Nat × α)} {k : Nat} {y : β} (h : lkA (l.map fun e => (e.1, f e.1 e.2)) k = some y) : ∃ x, lkA l k = some x ∧ y = f k x := by
  induction l with
  | nil => cases h
  | cons e l ih =>
    obtain ⟨m, x⟩ := e
    by_cases hm : m = k
    · subst hm
      rw [List.map_cons, q03] at h
      injection h with h
      exact ⟨x, q03, h.symm⟩
    · rw [List.map_cons, q04 hm] at h
      rw [q04 hm]
      exact ih h

theorem SF.snap (hA : ∀ b, b < w.heap.size → c.A b → c'.A b) (hv : c.v = c'.v) (hT : c.At = c'.At) {σ : St} {a : Act} (hs : ∀ t v, a.tmps[t]? = some v → c'.snap t = v) (hp : plainT σ.t = true) (h : SF c σ p w a) : SF c' ⟨snT σ.t, σ.m⟩ p w a := by
  refine ⟨fun t x hx => ?_, fun k e he => (h.m k e he).chA hA hv⟩
  obtain ⟨y, hy, rfl⟩ := lkA_mapK (f := fun t x => AV.sn t x) hx
  obtain ⟨v, h1, h2⟩ := h.t t y hy
  exact ⟨v, h1, (hs t v h1).symm, AV.chA hA hv hT y v (List.all_eq_true.1 hp _ (q1e hy)) h2⟩
theorem SF.unsnap (hA : ∀ b, b < w.heap.size → c.A b → c'.A b) (hv : c.v = c'.v) (hT : c.At = c'.At) {σ : St} {a : Act} (hp : plainT (unT σ.t) = true) (h : SF c σ p w a) : SF c' ⟨unT σ.t, σ.m⟩ p w a := by
  refine ⟨fun t x hx => ?_, fun k e he => (h.m k e he).chA hA hv⟩
  have hpl := List.all_eq_true.1 hp _ (q1e hx)
  obtain ⟨y, hy, rfl⟩ := lkA_map (f := unsn) hx
  obtain ⟨v, h1, h2⟩ := h.t t y hy
  refine ⟨v, h1, AV.chA hA hv hT _ v hpl ?_⟩
  unfold unsn
  split
  · exact h2.2
  · exact h2

theorem SF.other {σ : St} {a b : Act} (hs : ∀ t, a.tmps[t]? = some (c.snap t) ∨ a.tmps[t]? = none) (hsz : b.tmps.size ≤ a.tmps.size) (hall : ∀ t x, lkA σ.t t = some x → ∃ y, x = .sn t y) (h : SF c σ p w b) : SF c σ p w a := by
  refine ⟨fun t x hx => ?_, h.m⟩
  obtain ⟨y, rfl⟩ := hall t x hx
  obtain ⟨v, h1, h2, h3⟩ := h.t t _ hx
  have hlt := (Array.getElem?_eq_some_iff.1 h1).1
  rcases hs t with h4 | h4
  · exact ⟨v, by rw [h4, h2], h2, h3⟩
  · rw [Array.getElem?_eq_none_iff] at h4
    omega
end

section
variable {A : Nat → Prop} {p p' : Pins} {w w' w0 : World} {S0 : Nat → Prop}

theorem Bs.anew (h : Bs A w0 S0 p w) : Bs A w (pinned p) p w :=
  ⟨h.inj, h.bd, But.refl _ _, fun x b hx => .inl ⟨x, hx⟩, fun b hb => h.new b (Nat.le_trans h.but.size hb), h.pa, h.obj⟩

theorem Bs.comp (h : Bs A w0 S0 p w) (h' : Bs A w (pinned p) p' w') : Bs A w0 S0 p' w' := by
  refine ⟨h'.inj, h'.bd, ⟨h'.but.os.trans h.but.os, h'.but.tape.trans h.but.tape, h'.but.output.trans h.but.output, Nat.le_trans h.but.size h'.but.size, fun k hk hn => ?_⟩, fun x b hx => ?_, h.new, h'.pa, h'.obj⟩
  · have hkw : k < w.heap.size := Nat.lt_of_lt_of_le hk h.but.size
    refine (h'.but.block k hkw fun ⟨x, hx⟩ => ?_).trans (h.but.block k hk hn)
    rcases h.pin x k hx with h1 | h1
    · exact hn h1
    · omega
  · rcases h'.pin x b hx with ⟨y, hy⟩ | h1
    · exact h.pin y b hy
    · exact .inr (Nat.le_trans h.but.size h1)

theorem Bs.stays (h' : Bs A w (pinned p) p' w') {b : Nat} (hb : b < w.heap.size) (hf : Free p b) : w'.heap[b]? = w.heap[b]? ∧ Free p' b := by
  refine ⟨h'.but.block b hb fun ⟨x, hx⟩ => hf x hx, fun x hx => ?_⟩
  rcases h'.pin x b hx with ⟨y, hy⟩ | h1
  · exact hf y hy
  · omega
end
end Go.Proofs.Ytmebmpgffhajbaa


namespace Go.Proofs.Ytmebmpgffhajbaa
open Go.RowKit
set_option linter.unusedVariables false
set_option maxRecDepth 100000

def Keep2 (l D : Nat) (w w' : World) : Prop := w'.heap[l]? = w.heap[l]? ∧ w'.heap[D]? = w.heap[D]?

theorem bw_law {gf : FuncId} {te : Ty} (hin : BwIn gf te) (hen : ∀ (args : Array Value) (w : World), (callFunc gf args).run Try.prog w = .ok (.enter gf args) w)
    {g : Operand} {ti tx : Tmp} {assign body : Code} {Q : Exit → Act → World → Prop} {a : Act} {w : World} {nn : Nat} (hn : 3 ≤ nn)
    {gc len cap : Nat} (hg : a.eval g = .func (.func gf) #[] #[.pointer (some ⟨gc, 0, none⟩)]) {A : Option Addr} {els : Nat → List Value} {ev : Nat → Value} (hlen : len < 1152921504606846976) (hels : ∀ i, i < len → Pack te (els i) (ev i) ∧ (els i).length = te.w)
    (I : Nat → World → Prop) (M : Nat → Act → World → Prop)
    (hIr : ∀ k W, I k W → W.cell? ⟨gc, 0, none⟩ = some (.slice A len cap) ∧ ∀ i, i < len → ∃ b off, A = some ⟨b, off, none⟩ ∧ W.rangeAt b (off + i * te.w) (els i))
    (hIw : ∀ k W o, I k W → w.heap.size + 1 < W.heap.size → I k (W.putObj (w.heap.size + 1) o))
    (hMw : ∀ k a W o, M k a W → w.heap.size + 1 < W.heap.size → M k a (W.putObj (w.heap.size + 1) o))
    (h0 : ∀ o, I 0 ((w.alloc (.deferred (some []))).alloc o))
    (hassign : ∀ k W, I k W → k < len → assign.wpIn (FR (some (w.heap.size + 1))) (nn - 1 - 1) Try.prog (Exit.then (fun a1 W1 => M k a1 W1 ∧ Keep2 (w.heap.size + 1) w.heap.size W W1) (fun _ _ _ => False))
      { tmps := (a.tmps.setIfInBounds ti (.int .i64 ((len : Int) - 1 - k))).setIfInBounds tx (ev (len - 1 - k)), defers := [] } W)
    (hbody : ∀ k a1 W1, M k a1 W1 → k < len → body.wpIn (FR (some (w.heap.size + 1))) (nn - 1 - 1) Try.prog (fun e a2 W2 => e = .normal ∧ I (k + 1) W2 ∧ Keep2 (w.heap.size + 1) w.heap.size W1 W2) a1 W1)
    (hdone : ∀ W, I len W → W.heap[w.heap.size]? = some (.deferred (some [])) → Q .normal { a with defers := { target := .collected w.heap.size, args := #[] } :: a.defers } W) :
    (Code.rangeFunc g #[ti, tx] assign body).wpIn (FR none) nn Try.prog Q a w := by
  refine wpIn_rangeFunc ?_
  intro fn hfn
  obtain ⟨rec, hrec⟩ : ∃ rec : LoopState → Option Code → Loop, rec = fun st pe => { state := st, pending := pe, fn, tmps := a.tmps, params := #[ti, tx], assign, body, defers := w.heap.size } := ⟨_, rfl⟩
  have hD : ∀ o, (((w.alloc (.deferred (some []))).alloc o).heap[w.heap.size]? = some (.deferred (some []))) := fun o => by
    rw [hget, if_neg (by simp), hget, if_pos rfl]
  have hL : ∀ o, (((w.alloc (.deferred (some []))).alloc o).heap[w.heap.size + 1]? = some o) := fun o => by
    rw [hget, if_pos (by simp)]
  refine ⟨w.heap.size + 1, [{ target := .collected w.heap.size, args := #[] }], (w.alloc (.deferred (some []))).alloc (.loop (rec .ready none)), { target := .fn (.func gf) #[.pointer (some ⟨gc, 0, none⟩)], args := #[.func (.yield (w.heap.size + 1)) #[] #[]] }, (w.alloc (.deferred (some []))).alloc (.loop (rec .ready none)), gf,
    #[.func (.yield (w.heap.size + 1)) #[] #[]] ++ #[.pointer (some ⟨gc, 0, none⟩)], (w.alloc (.deferred (some []))).alloc (.loop (rec .ready none)), ?_, ?_, ?_, ?_, fun _ => by omega, ?_⟩
  · rw [hrec]; exact run_enterLoop_outer _ _ _ _ _
  · simp only [resolve, hg]
    simp [go_sem]
  · intro f' hf'; trivial
  · simp [invoke, go_sem, hen]
  · refine (hin (FR none) (nn - 1) (w.heap.size + 1) gc len cap A els ev
      (fun k W => I k W ∧ W.heap[w.heap.size + 1]? = some (.loop (rec .ready none)) ∧ W.heap[w.heap.size]? = some (.deferred (some [])))
      (fun _ _ => False) _ trivial rfl (by omega) hlen hels (fun k W hj => hIr k W hj.1) ?_ ⟨h0 _, hL _, hD _⟩).mono ?_
    · -- one round
      rintro k W ⟨hi, hl, hk⟩ hlt
      have hsz : w.heap.size + 1 < W.heap.size := (Array.getElem?_eq_some_iff.1 hl).1
      have hy := run_yield (P := Try.prog) (args := #[.int .i64 ((len : Int) - 1 - k), ev (len - 1 - k)]) hl (by rw [hrec]; rfl)
      rw [hrec] at hy
      have hz : ((#[ti, tx] : Array Tmp).zip #[Value.int .i64 ((len : Int) - 1 - k), ev (len - 1 - k)]).foldl (fun tmps (x : Tmp × Value) => tmps.setIfInBounds x.1 x.2) a.tmps = (a.tmps.setIfInBounds ti (.int .i64 ((len : Int) - 1 - k))).setIfInBounds tx (ev (len - 1 - k)) := by
        simp
      have ha := hassign k W hi hlt
      rw [← hz] at ha
      refine ⟨fn, _, assign, body, hy, roundIn_of_wpIn hfn (wpIn_mono ha ?_)⟩
      rintro e a1 W1 h1
      cases e with
      | normal =>
        obtain ⟨hm, hk1, hk2⟩ := h1
        have hl1 : W1.heap[w.heap.size + 1]? = some (.loop (rec .ready none)) := hk1.trans hl
        have hsz1 : w.heap.size + 1 < W1.heap.size := (Array.getElem?_eq_some_iff.1 hl1).1
        have hlb : (W1.putObj (w.heap.size + 1) (.loop { rec .ready none with state := .busy })).heap[w.heap.size + 1]? = some (.loop { rec .ready none with state := .busy }) := World.putObj_heap_same hsz1
        have hkb : (W1.putObj (w.heap.size + 1) (.loop { rec .ready none with state := .busy })).heap[w.heap.size]? = some (.deferred (some [])) := (World.putObj_heap_other (by omega)).trans (hk2.trans hk)
        refine ⟨_, run_beginRound hl1 (by rw [hrec]), ?_⟩
        refine wpIn_mono (hbody k a1 _ (hMw _ _ _ _ hm hsz1) hlt) ?_
        rintro e a3 W3 ⟨rfl, hi3, hk3, hk4⟩
        have hl3 := hk3.trans hlb
        have hsz3 : w.heap.size + 1 < W3.heap.size := (Array.getElem?_eq_some_iff.1 hl3).1
        have hr := run_endRound (P := Try.prog) none hl3
        refine ⟨_, _, hr, .inl ⟨rfl, hIw _ _ _ hi3 hsz3, ?_, (World.putObj_heap_other (by omega)).trans (hk4.trans hkb)⟩⟩
        have := World.putObj_heap_same (w := W3) (o := .loop { rec .ready none with state := .ready, pending := none }) hsz3
        rw [hrec] at this ⊢
        exact this
      | _ => exact h1.elim
    · -- behind the iterator
      rintro e W2 ⟨⟨v, rfl⟩, ⟨hi, hl, hk⟩ | ⟨k, hf⟩⟩
      · have hsz2 : w.heap.size + 1 < W2.heap.size := (Array.getElem?_eq_some_iff.1 hl).1
        exact ⟨none, _, by have := run_endLoop (P := Try.prog) hl (by rw [hrec]; simp); rw [hrec] at this; exact this, hdone _ (hIw _ _ _ hi hsz2) ((World.putObj_heap_other (by omega)).trans hk)⟩
      · exact hf.elim
end Go.Proofs.Ytmebmpgffhajbaa


namespace Go.Proofs.Ytmebmpgffhajbaa
open Go.RowKit
set_option linter.unusedVariables false
set_option maxRecDepth 100000

def bwG (g : FuncId) : List (FuncId × FuncId × TypeId × TypeId) → Option (FuncId × FuncId × TypeId × TypeId)
  | [] => none
  | e :: l => if Nat.beq e.2.1 g then some e else bwG g l
theorem bwG_ok {g : FuncId} {e : FuncId × FuncId × TypeId × TypeId} : ∀ {l : List (FuncId × FuncId × TypeId × TypeId)}, bwG g l = some e → e ∈ l ∧ e.2.1 = g
  | [], h => by cases h
  | x :: l, h => by
    unfold bwG at h
    split at h
    · rename_i hx
      injection h with h
      subst h
      exact ⟨List.mem_cons_self, Nat.eq_of_beq_eq_true hx⟩
    · obtain ⟨h1, h2⟩ := bwG_ok h
      exact ⟨List.mem_cons_of_mem _ h1, h2⟩

def bwFact (σ : St) (g : Operand) : Option (X × FuncId × TypeId) := match opd σ [] g with
  | some (.fn f [.fr _ (.v x (.row E) _ _)]) => some (x, f, E)
  | _ => none

def roundS (σh : St) (ti tx i : Nat) (x : X) (te : Ty) : St := ⟨putA (putA σh.t ti (.v (.tok i) (.int .i64) [] [])) tx (.v (.get x (.tok i)) te [] []), σh.m⟩

def roundE (id : Nat) (ms : List Item) (kill : List Nat) (σk : St) (i : Nat) : ResD → St → Tree := fun r σb => match r with
  | .normal => (match conv [] ms (σb.drop kill) with
    | some (σc, _, vb) => if covers σc σk then .back id (vb ++ [subX (.tok i) (.lit (.i 1))]) else .bad (3000000 + id)
    | none => .bad (4000000 + id))
  | _ => .bad (10000000 + id)

def rangeB (P : Program) (tbl : Tbl) (ann : Ann) (lo z : Nat) (id : Nat) (ms : List Item) (kill : List Nat) (g : Operand) (ti tx : Nat) (assign body : Code) (n : Nat) (σ : St) (k : Nat → St → Tree) : Tree := match conv [] ms σ with
  | some (σ1, _, vb) => (match bwFact (keptS [] ms kill n ⟨snT σ1.t, σ1.m⟩) g with
    | some (x, f, E) => (match bwG f bwTab, tyOf E with
      | some e, some te => if Nat.beq e.2.2.2 E && (flatB 8 te && (X.upto n x && (plainT σ1.t && (plainT (unT (keptS [] ms kill n ⟨snT σ1.t, σ1.m⟩).t) && (Nat.blt ti z && Nat.blt tx z))))) then
          .loop id n (vb ++ [subX (lenX x) (.lit (.i 1))])
            (.br (leX (.lit (.i 0)) (.tok (n + vb.length)))
              (toT P tbl ann lo z assign [id] (n + (vb.length + 1)) (roundS (headS [] ms n (keptS [] ms kill n ⟨snT σ1.t, σ1.m⟩)) ti tx (n + vb.length) x te) fun n1 r1 σa => match r1 with
                | .normal => toT P tbl ann lo z body [id] n1 σa fun n2 r2 σb => roundE id ms kill (keptS [] ms kill n ⟨snT σ1.t, σ1.m⟩) (n + vb.length) r2 σb
                | _ => .bad (11000000 + id))
              (k (n + (vb.length + 1)) ⟨unT (headS [] ms n (keptS [] ms kill n ⟨snT σ1.t, σ1.m⟩)).t, (headS [] ms n (keptS [] ms kill n ⟨snT σ1.t, σ1.m⟩)).m⟩))
        else .bad (12000000 + id)
      | _, _ => .bad (13000000 + id))
    | none => .bad (14000000 + id))
  | none => .need (infoS σ [] ms) (.bad (5000000 + id))

section
variable {c : Cx} {p : Pins} {w w' w0 : World} {S0 : Nat → Prop} {a : Act} {σ σ' : St} {d : List Deferred} {z : Nat} {tbl : Tbl} {A : Nat → Prop}

theorem turn_stab {l : Nat} (hA : ¬ A l) (pa : ∀ x b, p x = some b → A b) (o : Obj) : Stab A no no p w p (w.putObj l o) := by
  refine ⟨by simp, fun b hb ha hf => ⟨World.putObj_heap_other (fun e => hA (e ▸ ha)), hf⟩, fun x b _ hx => hx, fun x b _ hx => World.putObj_heap_other (fun e => hA (e ▸ pa x b hx))⟩
theorem turn_bs {l : Nat} (h : Bs A w0 S0 p w) (hA : ¬ A l) (hS : S0 l) (o : Obj) : Bs A w0 S0 p (w.putObj l o) := by
  refine ⟨h.inj, fun x b hx => by simpa using h.bd x b hx, ⟨h.but.os, h.but.tape, h.but.output, by simpa using h.but.size, fun k hk hn => (World.putObj_heap_other (fun e => hn (by rw [e]; exact hS))).trans (h.but.block k hk hn)⟩, h.pin, h.new, h.pa, fun x b hx => (h.obj x b hx).same (World.putObj_heap_other (fun e => hA (e ▸ h.pa x b hx)))⟩
theorem SF.same (hs : Stab c.A no no p w p w') (h : SF c σ p w a) : SF c σ p w' a := by
  refine ⟨fun t x hx => ?_, fun k e he => (h.m k e he).kept hs (fun _ _ => ⟨rfl, rfl⟩) ⟨rfl, rfl⟩⟩
  obtain ⟨v, h1, h2⟩ := h.t t x hx
  exact ⟨v, h1, AV.kept hs x v (fun _ _ => ⟨rfl, rfl⟩) (fun _ _ => rfl) h2⟩

theorem bwFact_ok (hf : SF c σ p w a) {g : Operand} {x : X} {f : FuncId} {E : TypeId} (h : bwFact σ g = some (x, f, E)) :
    ∃ gc T A1 cap te, a.eval g = .func (.func f) #[] #[.pointer (some ⟨gc, 0, none⟩)] ∧ c.A gc ∧ Free p gc ∧ w.heap[gc]? = some (.cells #[.slice A1 (x.ev c.v).rs.length cap] T (0, 0)) ∧ tyOf E = some te ∧ x.ev c.v = .r (x.ev c.v).rs ∧ (x.ev c.v).rs.length ≤ LM te ∧ ∃ F : Nat → Prop, RdE w F (x.ev c.v).rs te A1 0 := by
  unfold bwFact at h
  split at h
  · rename_i f' T x' E' own dep hg
    simp only [Option.some.injEq, Prod.mk.injEq] at h
    obtain ⟨rfl, rfl, rfl⟩ := h
    obtain ⟨vs, hev, v1, r, rfl, ⟨gc, u, hA, hfr, rfl, hh, cs, hp, hc⟩, hr⟩ := q06 hf rfl hg
    have hr : r = [] := hr
    subst hr
    obtain ⟨v2, rfl⟩ : ∃ v2, cs = [v2] := by
      have := hc.len.1
      match cs, this with
      | [v2], _ => exact ⟨v2, rfl⟩
    have hp : [v2] = [u] := hp
    injection hp with hp
    subst hp
    obtain ⟨te, A1, cap, hte, e1, e2, h1, h2, h3, h4⟩ := hc.row
    subst e2
    exact ⟨gc, T, A1, cap, te, hev, hA, hfr, hh, hte, e1, h2, _, h4⟩
  · cases h

theorem flat_els {te : Ty} (hb : flatB 8 te = true) {F : Nat → Prop} {l : List D} {A1 : Option Addr} (h : RdE w F l te A1 0) : ∃ (els : Nat → List Value) (ev : Nat → Value), ∀ i (hi : i < l.length), (Pack te (els i) (ev i) ∧ (els i).length = te.w) ∧ (∃ b off, A1 = some ⟨b, off, none⟩ ∧ w.rangeAt b (off + i * te.w) (els i)) ∧ ∀ (w' : World) (F' : Nat → Prop), Rd w' F' l[i] te (els i) := by
  refine ⟨fun i => (encC 8 te (l.getD i .u)).getD [], fun i => (packV te ((encC 8 te (l.getD i .u)).getD [])).getD undef, fun i hi => ?_⟩
  obtain ⟨b, o, cs, e, -, hr, hd⟩ := rdE_iff.1 h i hi
  have henc := rd_encC 8 hb hd
  have hget : l.getD i .u = l[i] := by simp [List.getD_eq_getElem?_getD, List.getElem?_eq_getElem hi]
  simp only [hget, henc, Option.getD_some]
  refine ⟨⟨?_, (Rd.len _ hd).1⟩, ⟨b, o, e, by simpa using hr⟩, fun w' F' => enc_rdC 8 henc⟩
  cases hs : isSt te with
  | true =>
    obtain ⟨S, rfl⟩ : ∃ S, te = .st S := by cases te <;> first | exact ⟨_, rfl⟩ | (cases hs; done)
    rfl
  | false =>
    obtain ⟨v, rfl⟩ := hd.single hs
    have : Pack te [v] v := one_pack hs
    rw [packV_iff.2 this]
    exact this

set_option maxHeartbeats 1000000 in
theorem rangeB_ok {nn : Nat} (hnn : 3 ≤ nn) (htb : TblOk tbl) (hnp : noPan tbl = true) {ann : Ann} {R : List D → Prop} {id : Nat} {ms : List Item} {kill : List Nat} {g : Operand} {ti tx : Nat} {assign body : Code} {n : Nat} {k : Nat → St → Tree} {l : List D} {B : Nat → List D → Prop} {Q : Exit → Act → World → Prop}
    (h : (rangeB Try.prog tbl ann c.lo z id ms kill g ti tx assign body n σ k).go (tblS tbl) R l B) (hl : l.length = n) (hb : Bs c.A w0 S0 p w) (hf : SF (c.at (tblS tbl) l) σ p w a) (hz : a.tmps.size = z)
    (hen : ∀ e ∈ bwTab, ∀ (args : Array Value) (w : World), (callFunc e.2.1 args).run Try.prog w = .ok (.enter e.2.1 args) w)
    (hk : ∀ n' σ' l' B' p' w' (c2 : Cx), l'.length = n' → l'.take n = l → (∀ j, j ≠ id → B' j = B j) → (k n' σ').go (tblS tbl) R l' B' → Bs c.A w0 S0 p' w' → c2.lo = c.lo → c2.At = c.At → (∀ b, c2.A b → c.A b) → (∀ b, w'.heap.size ≤ b → c2.A b) → (∀ x b, p' x = some b → c2.A b) → ¬ c2.A w.heap.size →
      SF (c2.at (tblS tbl) l') σ' p' w' { a with defers := { target := .collected w.heap.size, args := #[] } :: a.defers } → w'.heap[w.heap.size]? = some (.deferred (some [])) →
      Q .normal { a with defers := { target := .collected w.heap.size, args := #[] } :: a.defers } w') :
    (Code.rangeFunc g #[ti, tx] assign body).wpIn (FR none) nn Try.prog Q a w := by
  unfold rangeB at h
  split at h
  · rename_i σ1 va vb hcv
    split at h
    · rename_i x f E hbf
      split at h
      · rename_i e te hbw hte
        split at h
        · rename_i hok
          simp only [Bool.and_eq_true, Nat.blt_eq] at hok
          obtain ⟨hE, hflat, hux, hp1, hp2, hti, htx⟩ := hok
          obtain ⟨hmem, hef⟩ := bwG_ok hbw
          have hE' := Nat.eq_of_beq_eq_true hE
          subst hef
          obtain ⟨IT, μ, hI0, hgo⟩ := h
          -- the change of names
          unfold conv at hcv
          split at hcv
          · rename_i hrb
            split at hcv
            · rename_i va' vb' hva hvb
              simp only [Option.some.injEq, Prod.mk.injEq] at hcv
              obtain ⟨rfl, rfl, rfl⟩ := hcv
              obtain ⟨p1, hb1, hf1⟩ := ren_ok (c := c.at (tblS tbl) l) hrb hb hf
              have hlt : l.take n = l := by rw [← hl]; exact List.take_length
              obtain ⟨A', hA'⟩ : ∃ A' : Nat → Prop, A' = fun b => c.A b ∧ b ≠ w.heap.size ∧ b ≠ w.heap.size + 1 := ⟨_, rfl⟩
              have hAn : ∀ b, w.heap.size + 2 ≤ b → A' b := fun b hb' => by
                rw [hA']
                exact ⟨hb.new b (by have := hb.but.size; omega), by omega, by omega⟩
              have hAc : ∀ b, A' b → c.A b := fun b h => by rw [hA'] at h; exact h.1
              have hAD : ¬ A' w.heap.size := fun h => by rw [hA'] at h; exact h.2.1 rfl
              have hAL : ¬ A' (w.heap.size + 1) := fun h => by rw [hA'] at h; exact h.2.2 rfl
              have hAw : ∀ b, b < w.heap.size → c.A b → A' b := fun b hlt ha => by rw [hA']; exact ⟨ha, by omega, by omega⟩
              clear hA'
              obtain ⟨c', hcv', hcA', hclo', hcT', hcs'⟩ : ∃ c' : Cx, c'.v = c.v ∧ c'.A = A' ∧ c'.lo = c.lo ∧ c'.At = c.At ∧ c'.snap = fun t => a.tmps.getD t undef := ⟨⟨c.v, A', c.lo, c.At, c.new, fun t => a.tmps.getD t undef⟩, rfl, rfl, rfl, rfl, rfl⟩
              have hsn : ∀ t v, a.tmps[t]? = some v → c'.snap t = v := fun t v hv => by
                rw [hcs']
                show a.tmps.getD t undef = v
                rw [Array.getD_eq_getD_getElem?, hv]
                rfl
              have hs1 : SF (c'.at (tblS tbl) l) ⟨snT (σ.ren (renOf σ [] ms)).t, (σ.ren (renOf σ [] ms)).m⟩ p1 w a :=
                SF.snap (c := c.at (tblS tbl) l) (c' := c'.at (tblS tbl) l) (fun b hlt ha => by show c'.A b; rw [hcA']; exact hAw b hlt ha) rfl hcT'.symm hsn hp1 hf1
              have hsk := keptS_ok (ts := []) (ms := ms) (kill := kill) (n := n) hs1
              obtain ⟨gc, T, A1, cap, te', hev, hgA, hgF, hgh, hte', hxr, hxl, F0, hRd⟩ := bwFact_ok hsk hbf
              obtain rfl := Option.some.inj (hte'.symm.trans hte)
              obtain ⟨els, ev, hels⟩ := flat_els hflat hRd
              have hgA : A' gc := by have : c'.A gc := hgA; rwa [hcA'] at this
              obtain ⟨xs, hxs⟩ : ∃ xs, (x.ev (evl (tblS tbl) l)).rs = xs := ⟨_, rfl⟩
              have hxs' : (x.ev (c'.at (tblS tbl) l).v).rs = xs := hxs
              rw [hxs'] at hgh hxl hRd
              simp only [hxs'] at hels
              obtain ⟨w1, hw1⟩ : ∃ w1 : World, w1 = (w.alloc (.deferred (some []))).alloc (.deferred none) := ⟨_, rfl⟩
              obtain ⟨S1, hS1⟩ : ∃ S1 : Nat → Prop, S1 = fun b => pinned p1 b ∨ b = w.heap.size ∨ b = w.heap.size + 1 := ⟨_, rfl⟩
              have hw1s : w1.heap.size = w.heap.size + 2 := by rw [hw1]; simp
              have hBs0 : ∀ o, Bs A' w1 S1 p1 ((w.alloc (.deferred (some []))).alloc o) := fun o => by
                refine ⟨hb1.inj, fun y b hy => by have := hb1.bd y b hy; simp; omega, ⟨by rw [hw1]; rfl, by rw [hw1]; rfl, by rw [hw1]; rfl, by rw [hw1s]; simp, fun k hk hn => ?_⟩, fun y b hy => .inl (by rw [hS1]; exact .inl ⟨y, hy⟩), fun b hb' => hAn b (by omega), fun y b hy => hAw b (hb1.bd y b hy) (hb1.pa y b hy), fun y b hy => ?_⟩
                · rw [hS1] at hn
                  have h1 : k ≠ w.heap.size := fun e => hn (.inr (.inl e))
                  have h2 : k ≠ w.heap.size + 1 := fun e => hn (.inr (.inr e))
                  have out : ∀ o, ((w.alloc (.deferred (some []))).alloc o).heap[k]? = w.heap[k]? := fun o => by rw [hget, if_neg (by simpa using h2), hget, if_neg h1]
                  rw [out, hw1, out]
                · rcases hb1.obj y b hy with ⟨cs', T', h2⟩ | ⟨es, clock, h2⟩
                  · exact .inl ⟨cs', T', heap_old (heap_old h2)⟩
                  · exact .inr ⟨es, clock, heap_old (heap_old h2)⟩
              have hSL : S1 (w.heap.size + 1) := by rw [hS1]; exact .inr (.inr rfl)
              have hlenv : ∀ {db : List D} {i : D}, db.length = vb'.length → (db ++ [i]).length = (vb' ++ [subX (lenX x) (.lit (.i 1))]).length := fun {db i} h => by simp [h]
              have htok : ∀ {db : List D} {i : D}, db.length = vb'.length → (l.take n ++ (db ++ [i])).getD (n + vb'.length) .u = i := fun {db i} h => by
                rw [hlt, List.getD_eq_getElem?_getD, List.getElem?_append_right (by omega), List.getElem?_append_right (by omega)]
                simp [hl, h]
              have hidx : ∀ {db : List D} {i : D} {l1 : List D}, db.length = vb'.length → l1.take (n + (vb'.length + 1)) = l.take n ++ (db ++ [i]) → (X.tok (n + vb'.length)).ev (evl (tblS tbl) l1) = i := fun {db i l1} h h1 => by
                show l1.getD (n + vb'.length) .u = i
                rw [← htok (i := i) h, ← h1]
                simp only [List.getD_eq_getElem?_getD]
                rw [List.getElem?_take_of_lt (by omega)]
              have hread : ∀ {db : List D} {i : D} {p : Pins} {W : World}, SF (c'.at (tblS tbl) (l.take n ++ (db ++ [i]))) (headS [] ms n (keptS [] ms kill n ⟨snT (σ.ren (renOf σ [] ms)).t, (σ.ren (renOf σ [] ms)).m⟩)) p W a → W.heap[gc]? = some (.cells #[.slice A1 xs.length cap] T (0, 0)) →
                  W.cell? ⟨gc, 0, none⟩ = some (.slice A1 xs.length cap) ∧ ∀ i, i < xs.length → ∃ b off, A1 = some ⟨b, off, none⟩ ∧ W.rangeAt b (off + i * te'.w) (els i) := fun {db i p W} hf hg => by
                obtain ⟨gc2, T2, A2, cap2, te2, hev2, -, -, hgh2, hte2, -, -, F2, hRd2⟩ := bwFact_ok (x := x) (f := e.2.1) (E := E) hf hbf
                rw [hev] at hev2
                obtain rfl : gc = gc2 := by
                  injection hev2 with _ _ h3
                  injection h3 with h3
                  injection h3 with h3
                  injection h3 with h3
                  injection h3 with h3
                  injection h3
                rw [hg] at hgh2
                have hx2 : (x.ev (c'.at (tblS tbl) (l.take n ++ (db ++ [i]))).v).rs = xs := by
                  rw [← hxs]
                  congr 1
                  refine X.q08 (n := n) (e := evl (tblS tbl) (l.take n ++ (db ++ [i]))) (e' := evl (tblS tbl) l) (fun k hk => ?_) rfl x hux
                  show (l.take n ++ (db ++ [i])).getD k .u = l.getD k .u
                  exact getD_take hk _ (by omega)
                rw [hx2] at hgh2 hRd2
                injection hgh2 with hgh2
                injection hgh2 with hgh2
                injection hgh2 with hgh2
                injection hgh2 with hgh2
                injection hgh2 with e1 e2 e3
                subst e1 e3
                obtain rfl := Option.some.inj (hte2.symm.trans hte)
                refine ⟨by rw [cell_of_row W gc 0 _ T (0, 0) hg]; rfl, fun j hj => ?_⟩
                obtain ⟨b, o, cs, e1, -, hr, hd⟩ := rdE_iff.1 hRd2 j hj
                have q1 := rd_encC 8 hflat hd
                have q2 := rd_encC 8 hflat ((hels j hj).2.2 W F2)
                rw [q1] at q2
                injection q2 with q2
                subst q2
                exact ⟨b, o, e1, by simpa using hr⟩
              have hhead : ∀ {db : List D} {i : D} {l2 : List D} {p : Pins} {W : World}, db.length = vb'.length → n ≤ l2.length → l2.take n = l → SF (c'.at (tblS tbl) l2) (keptS [] ms kill n ⟨snT (σ.ren (renOf σ [] ms)).t, (σ.ren (renOf σ [] ms)).m⟩) p W a → ItM c'.A p W ms db → SF (c'.at (tblS tbl) (l.take n ++ (db ++ [i]))) (headS [] ms n (keptS [] ms kill n ⟨snT (σ.ren (renOf σ [] ms)).t, (σ.ren (renOf σ [] ms)).m⟩)) p W a := fun {db i l2 p W} h1 h2 h3 h4 h5 =>
                head_ok (c := c'.at (tblS tbl) l2) (c' := c'.at (tblS tbl) (l.take n ++ (db ++ [i]))) (da := []) (db := db) rfl rfl ⟨rfl, rfl⟩ (fun k hk => by
                  show l2.getD k .u = (l.take n ++ (db ++ [i])).getD k .u
                  rw [getD_take hk _ (by omega), ← h3]
                  simp only [List.getD_eq_getElem?_getD]
                  rw [List.getElem?_take_of_lt hk]) (fun j hj => by
                  have hj : j < db.length := by simpa using hj
                  show (l.take n ++ (db ++ [i])).getD (n + j) .u = _
                  simp only [List.getD_eq_getElem?_getD]
                  rw [List.getElem?_append_right (by simp; omega)]
                  have e1 : n + j - (l.take n).length = j := by simp; omega
                  rw [e1, List.getElem?_append_left hj]
                  rfl) h4 rfl h5
              have hgcL : gc ≠ w.heap.size + 1 := fun e => hAL (by rw [← e]; exact hgA)
              refine bw_law (bw_in e hmem te' (by rw [hE']; exact hte)) (hen e hmem) hnn (gc := gc) (len := xs.length) (cap := cap) (A := A1) (els := els) (ev := ev) hev (by have hxl := Nat.le_trans hxl (LM_le _); unfold LIM at hxl; omega) (fun i hi => (hels i hi).1)
                (fun k W => ∃ (p : Pins) (db : List D), db.length = vb'.length ∧ IT (db ++ [.i ((xs.length : Int) - 1 - k)]) ∧ Bs A' w1 S1 p W ∧ SF (c'.at (tblS tbl) (l.take n ++ (db ++ [.i ((xs.length : Int) - 1 - k)]))) (headS [] ms n (keptS [] ms kill n ⟨snT (σ.ren (renOf σ [] ms)).t, (σ.ren (renOf σ [] ms)).m⟩)) p W a ∧ W.heap[gc]? = some (.cells #[.slice A1 xs.length cap] T (0, 0)) ∧ Free p gc)
                (fun k a1 W => ∃ (p : Pins) (db : List D) (n1 : Nat) (σa : St) (l1 : List D) (B1 : Nat → List D → Prop), db.length = vb'.length ∧ l1.length = n1 ∧ l1.take (n + (vb'.length + 1)) = l.take n ++ (db ++ [.i ((xs.length : Int) - 1 - k)]) ∧ B1 id = (fun st' => IT st' ∧ μ st' < μ (db ++ [.i ((xs.length : Int) - 1 - k)])) ∧
                  (toT Try.prog tbl ann c.lo z body [id] n1 σa (fun n2 r2 σb => roundE id ms kill (keptS [] ms kill n ⟨snT (σ.ren (renOf σ [] ms)).t, (σ.ren (renOf σ [] ms)).m⟩) (n + vb'.length) r2 σb)).go (tblS tbl) R l1 B1 ∧ Bs A' w1 S1 p W ∧ SF (c'.at (tblS tbl) l1) σa p W a1 ∧ a1.defers = [] ∧ a1.tmps.size = z ∧ W.heap[gc]? = some (.cells #[.slice A1 xs.length cap] T (0, 0)) ∧ Free p gc)
                (fun k W ⟨p, db, h1, h2, h3, h4, h5, h6⟩ => hread h4 h5) ?_ ?_ ?_ ?_ ?_ ?_
              · rintro k W o ⟨p, db, h1, h2, h3, h4, h5, h6⟩ -
                exact ⟨p, db, h1, h2, turn_bs h3 hAL hSL o, SF.same (by show Stab c'.A no no p W p _; rw [hcA']; exact turn_stab hAL h3.pa o) h4, (World.putObj_heap_other hgcL).trans h5, h6⟩
              · rintro k a1 W o ⟨p, db, n1, σa, l1, B1, h1, h2, h3, h4, h5, h6, h7, h8, h9, h10, h11⟩ -
                exact ⟨p, db, n1, σa, l1, B1, h1, h2, h3, h4, h5, turn_bs h6 hAL hSL o, SF.same (by show Stab c'.A no no p W p _; rw [hcA']; exact turn_stab hAL h6.pa o) h7, h8, h9, (World.putObj_heap_other hgcL).trans h10, h11⟩
              · intro o
                have hit := its_M hs1 hvb
                have hst : Stab c'.A no no p1 w p1 ((w.alloc (.deferred (some []))).alloc o) := by
                  refine ⟨by simp; omega, fun b hb ha hf => ⟨by rw [hget, if_neg (by simp; omega), hget, if_neg (by omega)], hf⟩, fun y b _ hy => hy, fun y b _ hy => ?_⟩
                  have := hb1.bd y b hy
                  rw [hget, if_neg (by simp; omega), hget, if_neg (by omega)]
                refine ⟨p1, _, evs_len _, ?_, hBs0 o, SF.same hst (hhead (evs_len _) (by omega) hlt hsk hit), heap_old (heap_old hgh), hgF⟩
                rw [evs_app] at hI0
                have e1 : X.evs (evl (tblS tbl) l) [subX (lenX x) (.lit (.i 1))] = [.i ((xs.length : Int) - 1 - (0 : Nat))] := by
                  show [(subX (lenX x) (.lit (.i 1))).ev (evl (tblS tbl) l)] = _
                  rw [subX_ev]
                  show [D.i (((lenX x).ev (evl (tblS tbl) l)).int - 1)] = _
                  rw [lenX_ev]
                  show [D.i (((x.ev (evl (tblS tbl) l)).rs.length : Int) - 1)] = _
                  rw [hxs]
                  simp
                rw [e1] at hI0
                exact hI0
              · rintro k W ⟨p, db, h1, h2, h3, h4, h5, h6⟩ hk1
                have hcond : ((leX (.lit (.i 0)) (.tok (n + vb'.length))).ev (evl (tblS tbl) (l.take n ++ (db ++ [D.i ((xs.length : Int) - 1 - k)])))).tt = true := by
                  rw [leX_ev, hidx (db := db) (i := .i ((xs.length : Int) - 1 - k)) h1 (by rw [List.take_of_length_le (by simp [h1]; omega)])]
                  show decide ((0 : Int) ≤ (xs.length : Int) - 1 - k) = true
                  simp
                  omega
                have hgk := (hgo _ (hlenv h1) h2).1 hcond
                have hli : (l.take n ++ (db ++ [D.i ((xs.length : Int) - 1 - k)])).length = n + (vb'.length + 1) := by simp [h1]; omega
                have htk : (X.tok (n + vb'.length)).ev (c'.at (tblS tbl) (l.take n ++ (db ++ [D.i ((xs.length : Int) - 1 - k)]))).v = .i ((xs.length : Int) - 1 - k) := htok h1
                have hx2 : (x.ev (c'.at (tblS tbl) (l.take n ++ (db ++ [D.i ((xs.length : Int) - 1 - k)]))).v).rs = xs := by
                  refine Eq.trans (congrArg D.rs ?_) hxs
                  refine X.q08 (n := n) (e := evl (tblS tbl) (l.take n ++ (db ++ [D.i ((xs.length : Int) - 1 - k)]))) (e' := evl (tblS tbl) l) (fun k hk => ?_) rfl x hux
                  exact getD_take hk _ (by omega)
                have hr0 : SF (c'.at (tblS tbl) (l.take n ++ (db ++ [D.i ((xs.length : Int) - 1 - k)]))) (headS [] ms n (keptS [] ms kill n ⟨snT (σ.ren (renOf σ [] ms)).t, (σ.ren (renOf σ [] ms)).m⟩)) p W { tmps := a.tmps, defers := [] } := ⟨h4.t, h4.m⟩
                have hr1 := hr0.put (t := ti) (x := .v (.tok (n + vb'.length)) (.int .i64) [] []) (v := .int .i64 ((xs.length : Int) - 1 - k)) (by show ti < a.tmps.size; omega) (mk_int htk (by have hxl := Nat.le_trans hxl (LM_le _); unfold LIM at hxl; simp [rngB]; omega))
                have hel := hels (xs.length - 1 - k) (by omega)
                have hr2 := hr1.put (t := tx) (x := .v (.get x (.tok (n + vb'.length))) te' [] []) (v := ev (xs.length - 1 - k)) (by show tx < (a.tmps.setIfInBounds ti _).size; simp; omega) ⟨els (xs.length - 1 - k), hel.1.1, Con.of_rd (by
                  have e1 : (X.get x (.tok (n + vb'.length))).ev (c'.at (tblS tbl) (l.take n ++ (db ++ [D.i ((xs.length : Int) - 1 - k)]))).v = xs[xs.length - 1 - k]'(by omega) := by
                    show (x.ev (c'.at (tblS tbl) (l.take n ++ (db ++ [D.i ((xs.length : Int) - 1 - k)]))).v).get ((X.tok (n + vb'.length)).ev (c'.at (tblS tbl) (l.take n ++ (db ++ [D.i ((xs.length : Int) - 1 - k)]))).v).int = _
                    rw [htk]
                    show (x.ev (c'.at (tblS tbl) (l.take n ++ (db ++ [D.i ((xs.length : Int) - 1 - k)]))).v).rs.getD ((xs.length : Int) - 1 - k).toNat .u = _
                    rw [hx2]
                    have e2 : ((xs.length : Int) - 1 - k).toNat = xs.length - 1 - k := by omega
                    rw [e2]
                    simp [List.getD_eq_getElem?_getD, List.getElem?_eq_getElem (show xs.length - 1 - k < xs.length by omega)]
                  rw [e1]
                  exact hel.2.2 W _)⟩
                have h3' : Bs c'.A W (pinned p) p W := by rw [hcA']; exact h3.anew
                rw [← hclo'] at hgk
                refine toT_ok (some (w.heap.size + 1)) (nn - 1 - 1) (c := c') (w0 := W) (S0 := pinned p) (d := []) (z := z) htb assign hgk hli h3' hr2 rfl (by simp; exact hz) (noPan_q hnp) (noPan_r hnp) fun n1 r1 σa l1 B1 p2 W2 a2 q1 q2 q3 q4 q5 q6 q7 q8 => ?_
                cases r1 with
                | normal =>
                  have q5' : Bs A' W (pinned p) p2 W2 := by rw [← hcA']; exact q5
                  have hfl : ∀ b, ¬ A' b → Free p b := fun b hb x hx => hb (h3.pa x b hx)
                  have hWs : w.heap.size + 2 ≤ W.heap.size := by have := h3.but.size; omega
                  have hgs := q5'.stays (b := gc) (Array.getElem?_eq_some_iff.1 h5).1 h6
                  rw [hclo'] at q4
                  exact ⟨⟨p2, db, n1, σa, l1, B1, h1, q1, q2, (q3 id List.mem_cons_self).trans (by unfold updB; rw [if_pos rfl]), q4, h3.comp q5', q6, q7, q8, hgs.1.trans h5, hgs.2⟩, (q5'.stays (by omega) (hfl _ hAL)).1, (q5'.stays (by omega) (hfl _ hAD)).1⟩
                | ret => exact q4.elim
                | exit i => exact q4.elim
              · rintro k a1 W ⟨p, db, n1, σa, l1, B1, h1, h2, h3, h4, h5, h6, h7, h8, h9, h10, h11⟩ hk1
                rw [← hclo'] at h5
                have h6' : Bs c'.A W (pinned p) p W := by rw [hcA']; exact h6.anew
                refine toT_ok (some (w.heap.size + 1)) (nn - 1 - 1) (c := c') (w0 := W) (S0 := pinned p) (d := []) (z := z) htb body h5 h2 h6' h7 h8 h9 (noPan_q hnp) (noPan_r hnp) fun n2 r2 σb l2 B2 p2 W2 a2 q1 q2 q3 q4 q5 q6 q7 q8 => ?_
                cases r2 with
                | normal =>
                  have q5' : Bs A' W (pinned p) p2 W2 := by rw [← hcA']; exact q5
                  unfold roundE at q4
                  simp only at q4
                  have hf2 := SF.un (c := c'.at (tblS tbl) l2) (q := dropQ kill σb) q5.inj q5.pa q6
                  have hb2 := q5.un (dropQ kill σb)
                  change SF _ (σb.drop kill) _ _ _ at hf2
                  split at q4
                  · rename_i σc va2 vb2 hcv2
                    split at q4
                    · rename_i hcov
                      unfold conv at hcv2
                      split at hcv2
                      · rename_i hrb2
                        split at hcv2
                        · rename_i wa wb hwa hwb
                          simp only [Option.some.injEq, Prod.mk.injEq] at hcv2
                          obtain ⟨rfl, rfl, rfl⟩ := hcv2
                          obtain ⟨p3, hb3, hf3⟩ := ren_ok (c := c'.at (tblS tbl) l2) hrb2 hb2 hf2
                          have hb3' : Bs A' W (pinned p) p3 W2 := by rw [← hcA']; exact hb3
                          have hit := its_M hf3 hwb
                          have hlen1 : n + (vb'.length + 1) ≤ n1 := by
                            have := congrArg List.length h3
                            simp [h1, h2] at this
                            omega
                          have hl2 : l2.take (n + (vb'.length + 1)) = l.take n ++ (db ++ [D.i ((xs.length : Int) - 1 - k)]) := by
                            rw [← h3, ← q2, List.take_take, Nat.min_eq_left hlen1]
                          have hl2n : l2.take n = l := by
                            have h1 : (l2.take (n + (vb'.length + 1))).take n = (l.take n ++ (db ++ [D.i ((xs.length : Int) - 1 - k)])).take n := by rw [hl2]
                            rw [List.take_take, Nat.min_eq_left (by omega)] at h1
                            rw [h1, List.take_append_of_le_length (by simp; omega), List.take_take, Nat.min_self, hlt]
                          have hnl : n ≤ l2.length := by
                            have := congrArg List.length hl2n
                            simp at this
                            omega
                          have hbk : B2 id (X.evs (evl (tblS tbl) l2) (wb ++ [subX (.tok (n + vb'.length)) (.lit (.i 1))])) := q4
                          rw [q3 id List.mem_cons_self, h4, evs_app] at hbk
                          have e1 : X.evs (evl (tblS tbl) l2) [subX (.tok (n + vb'.length)) (.lit (.i 1))] = [.i ((xs.length : Int) - 1 - (k + 1 : Nat))] := by
                            show [(subX (.tok (n + vb'.length)) (.lit (.i 1))).ev (evl (tblS tbl) l2)] = _
                            rw [subX_ev, hidx h1 hl2]
                            show [D.i (((xs.length : Int) - 1 - k) - 1)] = _
                            congr 2
                            omega
                          rw [e1] at hbk
                          have hcvr := covers_ok hcov hf3
                          have hoth := SF.other (a := a) (b := a2) (fun t => by
                            show a.tmps[t]? = some (c'.snap t) ∨ _
                            cases hv : a.tmps[t]? with
                            | none => exact .inr rfl
                            | some v => exact .inl (by rw [hsn t v hv])) (by omega) (fun t y hy => by
                            obtain ⟨u, -, e⟩ := lkA_mapK (f := fun t x => AV.sn t x) (sel_lk hy).1
                            exact ⟨u, e⟩) hcvr
                          have hgs := hb3'.stays (b := gc) (Array.getElem?_eq_some_iff.1 h10).1 h11
                          have hfl : ∀ b, ¬ A' b → Free p b := fun b hb x hx => hb (h6.pa x b hx)
                          have hWs : w.heap.size + 2 ≤ W.heap.size := by have := h6.but.size; omega
                          exact ⟨rfl, ⟨p3, _, by rw [evs_len, its_len hwb, its_len hvb], hbk.1, h6.comp hb3', hhead (by rw [evs_len, its_len hwb, its_len hvb]) hnl hl2n hoth hit, hgs.1.trans h10, hgs.2⟩, (hb3'.stays (by omega) (hfl _ hAL)).1, (hb3'.stays (by omega) (hfl _ hAD)).1⟩
                        · cases hcv2
                      · cases hcv2
                    · exact q4.elim
                  · exact q4.elim
                | ret => exact q4.elim
                | exit i => exact q4.elim
              · rintro W ⟨p, db, h1, h2, h3, h4, h5, h6⟩ hD
                have hcond : ((leX (.lit (.i 0)) (.tok (n + vb'.length))).ev (evl (tblS tbl) (l.take n ++ (db ++ [D.i ((xs.length : Int) - 1 - (xs.length : Nat))])))).tt = false := by
                  rw [leX_ev, hidx (db := db) (i := .i ((xs.length : Int) - 1 - (xs.length : Nat))) h1 (by rw [List.take_of_length_le (by simp [h1]; omega)])]
                  show decide ((0 : Int) ≤ (xs.length : Int) - 1 - (xs.length : Nat)) = false
                  simp
                  omega
                have hgk := (hgo _ (hlenv h1) h2).2 hcond
                have hun := SF.unsnap (σ := headS [] ms n (keptS [] ms kill n ⟨snT (σ.ren (renOf σ [] ms)).t, (σ.ren (renOf σ [] ms)).m⟩)) (c := c'.at (tblS tbl) (l.take n ++ (db ++ [D.i ((xs.length : Int) - 1 - (xs.length : Nat))]))) (c' := c'.at (tblS tbl) (l.take n ++ (db ++ [D.i ((xs.length : Int) - 1 - (xs.length : Nat))]))) (fun b _ ha => ha) rfl rfl hp2 h4
                have hWs : w.heap.size + 2 ≤ W.heap.size := by have := h3.but.size; omega
                refine hk _ _ _ _ p W c' (by simp [h1]; omega) (by rw [List.take_append_of_le_length (by simp; omega), List.take_take, Nat.min_self, hlt]) (fun j hj => by unfold updB; rw [if_neg hj]) hgk ?_ hclo' hcT' (fun b hb' => hAc b (by rwa [hcA'] at hb')) (fun b hb' => by rw [hcA']; exact hAn b (by omega)) (fun x b hx => by rw [hcA']; exact h3.pa x b hx) (fun h => hAD (by rwa [hcA'] at h)) ⟨hun.t, hun.m⟩ hD
                have hws : w0.heap.size ≤ w.heap.size := hb1.but.size
                have hSn : ∀ b, S1 b → S0 b ∨ w0.heap.size ≤ b := fun b hb' => by
                  rw [hS1] at hb'
                  rcases hb' with ⟨x, hx⟩ | e | e
                  · exact hb1.pin x b hx
                  · exact .inr (by omega)
                  · exact .inr (by omega)
                refine ⟨h3.inj, h3.bd, ⟨?_, ?_, ?_, by have := h3.but.size; omega, fun j hj hn => ?_⟩, fun x b hx => ?_, hb.new, fun x b hx => hAc b (h3.pa x b hx), h3.obj⟩
                · exact (h3.but.os.trans (by rw [hw1]; rfl)).trans hb1.but.os
                · exact (h3.but.tape.trans (by rw [hw1]; rfl)).trans hb1.but.tape
                · exact (h3.but.output.trans (by rw [hw1]; rfl)).trans hb1.but.output
                · refine (h3.but.block j (by omega) fun hs => ?_).trans ?_
                  · rcases hSn j hs with h | h
                    · exact hn h
                    · omega
                  · rw [hw1, hget, if_neg (by simp; omega), hget, if_neg (by omega)]
                    exact hb1.but.block j hj hn
                · rcases h3.pin x b hx with h | h
                  · exact hSn b h
                  · exact .inr (by omega)
            · cases hcv
          · cases hcv
        · exact h.elim
      · exact h.elim
    · exact h.elim
  · exact h.2.elim
end
end Go.Proofs.Ytmebmpgffhajbaa


namespace Go.Proofs.Ytmebmpgffhajbaa
open Go.RowKit
set_option linter.unusedVariables false
set_option maxRecDepth 100000

def markD (D : Nat) : Deferred := { target := .collected D, args := #[] }
def Dfs (A : Nat → Prop) (lb : Nat) (d : List Deferred) (w : World) (ds : List Deferred) : Prop := ∃ Ds : List Nat, ds = Ds.map markD ++ d ∧ Ds.Nodup ∧ ∀ D ∈ Ds, lb ≤ D ∧ w.heap[D]? = some (.deferred (some [])) ∧ ¬ A D

def toU (P : Program) (tbl : Tbl) (ann : Ann) (lo z : Nat) : Code → Nat → St → (Nat → ResD → St → Tree) → Tree
  | .seq x y, n, σ, k => toU P tbl ann lo z x n σ fun n' r σ' => match r with
    | .normal => toU P tbl ann lo z y n' σ' k
    | .ret => k n' .ret σ'
    | .exit i => k n' (.exit i) σ'
  | .cond c x y, n, σ, k => (match opd σ [] c with
    | some (.v b .bool _ _) => .br b (toU P tbl ann lo z x n σ k) (toU P tbl ann lo z y n σ k)
    | _ => .bad (1000000 + firstId x))
  | .block id c, n, σ, k => toU P tbl ann lo z c n σ fun n' r σ' => match r with
    | .exit i => if Nat.beq i id then k n' .normal σ' else k n' (.exit i) σ'
    | .ret => k n' .ret σ'
    | .normal => k n' .normal σ'
  | .rangeFunc g ps assign body, n, σ, k => (match lkA ann.heads (firstId assign - 1), ps.toList with
    | some h, [ti, tx] => rangeB P tbl ann lo z (firstId assign - 1) (heads h (σ.drop h.kill)).2 h.kill g ti tx assign body n (σ.drop h.kill) fun n' σ' => k n' .normal σ'
    | _, _ => .bad (15000000 + firstId assign))
  | cd, n, σ, k => toT P tbl ann lo z cd [] n σ k

theorem Bs.up {A A' : Nat → Prop} {p p' : Pins} {w w' w0 : World} {S0 : Nat → Prop} (h : Bs A w0 S0 p w) (h' : Bs A' w (pinned p) p' w') (hA : ∀ b, A' b → A b) : Bs A w0 S0 p' w' :=
  h.comp ⟨h'.inj, h'.bd, h'.but, h'.pin, fun b hb => h.new b (Nat.le_trans h.but.size hb), fun x b hx => hA b (h'.pa x b hx), h'.obj⟩

section
variable {lo z : Nat} {tbl : Tbl}

theorem toU_ok {nn : Nat} (hnn : 3 ≤ nn) (htb : TblOk tbl) (hnp : noPan tbl = true) {ann : Ann} {R : List D → Prop} (hen : ∀ e ∈ bwTab, ∀ (args : Array Value) (w : World), (callFunc e.2.1 args).run Try.prog w = .ok (.enter e.2.1 args) w) :
    ∀ (cd : Code) {c : Cx} {n : Nat} {σ : St} {k : Nat → ResD → St → Tree} {l : List D} {B : Nat → List D → Prop} {p : Pins} {w : World} {a : Act} {Q : Exit → Act → World → Prop},
    (toU Try.prog tbl ann lo z cd n σ k).go (tblS tbl) R l B → c.lo = lo → l.length = n → Bs c.A w (pinned p) p w → SF (c.at (tblS tbl) l) σ p w a → a.tmps.size = z →
    (∀ n' r σ' l' B' p' w' a' (c2 : Cx), l'.length = n' → l'.take n = l → (k n' r σ').go (tblS tbl) R l' B' → c2.lo = lo → c2.At = c.At → (∀ b, c2.A b → c.A b) → Bs c.A w (pinned p) p' w' → Bs c2.A w' (pinned p') p' w' → SF (c2.at (tblS tbl) l') σ' p' w' a' → Dfs c2.A w.heap.size a.defers w' a'.defers → a'.tmps.size = z → Q r.exit' a' w') → cd.wpIn (FR none) nn Try.prog Q a w := by
  intro cd
  induction cd with
  | seq x y ihx ihy =>
    intro c n σ k l B p w a Q h hlo hl hb hf hz hk
    simp only [toU] at h
    refine wpIn_seq (ihx h hlo hl hb hf hz fun n' r σ' l' B' p' w' a' c1 hl' hpre hgo hlo1 hT1 hA1 hb' hbn hf' hd' hz' => ?_)
    cases r with
    | normal =>
      refine ihy hgo hlo1 hl' hbn hf' hz' fun n2 r2 σ2 l2 B2 p2 w2 a2 c2 hl2 hpre2 hgo2 hlo2 hT2 hA2 hb2 hbn2 hf2 hd2 hz2 => hk n2 r2 σ2 l2 B2 p2 w2 a2 c2 hl2 ?_ hgo2 hlo2 (hT2.trans hT1) (fun b h => hA1 b (hA2 b h)) (hb'.up hb2 hA1) hbn2 hf2 ?_ hz2
      · have hnn : n ≤ n' := by
          have := congrArg List.length hpre
          simp at this
          omega
        rw [← hpre, ← hpre2, List.take_take, Nat.min_eq_left hnn]
      · obtain ⟨D1, e1, n1, g1⟩ := hd'
        obtain ⟨D2, e2, n2, g2⟩ := hd2
        have hlt : ∀ D ∈ D1, D < w'.heap.size := fun D hD => (Array.getElem?_eq_some_iff.1 (g1 D hD).2.1).1
        refine ⟨D2 ++ D1, by rw [e2, e1]; simp, List.nodup_append.2 ⟨n2, n1, fun x hx y hy e => ?_⟩, fun D hD => ?_⟩
        · have h1 := (g2 x hx).1
          have h2 := hlt y hy
          omega
        · rcases List.mem_append.1 hD with h1 | h1
          · exact ⟨Nat.le_trans hb'.but.size (g2 D h1).1, (g2 D h1).2⟩
          · have hs := hb2.stays (hlt D h1) (fun x hx => (g1 D h1).2.2 (hbn.pa x D hx))
            exact ⟨(g1 D h1).1, hs.1.trans (g1 D h1).2.1, fun h => (g1 D h1).2.2 (hA2 D h)⟩
    | ret => exact hk n' .ret σ' l' B' p' w' a' c1 hl' hpre hgo hlo1 hT1 hA1 hb' hbn hf' hd' hz'
    | exit i => exact hk n' (.exit i) σ' l' B' p' w' a' c1 hl' hpre hgo hlo1 hT1 hA1 hb' hbn hf' hd' hz'
  | cond b x y ihx ihy =>
    intro c n σ k l B p w a Q h hlo hl hb hf hz hk
    simp only [toU] at h
    split at h
    · rename_i q _ _ hc
      obtain ⟨u, e1, e2⟩ := pd_bool (q06 hf rfl hc)
      have e1' : (q.ev (evl (tblS tbl) l)) = .b u := e1
      cases u with
      | true => exact wpIn_cond_true e2 (ihx (h.1 (by rw [e1']; rfl)) hlo hl hb hf hz hk)
      | false => exact wpIn_cond_false e2 (ihy (h.2 (by rw [e1']; rfl)) hlo hl hb hf hz hk)
    · exact h.elim
  | block id cd ih =>
    intro c n σ k l B p w a Q h hlo hl hb hf hz hk
    simp only [toU] at h
    refine wpIn_block (ih h hlo hl hb hf hz fun n' r σ' l' B' p' w' a' c1 hl' hpre hgo hlo1 hT1 hA1 hb' hbn hf' hd' hz' => ?_)
    cases r with
    | normal => exact hk n' .normal σ' l' B' p' w' a' c1 hl' hpre hgo hlo1 hT1 hA1 hb' hbn hf' hd' hz'
    | ret => exact hk n' .ret σ' l' B' p' w' a' c1 hl' hpre hgo hlo1 hT1 hA1 hb' hbn hf' hd' hz'
    | exit i =>
      show Exit.inBlock id Q (.exit i) a' w'
      simp only at hgo
      by_cases hi : i = id
      · rw [if_pos (by rw [hi]; exact Nat.beq_refl id)] at hgo
        simp only [Exit.inBlock, if_pos hi]
        exact hk n' .normal σ' l' B' p' w' a' c1 hl' hpre hgo hlo1 hT1 hA1 hb' hbn hf' hd' hz'
      · rw [if_neg (fun e => hi (Nat.eq_of_beq_eq_true e))] at hgo
        simp only [Exit.inBlock, if_neg hi]
        exact hk n' (.exit i) σ' l' B' p' w' a' c1 hl' hpre hgo hlo1 hT1 hA1 hb' hbn hf' hd' hz'
  | rangeFunc g ps assign body iha ihb =>
    intro c n σ k l B p w a Q h hlo hl hb hf hz hk
    simp only [toU] at h
    split at h
    · rename_i hh ti tx hann hps
      have hps' : ps = #[ti, tx] := by
        apply Array.ext'
        exact hps
      subst hps'
      have hb1 := hb.un (dropQ hh.kill σ)
      have hf1 := SF.un (c := c.at (tblS tbl) l) (q := dropQ hh.kill σ) hb.inj hb.pa hf
      rw [← hlo] at h
      refine rangeB_ok (c := c) (σ := σ.drop hh.kill) hnn htb hnp h hl hb1 hf1 hz hen fun n' σ' l' B' p' w' c2 hl' hpre _ hgo hb' hlo2 hT2 hA2 hnew hpa hnD hf' hD => ?_
      exact hk n' .normal σ' l' B' p' w' _ c2 hl' hpre hgo (hlo2.trans hlo) hT2 hA2 hb' ⟨hb'.inj, hb'.bd, But.refl _ _, fun x b hx => .inl ⟨x, hx⟩, hnew, hpa, hb'.obj⟩ hf' ⟨[w.heap.size], rfl, by simp, fun D hD' => by
        obtain rfl : D = w.heap.size := by simpa using hD'
        exact ⟨Nat.le_refl _, hD, hnD⟩⟩ hz
    · exact h.elim
  | _ =>
    intro c n σ k l B p w a Q h hlo hl hb hf hz hk
    subst hlo
    exact toT_ok none nn (c := c) (w0 := w) (S0 := pinned p) (d := a.defers) (z := z) htb _ h hl hb hf rfl hz (noPan_q hnp) (noPan_r hnp) fun n' r σ' l' B' p' w' a' hl' hpre _ hgo hb' hf' hd' hz' => hk n' r σ' l' B' p' w' a' c hl' hpre hgo rfl rfl (fun b h => h) hb' hb'.anew hf' ⟨[], by rw [hd']; rfl, by simp, fun D hD => by cases hD⟩ hz'
end
end Go.Proofs.Ytmebmpgffhajbaa


namespace Go.Proofs.Ytmebmpgffhajbaa
open Go.RowKit
set_option linter.unusedVariables false
set_option maxRecDepth 100000

def treeU (P : Program) (tbl : Tbl) (ann : Ann) (ct : Ct) (fn : Func) (cd : Code) : Tree :=
  toU P tbl ann ct.ar.length fn.ntmps cd (dataN ct.ars) (begS ct) (endT ct fn.results.toList)

def shut (w : World) (D : Nat) : World := w.putObj D (.deferred none)
def shutAll (w : World) (Ds : List Nat) : World := Ds.foldl shut w

theorem marks_end {F : Fence} {n : Nat} {fn : Func} {tmps : Array Value} {R : Ending → World → Prop} : ∀ (Ds : List Nat) (w : World), Ds.Nodup → (∀ D ∈ Ds, w.heap[D]? = some (.deferred (some []))) → LeavesIn F n Try.prog fn tmps R [] .returning (shutAll w Ds) → LeavesInM F n Try.prog fn tmps R (Ds.map markD) .returning w
  | [], w, _, _, h => h
  | D :: Ds, w, hn, hd, h => by
    obtain ⟨h1, h2⟩ := List.nodup_cons.1 hn
    exact ⟨by simp, .inl ⟨D, _, rfl, run_takeDeferred (hd D List.mem_cons_self), marks_end Ds _ h2 (fun D' hD' => (World.putObj_heap_other (fun e => h1 (by rw [← e]; exact hD'))).trans (hd D' (List.mem_cons_of_mem _ hD'))) h⟩⟩

theorem marks_same {A : Nat → Prop} {p : Pins} (pa : ∀ x b, p x = some b → A b) : ∀ (Ds : List Nat) (w : World), (∀ D ∈ Ds, ¬ A D) → Stab A no no p w p (shutAll w Ds)
  | [], w, _ => Stab.refl _ _ _ _ _
  | D :: Ds, w, h => by
    have h1 := turn_stab (w := w) (h D List.mem_cons_self) pa (.deferred none)
    have h2 := marks_same pa Ds (w.putObj D (.deferred none)) fun D' hD' => h D' (List.mem_cons_of_mem _ hD')
    exact ⟨Nat.le_trans h1.size h2.size, fun b hb ha hf => ⟨(h2.free b (Nat.lt_of_lt_of_le hb h1.size) ha hf).1.trans (h1.free b hb ha hf).1, hf⟩, fun x b _ hx => hx, fun x b _ hx => (h2.con x b rfl hx).trans (h1.con x b rfl hx)⟩

theorem marks_bs {A A' : Nat → Prop} {p : Pins} {w0 : World} {S0 : Nat → Prop} (pa : ∀ x b, p x = some b → A' b) : ∀ (Ds : List Nat) (w : World), Bs A w0 S0 p w → (∀ D ∈ Ds, w0.heap.size ≤ D ∧ ¬ A' D) → Bs A w0 S0 p (shutAll w Ds)
  | [], w, h, _ => h
  | D :: Ds, w, h, hD => by
    obtain ⟨h1, h2⟩ := hD D List.mem_cons_self
    refine marks_bs pa Ds (w.putObj D (.deferred none)) ⟨h.inj, fun x b hx => by simpa using h.bd x b hx, ⟨h.but.os, h.but.tape, h.but.output, by simpa using h.but.size, fun k hk hn => (World.putObj_heap_other (by omega)).trans (h.but.block k hk hn)⟩, h.pin, h.new, h.pa, fun x b hx => (h.obj x b hx).same (World.putObj_heap_other (fun e => h2 (by rw [← e]; exact pa x b hx)))⟩ fun D' hD' => hD D' (List.mem_cons_of_mem _ hD')

theorem ResL.chA {A A' : Nat → Prop} {p : Pins} {w : World} (hA : ∀ b, b < w.heap.size → A b → A' b) : ∀ {rs : List (Ty × Bool)} {k : Nat} {vs : List Value} {ds : List D}, ResL A p w rs k vs ds → ResL A' p w rs k vs ds
  | [], _, _, _, h => h
  | (t, own) :: l, k, vs, ds, ⟨v, r, d, ds', e1, e2, ⟨cs, hp, hc⟩, h⟩ => ⟨v, r, d, ds', e1, e2, ⟨cs, hp, hc.chA hA⟩, ResL.chA hA h⟩
theorem RefL.chA {A A' : Nat → Prop} {p p' : Pins} {w : World} (hA : ∀ b, b < w.heap.size → A b → A' b) : ∀ {all : List (Nat × Ar)} {ds : List D}, RefL A p p' w all ds → RefL A' p p' w all ds
  | [], _, h => h
  | (i, r) :: l, ds, h => by
    cases r with
    | ref t =>
      obtain ⟨d, ds', e, ⟨g, cs, T, h1, h2, h3, hc⟩, h⟩ := h
      exact ⟨d, ds', e, ⟨g, cs, T, h1, h2, h3, hc.chA hA⟩, RefL.chA hA h⟩
    | mref t =>
      obtain ⟨d, ds', e, ⟨g, h1, h2, hc⟩, h⟩ := h
      exact ⟨d, ds', e, ⟨g, h1, h2, hc.chA hA⟩, RefL.chA hA h⟩
    | _ => exact RefL.chA hA (all := l) h

def noMr : Ar → Bool
  | .mref _ => false
  | _ => true
set_option maxHeartbeats 1000000 in
theorem fok_ofU {ct : Ct} {g : List D → Option (List D)} {tbl : Tbl} (ann : Ann) (fn : Func) (cd : Code) (htb : TblOk tbl) (hbw : ∀ e ∈ bwTab, ∀ (args : Array Value) (w : World), (callFunc e.2.1 args).run Try.prog w = .ok (.enter e.2.1 args) w) (hf : Try.prog.funcs[ct.f]? = some fn) (hb : fn.body = some cd)
    (hen : ∀ args w, (callFunc ct.f args).run Try.prog w = .ok (.enter ct.f args) w) (hsz : ct.ar.length ≤ fn.ntmps)
    (h : ∀ ds outs, WfA ct.ars ds → g ds = some outs → (treeU Try.prog tbl ann ct fn cd).go (tblS tbl) (fun o => o = outs) ds fun _ _ => False) (hnp : noPan tbl = true := by rfl) (hmr : (ct.all.all fun e => noMr e.2) = true := by rfl) : FOk ct g := by
  refine ⟨hen, fun A p w vs us ds outs hg hpre hvl hargs => callsIn_wide.1 (callsIn_of_wp_marks (F := FR none) (n := 5) hf hb trivial ?_)⟩
  obtain ⟨hwf, hdl, -⟩ := hargs.wf
  rw [all_map] at hwf hdl
  have hgo := h ds outs hwf hg
  let c : Cx := ⟨evl (tblS tbl) ds, A, ct.ar.length, fun k g => (k < ct.ar.length ∨ VB ≤ k) → p (k * 16) = some g, fun k g hk h2 h => absurd h (by omega), fun q => (vs ++ us).getD q undef⟩
  have hb0 : Bs c.A w (pinned p) p w := ⟨hpre.inj, hpre.bd, But.refl _ _, fun x b hx => .inl ⟨x, hx⟩, hpre.new, hpre.pa, hpre.obj⟩
  have hsf : SF (c.at (tblS tbl) ds) (begS ct) p w { tmps := vs.toArray ++ Array.replicate (fn.ntmps - vs.toArray.size) undef, defers := [] } := by
    refine ⟨fun t x hx => ?_, begM_ok (c := c.at (tblS tbl) ds) (A := A) rfl (fun k => rfl) hargs fun e he => List.mem_iff_getElem?.1 he⟩
    obtain ⟨h1, h2⟩ := begT_ok (c := c.at (tblS tbl) ds) (A := A) (n0 := ct.ar.length) rfl rfl rfl hargs (fun k => rfl) _ _ t x hx
    have hlt : t < vs.length := by omega
    refine ⟨(vs ++ us).getD t undef, ?_, h2⟩
    show (vs.toArray ++ _)[t]? = _
    rw [Array.getElem?_append_left (by simpa using hlt), List.getD_eq_getElem?_getD, List.getElem?_append_left hlt]
    simp [List.getElem?_eq_getElem hlt]
  refine toU_ok (nn := 5) (by omega) htb hnp hbw cd (c := c) hgo rfl hdl hb0 hsf (by simp; omega) fun n' r σ' l' B' p' w' a' c2 hl' hpre' hgo' hlo2 hT2 hA2 hb' hbn hf' hd' hz' => ?_
  obtain ⟨Ds, hds, hnd, hDs⟩ := hd'
  have hds : a'.defers = Ds.map markD := by rw [hds]; simp
  have hst := marks_same hbn.pa Ds w' fun D hD => (hDs D hD).2.2
  have hbF := marks_bs hbn.pa Ds w' hb' fun D hD => ⟨(hDs D hD).1, (hDs D hD).2.2⟩
  have hfF : SF (c2.at (tblS tbl) l') σ' p' (shutAll w' Ds) a' := SF.same hst hf'
  have hbnF : Bs c2.A (shutAll w' Ds) (pinned p') p' (shutAll w' Ds) := ⟨hbF.inj, hbF.bd, But.refl _ _, fun x b hx => .inl ⟨x, hx⟩, fun b hb => hbn.new b (Nat.le_trans hst.size hb), hbn.pa, hbF.obj⟩
  have fin' : ∀ xs, fin ct fn.results.toList σ' = some xs → X.evs (evl (tblS tbl) l') xs = outs → ∃ v, (results fn a'.tmps).run Try.prog (shutAll w' Ds) = .ok v (shutAll w' Ds) ∧ ((∃ T, ct.pn = some T ∧ outs = [.u] ∧ (Ending.returned v) = .panicked (panCh T) ∧ But (pinned p) w (shutAll w' Ds)) ∨ ∃ rs p2, (Ending.returned v) = .returned (retV rs) ∧ Bs A w (pinned p) p2 (shutAll w' Ds) ∧ ResL A p2 (shutAll w' Ds) ct.rs ct.ar.length rs (outs.take ct.rs.length) ∧ RefL A p p2 (shutAll w' Ds) ct.all (outs.drop ct.rs.length)) := by
    intro xs hfin hout
    unfold fin at hfin
    simp only at hfin
    split at hfin
    · rename_i hok
      simp only [Bool.and_eq_true] at hok
      split at hfin
      · rename_i xa xb hxa hxb
        injection hfin with hfin
        subst hfin
        have hb1 := hbnF.un (fun y => !hasN ((resRen σ' (fn.results.toList.zip ct.rs) ct.ar.length ++ refRen σ' ct.all).map (·.1) ++ (refKeys ct.all ++ cellKeys σ' fn.results.toList)) y)
        have hf1 := SF.un (c := c2.at (tblS tbl) l') (q := fun y => !hasN ((resRen σ' (fn.results.toList.zip ct.rs) ct.ar.length ++ refRen σ' ct.all).map (·.1) ++ (refKeys ct.all ++ cellKeys σ' fn.results.toList)) y) hbnF.inj hbnF.pa hfF
        obtain ⟨p2, hb2, hf2⟩ := ren_ok (c := c2.at (tblS tbl) l') hok.1 hb1 hf1
        obtain ⟨l, h1, h2, h3⟩ := resX_ok hf2 (Nat.eq_of_beq_eq_true hok.2) hxa
        have h4 := refX_ok (p0 := p) (n0 := ct.ar.length) hf2 hT2 (fun e he => all_key he) (fun i t hm => (List.all_eq_true.1 hmr _ hm |> fun h => by cases h)) hxb
        have hev : X.evs (evl (tblS tbl) l') xa ++ X.evs (evl (tblS tbl) l') xb = outs := by rw [← evs_app]; exact hout
        have hla : (X.evs (evl (tblS tbl) l') xa).length = ct.rs.length := by rw [evs_len, h3]
        refine ⟨_, results_run h1, .inr ⟨l, p2, rfl, hbF.up hb2 hA2, ResL.chA (A := c2.A) (fun b _ h => hA2 b h) ?_, RefL.chA (A := c2.A) (fun b _ h => hA2 b h) ?_⟩⟩
        · rw [← hev, List.take_append_of_le_length (by omega), ← hla, List.take_length]
          exact h2
        · rw [← hev, ← hla, List.drop_left]
          exact h4
      · cases hfin
    · cases hfin
  have last : ∀ xs, fin ct fn.results.toList σ' = some xs → X.evs (evl (tblS tbl) l') xs = outs → LeavesInM (FR none) 5 Try.prog fn a'.tmps (fun e w' => (∃ T, ct.pn = some T ∧ outs = [.u] ∧ e = .panicked (panCh T) ∧ But (pinned p) w w') ∨ ∃ rs p', e = .returned (retV rs) ∧ Bs A w (pinned p) p' w' ∧ ResL A p' w' ct.rs ct.ar.length rs (outs.take ct.rs.length) ∧ RefL A p p' w' ct.all (outs.drop ct.rs.length)) a'.defers .returning w' := fun xs hx ho => by
    rw [hds]
    exact marks_end Ds w' hnd (fun D hD => (hDs D hD).2.1) (fin' xs hx ho)
  cases r with
  | exit i => exact hgo'.elim
  | normal =>
    simp only [endT] at hgo'
    split at hgo'
    · rename_i xs hx
      exact last xs hx hgo'
    · exact hgo'.elim
  | ret =>
    simp only [endT] at hgo'
    split at hgo'
    · rename_i xs hx
      exact last xs hx hgo'
    · exact hgo'.elim
end Go.Proofs.Ytmebmpgffhajbaa


namespace Go.Proofs.Ytmebmpgffhajbaa
open Go.RowKit
set_option linter.unusedVariables false
set_option linter.unusedSimpArgs false

theorem int_i (n : Int) : (D.i n).int = n := rfl
theorem tt_b (x : Bool) : (D.b x).tt = x := by cases x <;> rfl
theorem rs_r (l : List D) : (D.r l).rs = l := rfl
theorem fs_a (l : List D) : (D.a l).fs = l := rfl
theorem str_s (x : ByteArray) : (D.s x).str = x := rfl
theorem ms_mp (l : List D) : (D.mp l).ms = l := rfl
theorem i_inj (m n : Int) : (D.i m = D.i n) = (m = n) := by simp
theorem b_inj (m n : Bool) : (D.b m = D.b n) = (m = n) := by simp
theorem s_inj (m n : ByteArray) : (D.s m = D.s n) = (m = n) := by simp
theorem q00 {S : Nat → List D → Option (List D)} {R : List D → Prop} {ns : List X} {t : Tree} {l : List D} {B : Nat → List D → Prop} : (Tree.need ns t).go S R l B = (allSay (evl S l) ns ∧ t.go S R l B) := rfl
theorem go_br {S : Nat → List D → Option (List D)} {R : List D → Prop} {x : X} {t e : Tree} {l : List D} {B : Nat → List D → Prop} : (Tree.br x t e).go S R l B = (((x.ev (evl S l)).tt = true → t.go S R l B) ∧ ((x.ev (evl S l)).tt = false → e.go S R l B)) := rfl
theorem q01 {S : Nat → List D → Option (List D)} {R : List D → Prop} {xs : List X} {l : List D} {B : Nat → List D → Prop} : (Tree.leaf xs).go S R l B = R (X.evs (evl S l) xs) := rfl
theorem q02 {S : Nat → List D → Option (List D)} {R : List D → Prop} {id : Nat} {xs : List X} {l : List D} {B : Nat → List D → Prop} : (Tree.back id xs).go S R l B = B id (X.evs (evl S l) xs) := rfl
theorem q17 {S : Nat → List D → Option (List D)} {R : List D → Prop} {id n : Nat} {init : List X} {body : Tree} {l : List D} {B : Nat → List D → Prop} : (Tree.loop id n init body).go S R l B = ∃ (I : List D → Prop) (μ : List D → Nat), I (X.evs (evl S l) init) ∧
      ∀ st, st.length = init.length → I st → body.go S R (l.take n ++ st) (updB B id fun st' => I st' ∧ μ st' < μ st) := rfl
theorem rng64 {n : Int} : rngB .i64 n = true ↔ -9223372036854775808 ≤ n ∧ n ≤ 9223372036854775807 := by simp [rngB]

section
variable {α : Type} [Inhabited α]
theorem get_map (e : α → D) {l : List α} {i : Nat} (h : i < l.length) : (l.map e).getD i .u = e (l.getD i default) := by
  simp [List.getD_eq_getElem?_getD, h]
theorem get_r (e : α → D) {l : List α} {i : Int} (h0 : 0 ≤ i) (h : i < l.length) : (D.r (l.map e)).get i = e (l.getD i.toNat default) := get_map e (by omega)
theorem get_n (e : α → D) {l : List α} {i : Nat} (h : i < l.length) : (D.r (l.map e)).get (i : Int) = e (l.getD i default) := get_map e (by simpa using h)
omit [Inhabited α] in
theorem of_all {e : α → D} {P : α → Prop} {l : List D} (h : ∀ x ∈ l, ∃ a, x = e a ∧ P a) : ∃ m : List α, l = m.map e ∧ ∀ a ∈ m, P a := by
  induction l with
  | nil => exact ⟨[], rfl, fun a ha => by cases ha⟩
  | cons x l ih =>
    obtain ⟨a, rfl, ha⟩ := h x List.mem_cons_self
    obtain ⟨m, rfl, hm⟩ := ih fun y hy => h y (List.mem_cons_of_mem _ hy)
    refine ⟨a :: m, rfl, fun b hb => ?_⟩
    rcases List.mem_cons.1 hb with rfl | hb
    · exact ha
    · exact hm b hb
theorem getD_mem {l : List α} {i : Nat} (h : i < l.length) : l.getD i default ∈ l := by
  rw [List.getD_eq_getElem?_getD, List.getElem?_eq_getElem h]
  exact List.getElem_mem h
theorem take_snoc {l : List α} {k : Nat} (h : k < l.length) : l.take (k + 1) = l.take k ++ [l.getD k default] := by
  rw [List.take_add_one, List.getElem?_eq_getElem h]
  simp [List.getD_eq_getElem?_getD, h]
end

theorem all_yes {n : Nat} {P : Nat → Bool} (h : ∀ j, j < n → P j = true) : (List.range n).all P = true := by
  rw [List.all_eq_true]
  exact fun j hj => h j (List.mem_range.1 hj)
theorem all_not {n k : Nat} {P : Nat → Bool} (hk : k < n) (h : P k = false) : (List.range n).all P = false := by
  cases ha : (List.range n).all P with
  | false => rfl
  | true => rw [List.all_eq_true.1 ha k (List.mem_range.2 hk)] at h; cases h
theorem all_of {n k : Nat} {P : Nat → Bool} (h : (List.range n).all P = true) (hk : k < n) : P k = true := List.all_eq_true.1 h k (List.mem_range.2 hk)
theorem upto_succ {P : Nat → Prop} {k : Nat} (h : ∀ j, j < k → P j) (hk : P k) : ∀ j, j < k + 1 → P j := fun j hj => by
  rcases Nat.lt_succ_iff_lt_or_eq.1 hj with h1 | h1
  · exact h j h1
  · exact h1 ▸ hk

theorem wfL2 {ds : List D} {t u : Ty} (h : WfL ds [t, u]) : ∃ a b, ds = [a, b] ∧ Wf a t ∧ Wf b u := by
  match ds, h with
  | [], h => cases h
  | [a], h => obtain ⟨t, ts, e, h1, h2⟩ := h; rw [h2] at e; cases e
  | [a, b], h =>
    obtain ⟨t, ts, e, h1, t2, ts2, e2, h2, -⟩ := h
    injection e with e e'
    subst e e'
    injection e2 with e2 e2'
    subst e2
    exact ⟨a, b, rfl, h1, h2⟩
  | a :: b :: c :: l, h => obtain ⟨t, ts, e, h1, t2, ts2, e2, h2, t3, ts3, e3, -⟩ := h; subst e2 e3; cases e
theorem wfL_cons {ds : List D} {t : Ty} {ts : List Ty} (h : WfL ds (t :: ts)) : ∃ a r, ds = a :: r ∧ Wf a t ∧ WfL r ts := by
  match ds, h with
  | [], h => cases h
  | a :: r, h =>
    obtain ⟨t, ts, e, h1, h2⟩ := h
    injection e with e e'
    subst e e'
    exact ⟨a, r, rfl, h1, h2⟩
theorem Wf.st_of {d : D} {S : TypeId} {fs : List Ty} (h : Wf d (.st S)) (hf : flds S = some fs) : ∃ ds, d = .a ds ∧ WfL ds fs := by
  obtain ⟨ds, fs', rfl, hf', hl⟩ := h.st
  rw [hf] at hf'
  injection hf' with hf'
  subst hf'
  exact ⟨ds, rfl, hl⟩
theorem Wf.row_of {d : D} {E : TypeId} {te : Ty} (h : Wf d (.row E)) (hE : tyOf E = some te) : ∃ l, d = .r l ∧ l.length ≤ LM te ∧ ∀ x ∈ l, Wf x te := by
  obtain ⟨l, te', rfl, hE', h1, h2⟩ := h.row
  rw [hE] at hE'
  injection hE' with hE'
  subst hE'
  exact ⟨l, rfl, h1, h2⟩
end Go.Proofs.Ytmebmpgffhajbaa


namespace Go.Proofs.Ytmebmpgffhajbaa
open Go.RowKit
set_option linter.unusedVariables false
set_option maxRecDepth 100000

def treeH (P : Program) (tbl : Tbl) (ann : Ann) (ct : Ct) (fn : Func) (A B : Code) (f : St → Option (List X × St)) : Tree :=
  toT P tbl ann ct.ar.length fn.ntmps A [] (dataN ct.ars) (begS ct) fun n r σ => match r with
    | .normal => (match f σ with
      | some (N, σ') => needT N (toT P tbl ann ct.ar.length fn.ntmps B [] n σ' (endT ct fn.results.toList))
      | none => .bad 7700000)
    | .ret => endT ct fn.results.toList n .ret σ
    | .exit i => endT ct fn.results.toList n (.exit i) σ

noncomputable def codeA : Code := match Try.f31.body with
  | some (.seq r0 (.seq r1 (.seq r2 (.seq (.seq r3 _) _)))) => .seq r0 (.seq r1 (.seq r2 r3))
  | _ => .skip
noncomputable def codeL : Code := match Try.f31.body with
  | some (.seq r0 (.seq r1 (.seq r2 (.seq (.seq r3 l) _)))) => l
  | _ => .skip
noncomputable def codeB : Code := match Try.f31.body with
  | some (.seq r0 (.seq r1 (.seq r2 (.seq (.seq r3 _) b)))) => b
  | _ => .skip

def killO : List Nat := [8, 27, 28, 29, 30, 31, 32, 33, 34, 35, 36, 37, 38, 39, 40, 41, 42]
def keepO (pin : Nat) (σ : St) : St := ⟨keepT (oneQ pin) no (σ.t.filter fun e => !hasN killO e.1), keepM (oneQ pin) no σ.m⟩
def doOlds (σ : St) : Option (List X × St) := match lkA σ.t 25, lkA σ.t 26, lkA σ.t 27, lkA σ.t 6, lkA σ.m 6 with
  | some (.v xT (.row U) own dep), some (.v xn (.int .i64) _ _), some (.v (.lit (.i 0)) (.int .i64) _ _), some (.ref 6 [] 0 tm), some ⟨.lit (.mp []), te, [(0, pin)], _⟩ =>
    if Nat.beq U 37 && (Ty.beq tm (.map 3 23) && (Ty.beq te tm && (!Nat.beq pin 96 && !hasN (own.map (·.2) ++ dep) pin))) then
      some ([.eq xn (.len xT)], ⟨((keepO pin σ).un (oneQ pin)).t, putA ((keepO pin σ).un (oneQ pin)).m 6 ⟨.fn 16 [xT], tm, [], []⟩⟩)
    else none
  | _, _, _, _, _ => none
end Go.Proofs.Ytmebmpgffhajbaa


namespace Go.Proofs.Ytmebmpgffhajbaa
open Go.RowKit
set_option linter.unusedVariables false
set_option maxRecDepth 100000

theorem row_ty : tyOf 23 = some (.row 31) := by kernel_rfl
theorem int_ty : tyOf 3 = some (.int .i64) := by kernel_rfl
theorem mapO_ty : tyOf 93 = some (.map 3 23) := by kernel_rfl

section
variable {W W' : World} {te : Ty}

def El (W : World) (te : Ty) (ds : List D) (v : Value) (b : Nat) : Prop := ∃ cap cur, v = .slice (some ⟨b, 0, none⟩) ds.length cap ∧ W.heap[b]? = some (.cells cur 31 (0, 0)) ∧ ds.length ≤ cap ∧ cap ≤ maxLen ∧ cur.size = cap * te.w ∧ ds.length ≤ LM te ∧
  ∀ i (h : i < ds.length), ∃ cs, W.rangeAt b (i * te.w) cs ∧ Rd W (fun _ => False) ds[i] te cs

theorem El.keep {ds : List D} {v : Value} {b : Nat} (hfl : flatB 8 te = true) (h : El W te ds v b) (he : W'.heap[b]? = W.heap[b]?) : El W' te ds v b := by
  obtain ⟨cap, cur, h1, h2, h3, h4, h5, h6, h7⟩ := h
  refine ⟨cap, cur, h1, he.trans h2, h3, h4, h5, h6, fun i hi => ?_⟩
  obtain ⟨cs, q1, q2⟩ := h7 i hi
  exact ⟨cs, rangeAt_blk q1 he, Rd.flat 8 _ hfl q2⟩

def Els (W : World) (te : Ty) : List D → List MapEntry → List Nat → Prop
  | [], [], [] => True
  | p :: l, e :: es, b :: bs => (∃ k ds, p = .a [.i k, .r ds] ∧ e.key = .int .i64 k ∧ rngB .i64 k = true ∧ El W te ds e.val b) ∧ Els W te l es bs
  | _, _, _ => False

theorem Els.keep (hfl : flatB 8 te = true) : ∀ {l : List D} {es : List MapEntry} {bs : List Nat}, Els W te l es bs → (∀ b ∈ bs, W'.heap[b]? = W.heap[b]?) → Els W' te l es bs
  | [], [], [], _, _ => trivial
  | p :: l, e :: es, b :: bs, ⟨⟨k, ds, h1, h2, h3, h4⟩, h⟩, hb => ⟨⟨k, ds, h1, h2, h3, h4.keep hfl (hb b (by simp))⟩, Els.keep hfl h fun x hx => hb x (by simp [hx])⟩
  | [], [], _ :: _, h, _ => h.elim
  | [], _ :: _, _, h, _ => h.elim
  | _ :: _, [], _, h, _ => h.elim
  | _ :: _, _ :: _, [], h, _ => h.elim

theorem encI {k : Int} (h : rngB .i64 k = true) : encV (.int .i64) (.i k) = some (.int .i64 k) := by
  simp [encV, encC, h, packV]

theorem Els.keys : ∀ {l : List D} {es : List MapEntry} {bs : List Nat}, Els W te l es bs → MapK (.int .i64) l es
  | [], [], [], _ => trivial
  | p :: l, e :: es, b :: bs, ⟨⟨k, ds, h1, h2, h3, h4⟩, h⟩ => ⟨⟨.i k, .r ds, h1, by rw [encI h3, h2]⟩, Els.keys h⟩
  | [], [], _ :: _, h => h.elim
  | [], _ :: _, _, h => h.elim
  | _ :: _, [], _, h => h.elim
  | _ :: _, _ :: _, [], h => h.elim

theorem Els.rdM {F : Nat → Prop} {C : TypeId} (hC : tyOf C = some te) (hCC : C = 31) (hfl : flatB 8 te = true) : ∀ {l : List D} {es : List MapEntry} {bs : List Nat}, Els W te l es bs → (∀ b ∈ bs, F b) → RdM W F l (.int .i64) (.row C) es
  | [], [], [], _, _ => rfl
  | p :: l, e :: es, b :: bs, ⟨⟨k, ds, h1, h2, h3, cap, cur, q1, q2, q3, q4, q5, q6, q7⟩, h⟩, hF => by
    refine ⟨e, es, rfl, rdK_iff.2 ⟨.i k, .r ds, [.int .i64 k], [e.val], h1, ⟨.i64, rfl, rfl, h3⟩, by rw [h2]; rfl, ?_, rfl⟩, Els.rdM hC hCC hfl h fun x hx => hF x (by simp [hx])⟩
    rw [q1]
    refine ⟨C, te, some ⟨b, 0, none⟩, cap, rfl, hC, rfl, q3, q6, q4, rdE_iff.2 fun j hj => ?_⟩
    obtain ⟨cs, r1, r2⟩ := q7 j hj
    exact ⟨b, 0, cs, rfl, hF b (by simp), by simpa using r1, Rd.flat 8 _ hfl r2⟩
  | [], [], _ :: _, h, _ => h.elim
  | [], _ :: _, _, h, _ => h.elim
  | _ :: _, [], _, h, _ => h.elim
  | _ :: _, _ :: _, [], h, _ => h.elim

theorem Els.old (hfl : flatB 8 te = true) {k : Int} : ∀ {l : List D} {es : List MapEntry} {bs : List Nat} {i j : Nat} {v : Value}, Els W te l es bs → bs.Nodup → fsD (.i k) l es i = some (i + j, v) →
    ∃ b ds, bs[j]? = some b ∧ El W te ds v b ∧ (es[j]?).map (·.key) = some (.int .i64 k) ∧ ∀ (x : D) (W' : World) (v' : Value) (b' : Nat), (∀ y ∈ bs, y ≠ b → W'.heap[y]? = W.heap[y]?) → El W' te (ds ++ [x]) v' b' →
      Els W' te (addK (.i k) x l) (es.modify j fun e => { e with key := .int .i64 k, val := v' }) (bs.set j b')
  | [], [], [], i, j, v, h, _, hf => by simp [fsD] at hf
  | p :: l, e :: es, b :: bs, i, j, v, ⟨⟨k', ds, h1, h2, h3, h4⟩, h⟩, hnd, hf => by
    subst h1
    rw [List.nodup_cons] at hnd
    by_cases hk : k = k'
    · subst hk
      have hf1 : D.i k = D.fld (.a [.i k, .r ds]) 0 := rfl
      simp only [fsD, if_pos hf1, Option.some.injEq, Prod.mk.injEq] at hf
      obtain ⟨hij, rfl⟩ := hf
      obtain rfl : j = 0 := by omega
      refine ⟨b, ds, rfl, h4, by simp [h2], fun x W' v' b' hW hE => ?_⟩
      have : addK (.i k) x (.a [.i k, .r ds] :: l) = .a [.i k, .r (ds ++ [x])] :: l := by
        simp [addK, D.fld, D.fs, D.rs]
      rw [this]
      show Els W' te (.a [.i k, .r (ds ++ [x])] :: l) ({ e with key := .int .i64 k, val := v' } :: es) (b' :: bs)
      exact ⟨⟨k, ds ++ [x], rfl, rfl, h3, hE⟩, h.keep hfl fun y hy => hW y (by simp [hy]) fun e => by subst e; exact hnd.1 hy⟩
    · have hf1 : ¬ D.i k = D.fld (.a [.i k', .r ds]) 0 := fun e => hk (by simpa [D.fld, D.fs] using e)
      simp only [fsD, if_neg hf1] at hf
      have hj : ∃ m, j = m + 1 := by
        have key : ∀ {l : List D} {es : List MapEntry} {i m : Nat} {v : Value}, fsD (.i k) l es i = some (m, v) → i ≤ m := by
          intro l
          induction l with
          | nil => intro es i m v h; simp [fsD] at h
          | cons p l ih =>
            intro es i m v h
            cases es with
            | nil => simp [fsD] at h
            | cons e es =>
              unfold fsD at h
              split at h
              · simp only [Option.some.injEq, Prod.mk.injEq] at h; omega
              · have := ih h; omega
        have := key hf
        exact ⟨j - 1, by omega⟩
      obtain ⟨m, rfl⟩ := hj
      obtain ⟨b0, ds0, q1, q2, q3, q4⟩ := Els.old hfl (i := i + 1) (j := m) (v := v) h hnd.2 (by rw [hf]; congr 2; omega)
      refine ⟨b0, ds0, by simpa using q1, q2, by simpa using q3, fun x W' v' b' hW hE => ?_⟩
      have hne : ¬ D.fld (.a [.i k', .r ds]) 0 = D.i k := fun e => hf1 e.symm
      have : addK (.i k) x (.a [.i k', .r ds] :: l) = .a [.i k', .r ds] :: addK (.i k) x l := by
        simp only [addK, if_neg hne]
      rw [this]
      show Els W' te (.a [.i k', .r ds] :: addK (.i k) x l) (e :: es.modify m fun e => { e with key := .int .i64 k, val := v' }) (b :: bs.set m b')
      refine ⟨⟨k', ds, rfl, h2, h3, h4.keep hfl (hW b (by simp) fun e => ?_)⟩, q4 x W' v' b' (fun y hy hne => hW y (by simp [hy]) hne) hE⟩
      subst e
      exact hnd.1 (List.mem_of_getElem? q1)
  | [], [], _ :: _, _, _, _, h, _, _ => h.elim
  | [], _ :: _, _, _, _, _, h, _, _ => h.elim
  | _ :: _, [], _, _, _, _, h, _, _ => h.elim
  | _ :: _, _ :: _, [], _, _, _, h, _, _ => h.elim

theorem Els.new (hfl : flatB 8 te = true) {k : Int} (hk : rngB .i64 k = true) {x : D} {W' : World} {v' : Value} {b' c : Nat} (hE : El W' te [x] v' b') : ∀ {l : List D} {es : List MapEntry} {bs : List Nat} {i : Nat}, Els W te l es bs → (∀ y ∈ bs, W'.heap[y]? = W.heap[y]?) → fsD (.i k) l es i = none →
    Els W' te (addK (.i k) x l) (es ++ [{ key := .int .i64 k, val := v', born := c }]) (bs ++ [b'])
  | [], [], [], i, h, _, hf => ⟨⟨k, [x], rfl, rfl, hk, hE⟩, trivial⟩
  | p :: l, e :: es, b :: bs, i, ⟨⟨k', ds, h1, h2, h3, h4⟩, h⟩, hW, hf => by
    subst h1
    by_cases hkk : D.i k = D.fld (.a [.i k', .r ds]) 0
    · simp [fsD, if_pos hkk] at hf
    · simp only [fsD, if_neg hkk] at hf
      have hne : ¬ D.fld (.a [.i k', .r ds]) 0 = D.i k := fun e => hkk e.symm
      have : addK (.i k) x (.a [.i k', .r ds] :: l) = .a [.i k', .r ds] :: addK (.i k) x l := by
        simp only [addK, if_neg hne]
      rw [this]
      exact ⟨⟨k', ds, rfl, h2, h3, h4.keep hfl (hW b (by simp))⟩, Els.new hfl hk hE h (fun y hy => hW y (by simp [hy])) hf⟩
  | [], [], _ :: _, _, h, _, _ => h.elim
  | [], _ :: _, _, _, h, _, _ => h.elim
  | _ :: _, [], _, _, h, _, _ => h.elim
  | _ :: _, _ :: _, [], _, h, _, _ => h.elim

theorem Els.len : ∀ {l : List D} {es : List MapEntry} {bs : List Nat}, Els W te l es bs → bs.length = es.length ∧ l.length = es.length
  | [], [], [], _ => ⟨rfl, rfl⟩
  | p :: l, e :: es, b :: bs, ⟨_, h⟩ => by simp [Els.len h]
  | [], [], _ :: _, h => h.elim
  | [], _ :: _, _, h => h.elim
  | _ :: _, [], _, h => h.elim
  | _ :: _, _ :: _, [], h => h.elim
end

def atQ (b : Nat) : Nat → Prop := fun k => k = b

theorem el_app {W : World} {S : TypeId} (hS : tyOf 31 = some (.st S)) (hfl : flatB 8 (.st S) = true) {ds : List D} {va : Value} {b : Nat} (ha : (va = .slice none 0 0 ∧ ds = []) ∨ El W (.st S) ds va b) {nb : Nat} {vs : List Value} {x : D} (hx : Rd W (fun _ => False) x (.st S) vs)
    (hnb : W.heap[nb]? = some (.cells vs.toArray 31 (0, 0))) (hlm : ds.length + 1 ≤ LM (.st S)) (ty : TypeId) :
    ∃ v' w' b', (Builtin.append_ #[23, 23] ty #[va, .slice (some ⟨nb, 0, none⟩) 1 1]).run Try.prog W = .ok v' w' ∧ But (atQ b) W w' ∧ El w' (.st S) (ds ++ [x]) v' b' ∧ ((b' = b ∧ ∃ n c, va = .slice (some ⟨b, 0, none⟩) n c) ∨ W.heap.size ≤ b') ∧ b' < w'.heap.size := by
  have hvl := (Rd.len _ hx).1
  have hone := (Rd.len _ hx).2
  have hpos := tyOf_pos hS
  have key : ∀ (S0 : Nat → Prop) (p : Pins) (pin : Option Nat) (hb : Bs (fun _ => True) W S0 p W) (hP : ∀ y, p 1 = some y → pin = some 1) (hS0 : ∀ y, S0 y → y = b ∧ ∃ n c, va = .slice (some ⟨b, 0, none⟩) n c)
      (hva : (va = .slice none 0 0 ∧ ds.length = 0) ∨ ∃ x g cap cur, pin = some x ∧ va = .slice (some ⟨g, 0, none⟩) ds.length cap ∧ p x = some g ∧ W.heap[g]? = some (.cells cur 31 (0, 0)) ∧ ds.length ≤ cap ∧ cap ≤ maxLen ∧ cur.size = cap * (Ty.st S).w)
      (hold : ∀ y g, pin = some y → p y = some g → ∀ j (h : j < ds.length), ∃ cs, W.rangeAt g (j * (Ty.st S).w) cs ∧ Rd W (fun _ => False) ds[j] (.st S) cs),
      ∃ v' w' b', (Builtin.append_ #[23, 23] ty #[va, .slice (some ⟨nb, 0, none⟩) 1 1]).run Try.prog W = .ok v' w' ∧ But (atQ b) W w' ∧ El w' (.st S) (ds ++ [x]) v' b' ∧ ((b' = b ∧ ∃ n c, va = .slice (some ⟨b, 0, none⟩) n c) ∨ W.heap.size ≤ b') ∧ b' < w'.heap.size := by
    intro S0 p pin hb hP hS0 hva hold
    obtain ⟨v', p', w', hr, ho⟩ := run_app (T := 23) (cb := 1) row_ty hS hb hP hva (Ab := some ⟨nb, 0, none⟩) (news := vs) (m := 1) (by rw [hvl]; omega)
      (fun ad had j u hj => by
        injection had with had
        subst had
        rw [Addr.mid_eq, Nat.zero_add, cell_of_row W nb j _ _ (0, 0) hnb]
        simpa using hj) (fun h => by cases h) hone hlm ty
    have hown := AppOut.own (c := ⟨⟨fun _ => .u, fun _ _ => none⟩, fun _ => True, 0, fun _ _ => True, fun _ _ _ _ => trivial, fun _ => undef⟩) (te := .st S) hS (la := ds) (lb := [x]) (dep := []) ho hlm (by simpa using hvl)
      (fun j hj => by
        obtain rfl : j = 0 := by simpa using hj
        simp only [Nat.zero_mul, List.drop_zero, List.getElem_cons_zero]
        rw [List.take_of_length_le (by omega)]
        exact Rd.flat 8 _ hfl hx)
      (fun y g hy hg j hj => by
        obtain ⟨cs, q1, q2⟩ := hold y g hy hg j hj
        exact ⟨cs, q1, Rd.flat 8 _ hfl q2⟩)
    rcases hown with ⟨-, h0⟩ | ⟨g', cap', cur', e1, hg', hh', h1, h2, h3, h4, h5⟩
    · simp at h0
    · refine ⟨v', w', g', hr, ⟨ho.bs.but.os, ho.bs.but.tape, ho.bs.but.output, ho.bs.but.size, fun k hk hn => ho.bs.but.block k hk fun h => hn (hS0 k h).1⟩, ⟨cap', cur', e1, hh', h1, h2, h3, h4, fun i hi => ?_⟩, ?_, lt_of_heap hh'⟩
      · obtain ⟨cs, q1, q2⟩ := h5 i hi
        exact ⟨cs, q1, Rd.flat 8 _ hfl q2⟩
      · exact (ho.bs.pin _ _ hg').imp (hS0 g') id
  rcases ha with ⟨rfl, rfl⟩ | ⟨cap, cur, e1, hh, h1, h2, h3, h4, h5⟩
  · exact key Nil (fun _ => none) none ⟨fun x y b h => (by cases h), fun x b h => (by cases h), But.refl _ _, fun x b h => (by cases h), fun _ _ => trivial, fun x b h => trivial, fun x b h => (by cases h)⟩ (fun y h => by cases h) (fun y h => h.elim) (.inl ⟨rfl, rfl⟩) (fun y g h => by cases h)
  · have hp : ∀ {y g : Nat}, (if y = 0 then some b else none : Option Nat) = some g → y = 0 ∧ g = b := fun {y g} h => by
      split at h
      · injection h with h
        exact ⟨‹_›, h.symm⟩
      · cases h
    refine key (atQ b) (fun y => if y = 0 then some b else none) (some 0) ⟨fun x y b' hx hy => by rw [(hp hx).1, (hp hy).1], fun x b' hx => by rw [(hp hx).2]; exact lt_of_heap hh, But.refl _ _, fun x b' hx => .inl (hp hx).2, fun _ _ => trivial, fun x b h => trivial, fun x b' hx => by rw [(hp hx).2]; exact .inl ⟨_, _, hh⟩⟩
      (fun y h => by have := (hp h).1; omega) (fun y h => ⟨h, _, _, e1⟩) (.inr ⟨0, b, cap, cur, rfl, e1, by simp, hh, h1, h2, h3⟩) (fun y g hy hg j hj => ?_)
    rw [(hp hg).2]
    exact h5 j hj
end Go.Proofs.Ytmebmpgffhajbaa


namespace Go.Proofs.Ytmebmpgffhajbaa
open Go.RowKit
set_option linter.unusedVariables false
set_option maxRecDepth 100000

section
variable {W : World}

theorem run_load_mapO {g : Nat} {u : Value} {T' : TypeId} (hh : W.heap[g]? = some (.cells #[u] T' (0, 0))) : (Instr.loadAt 93 (.pointer (some ⟨g, 0, none⟩))).run Try.prog W = .ok u W := by
  have hu := (row_map mapO_ty).1
  have ha : (isAgg 93).run Try.prog W = .ok false W := by simp [isAgg, run_underlying hu]
  have hc : W.cell? ⟨g, 0, none⟩ = some u := by
    rw [cell_of_row W g 0 _ T' (0, 0) hh]
    rfl
  simp only [Instr.loadAt, Instr.sureAddr, loadVar, Sem.run_bind, Sem.run_pure, Result.andThen_ok, ha]
  simp [hc]

theorem rdI {k : Int} (hk : rngB .i64 k = true) : Rd W (fun _ => False) (.i k) (.int .i64) [.int .i64 k] := ⟨.i64, rfl, rfl, hk⟩

theorem lk_run {g clock : Nat} {es : Array MapEntry} (hg : W.heap[g]? = some (.map es clock)) {l : List D} (hl : MapK (.int .i64) l es.toList) {k : Int} (hk : rngB .i64 k = true) :
    (Instr.lookup 93 (.map (some g)) (.int .i64 k) false).run Try.prog W = .ok (match fsD (.i k) l es.toList 0 with | some (_, v) => v | none => .slice none 0 0) W := by
  have hd := rdI (W := W) hk
  have hck : (Instr.checkKey es.isEmpty 10000 3 (.int .i64 k)).run Try.prog W = .ok () W := run_checkKey_of es.isEmpty 8 9992 int_ty rfl hd rfl
  have hfk := findKey_of int_ty rfl hd rfl hl
  have hu := (row_map mapO_ty).1
  obtain ⟨-, -, i, hi, -, hz⟩ := row_row row_ty
  have hzr : (zeroValue 23).run Try.prog W = .ok (.slice none 0 0) W := by simp [zeroValue, typeInfo, hi, hz]
  cases h : fsD (.i k) l es.toList 0 with
  | none =>
    rw [h] at hfk
    simp [Instr.lookup, run_underlying hu, MapKept.run_getObj_map hg, hck, hfk, hzr, Result.andThen]
  | some jv =>
    obtain ⟨j, v⟩ := jv
    rw [h] at hfk
    simp [Instr.lookup, run_underlying hu, MapKept.run_getObj_map hg, hck, hfk, Result.andThen]

theorem mu_new {g clock : Nat} {es : Array MapEntry} (hg : W.heap[g]? = some (.map es clock)) {l : List D} (hl : MapK (.int .i64) l es.toList) {k : Int} (hk : rngB .i64 k = true) (h : fsD (.i k) l es.toList 0 = none) (v : Value) :
    (Instr.mapUpdate 93 (.map (some g)) (.int .i64 k) v).run Try.prog W = .ok () { W with heap := W.heap.setIfInBounds g (.map (es.push { key := .int .i64 k, val := v, born := clock }) (clock + 1)) } := by
  have hd := rdI (W := W) hk
  have hck : (Instr.checkKey false 10000 3 (.int .i64 k)).run Try.prog W = .ok () W := run_checkKey_of false 8 9992 int_ty rfl hd rfl
  have hfk := findKey_of int_ty rfl hd rfl hl
  have hu := (row_map mapO_ty).1
  rw [h] at hfk
  simp [Instr.mapUpdate, run_underlying hu, MapKept.run_getObj_map hg, hck, hfk, MapKept.run_setObj_map _ hg, Result.andThen]

theorem mu_old {g clock : Nat} {es : Array MapEntry} (hg : W.heap[g]? = some (.map es clock)) {l : List D} (hl : MapK (.int .i64) l es.toList) {k : Int} (hk : rngB .i64 k = true) {j : Nat} {v0 : Value} (h : fsD (.i k) l es.toList 0 = some (j, v0))
    (hj : (es.toList[j]?).map (·.key) = some (.int .i64 k)) (v : Value) :
    (Instr.mapUpdate 93 (.map (some g)) (.int .i64 k) v).run Try.prog W = .ok () { W with heap := W.heap.setIfInBounds g (.map (es.modify j fun e => { e with key := .int .i64 k, val := v }) clock) } := by
  have hd := rdI (W := W) hk
  have hck : (Instr.checkKey false 10000 3 (.int .i64 k)).run Try.prog W = .ok () W := run_checkKey_of false 8 9992 int_ty rfl hd rfl
  have hfk := findKey_of int_ty rfl hd rfl hl
  have hu := (row_map mapO_ty).1
  have hsame : Instr.sameBits 10000 (.int .i64 k) (.int .i64 k) = true := same_enc (encI hk)
  obtain ⟨e, he, hek⟩ := Option.map_eq_some_iff.1 hj
  have hjl : es[j]? = some e := by rw [← Array.getElem?_toList]; exact he
  have hek : e.key = .int .i64 k := hek
  rw [h] at hfk
  simp [Instr.mapUpdate, run_underlying hu, MapKept.run_getObj_map hg, hck, hfk, hjl, hek, Instr.keyThatStays, hsame, MapKept.run_setObj_map _ hg, Result.andThen]
end

theorem nodup_set {x : Nat} : ∀ {l : List Nat} {j : Nat}, l.Nodup → x ∉ l → (l.set j x).Nodup
  | [], j, h, _ => by simp
  | y :: l, 0, h, hx => by
    rw [List.nodup_cons] at h
    simp only [List.mem_cons, not_or] at hx
    rw [List.set_cons_zero, List.nodup_cons]
    exact ⟨hx.2, h.2⟩
  | y :: l, j + 1, h, hx => by
    rw [List.nodup_cons] at h
    simp only [List.mem_cons, not_or] at hx
    rw [List.set_cons_succ, List.nodup_cons]
    refine ⟨fun hm => ?_, nodup_set h.2 hx.2⟩
    rcases List.mem_or_eq_of_mem_set hm with h1 | h1
    · exact h.1 h1
    · exact hx.1 h1.symm
theorem set_same {x : Nat} : ∀ {l : List Nat} {j : Nat}, l[j]? = some x → l.set j x = l
  | [], j, h => by simp at h
  | y :: l, 0, h => by simp at h; simp [h]
  | y :: l, j + 1, h => by simp at h; simp [set_same h]

theorem addK_len {k x : D} {m : Nat} : ∀ {l : List D}, (∀ p ∈ l, (p.fld 1).rs.length ≤ m) → ∀ p ∈ addK k x l, (p.fld 1).rs.length ≤ m + 1
  | [], h, p, hp => by
    simp only [addK, List.mem_singleton] at hp
    subst hp
    simp [D.fld, D.fs, D.rs]
  | q :: l, h, p, hp => by
    unfold addK at hp
    split at hp
    · rcases List.mem_cons.1 hp with rfl | hp
      · have := h q (by simp)
        simp only [D.fld, D.fs, D.rs, List.getD_cons_succ, List.getD_cons_zero, List.length_append, List.length_singleton] at this ⊢
        omega
      · have := h p (by simp [hp])
        omega
    · rcases List.mem_cons.1 hp with rfl | hp
      · have := h p (by simp)
        omega
      · exact addK_len (fun p hp => h p (by simp [hp])) p hp

structure OInv (w : World) (g : Nat) (te : Ty) (m : Nat) (l : List D) (W : World) : Prop where
  but : But (atQ g) w W
  row : ∀ p ∈ l, (p.fld 1).rs.length ≤ m
  map : ∃ es clock bs, W.heap[g]? = some (.map es clock) ∧ Els W te l es.toList bs ∧ bs.Nodup ∧ ∀ b ∈ bs, w.heap.size ≤ b ∧ b < W.heap.size

theorem setH_same {W : World} {g k : Nat} {o : Obj} (h : k ≠ g) : ({ W with heap := W.heap.setIfInBounds g o } : World).heap[k]? = W.heap[k]? := by
  show (W.heap.setIfInBounds g o)[k]? = _
  rw [Array.getElem?_setIfInBounds_ne (fun e => h e.symm)]
theorem setH_self {W : World} {g : Nat} {o : Obj} (h : g < W.heap.size) : ({ W with heap := W.heap.setIfInBounds g o } : World).heap[g]? = some o := by
  show (W.heap.setIfInBounds g o)[g]? = _
  rw [Array.getElem?_setIfInBounds_self, if_pos h]
theorem setH_size {W : World} {g : Nat} {o : Obj} : ({ W with heap := W.heap.setIfInBounds g o } : World).heap.size = W.heap.size := by
  show (W.heap.setIfInBounds g o).size = _
  simp

theorem oinv_step {S : TypeId} (hfl : flatB 8 (.st S) = true) {w : World} {g m : Nat} (hg : g < w.heap.size) {l : List D} {W : World} {k : Int} (hk : rngB .i64 k = true) (h : OInv w g (.st S) m l W) :
    ∃ va ds b, (∀ W1, But Nil W W1 → (Instr.lookup 93 (.map (some g)) (.int .i64 k) false).run Try.prog W1 = .ok va W1 ∧ ((va = .slice none 0 0 ∧ ds = []) ∨ El W1 (.st S) ds va b)) ∧ ds.length ≤ m ∧ w.heap.size ≤ b ∧ ((∃ cur, W.heap[b]? = some (.cells cur 31 (0, 0))) ∨ W.heap.size ≤ b) ∧
      ∀ (x : D) (W1 W2 : World) (v' : Value) (b' : Nat), But Nil W W1 → But (atQ b) W1 W2 → El W2 (.st S) (ds ++ [x]) v' b' → ((b' = b ∧ ∃ n c, va = .slice (some ⟨b, 0, none⟩) n c) ∨ W1.heap.size ≤ b') → b' < W2.heap.size →
        ∃ W3, (Instr.mapUpdate 93 (.map (some g)) (.int .i64 k) v').run Try.prog W2 = .ok () W3 ∧ But (atQ g) W2 W3 ∧ OInv w g (.st S) (m + 1) (addK (.i k) x l) W3 := by
  obtain ⟨es, clock, bs, hmap, hels, hnd, hbs⟩ := h.map
  have hgW : g < W.heap.size := lt_of_heap hmap
  have h1 : ∀ {W1 : World}, But Nil W W1 → W1.heap[g]? = some (.map es clock) := fun hb => (hb.block g hgW id).trans hmap
  have hkeep : ∀ {W1 : World}, But Nil W W1 → Els W1 (.st S) l es.toList bs := fun hb => hels.keep hfl fun b hm => hb.block b (hbs b hm).2 id
  have hbut3 : ∀ {W1 W2 : World} {b : Nat} {ob : Obj}, w.heap.size ≤ b → But Nil W W1 → But (atQ b) W1 W2 → But (atQ g) w { W2 with heap := W2.heap.setIfInBounds g ob } := fun {W1 W2 b ob} hb n1 n2 => by
    have e1 : But (atQ g) w W2 := ((h.but.trans_nil n1).trans n2 fun i hi _ => .inr (by rw [show i = b from hi]; exact hb))
    refine ⟨e1.os, e1.tape, e1.output, by rw [setH_size]; exact e1.size, fun j hj hn => ?_⟩
    rw [setH_same (fun e => hn e)]
    exact e1.block j hj hn
  have hbutg : ∀ {W2 : World} {ob : Obj}, But (atQ g) W2 { W2 with heap := W2.heap.setIfInBounds g ob } := fun {W2 ob} => ⟨rfl, rfl, rfl, by rw [setH_size]; exact Nat.le_refl _, fun j hj hn => setH_same (fun e => hn e)⟩
  cases hf : fsD (.i k) l es.toList 0 with
  | none =>
    refine ⟨.slice none 0 0, [], W.heap.size, fun W1 hb1 => ⟨?_, .inl ⟨rfl, rfl⟩⟩, by simp, h.but.size, .inr (Nat.le_refl _), fun x W1 W2 v' b' n1 n2 hE hb' hlt => ?_⟩
    · have := lk_run (h1 hb1) (hkeep hb1).keys hk
      rw [hf] at this
      exact this
    · have hgW1 : g < W1.heap.size := by have := n1.size; omega
      have hW2 : W2.heap[g]? = some (.map es clock) := (n2.block g hgW1 (fun e => by have : g = W.heap.size := e; omega)).trans (h1 n1)
      have hgW2 : g < W2.heap.size := lt_of_heap hW2
      refine ⟨_, mu_new hW2 (hkeep n1).keys hk hf v', hbutg, hbut3 h.but.size n1 n2, addK_len h.row, _, _, bs ++ [b'], setH_self hgW2, ?_, ?_, ?_⟩
      · rw [Array.toList_push]
        have hb'g : b' ≠ g := by
          rcases hb' with ⟨-, n, c, e⟩ | h
          · cases e
          · omega
        refine Els.new hfl hk (hE.keep hfl (setH_same hb'g)) hels (fun y hy => ?_) hf
        have := hbs y hy
        rw [setH_same (by omega), n2.block y (by have := n1.size; omega) (fun e => by have : y = W.heap.size := e; omega), n1.block y this.2 id]
      · refine List.nodup_append.2 ⟨hnd, by simp, fun y hy z hz e => ?_⟩
        simp only [List.mem_singleton] at hz
        subst hz e
        have := hbs y hy
        rcases hb' with ⟨-, n, c, e⟩ | h
        · cases e
        · have := n1.size; omega
      · intro y hy
        rw [setH_size]
        rcases List.mem_append.1 hy with hy | hy
        · have := hbs y hy
          have := n1.size
          have := n2.size
          omega
        · simp only [List.mem_singleton] at hy
          subst hy
          rcases hb' with ⟨-, n, c, e⟩ | h'
          · cases e
          · have := n1.size
            have := h.but.size
            omega
  | some jv =>
    obtain ⟨j, v0⟩ := jv
    obtain ⟨b, ds, hbj, hE0, hkey, hnext⟩ := Els.old hfl hels hnd (i := 0) (j := j) (by simpa using hf)
    have hb := hbs b (List.mem_of_getElem? hbj)
    have hgb : g ≠ b := by omega
    refine ⟨v0, ds, b, fun W1 hb1 => ⟨?_, .inr (hE0.keep hfl (hb1.block b hb.2 id))⟩, ?_, hb.1, .inl (by obtain ⟨cap, cur, -, h, -⟩ := hE0; exact ⟨cur, h⟩), fun x W1 W2 v' b' n1 n2 hE hb' hlt => ?_⟩
    · have := lk_run (h1 hb1) (hkeep hb1).keys hk
      rw [hf] at this
      exact this
    · have hlen : ∀ {l : List D} {es : List MapEntry} {bs : List Nat} {i j : Nat} {v : Value}, Els W (.st S) l es bs → fsD (.i k) l es i = some (j, v) → (∀ p ∈ l, (p.fld 1).rs.length ≤ m) → ∃ n c b, v = .slice (some ⟨b, 0, none⟩) n c ∧ n ≤ m := by
        intro l
        induction l with
        | nil => intro es bs i j v _ h; simp [fsD] at h
        | cons p l ih =>
          intro es bs i j v he hf hr
          cases es with
          | nil => simp [fsD] at hf
          | cons e es =>
            cases bs with
            | nil => exact he.elim
            | cons b bs =>
              obtain ⟨⟨k', ds, e1, e2, e3, cap, cur, e4, -⟩, he⟩ := he
              unfold fsD at hf
              split at hf
              · simp only [Option.some.injEq, Prod.mk.injEq] at hf
                obtain ⟨-, rfl⟩ := hf
                refine ⟨_, _, _, e4, ?_⟩
                have := hr p (by simp)
                subst e1
                simpa [D.fld, D.fs, D.rs] using this
              · exact ih he hf fun p hp => hr p (by simp [hp])
      obtain ⟨n, c, b1, e1, e2⟩ := hlen hels hf h.row
      obtain ⟨cap, cur, e3, -⟩ := hE0
      rw [e1] at e3
      injection e3 with _ e3 _
      omega
    · have hgW1 : g < W1.heap.size := by have := n1.size; omega
      have hW2 : W2.heap[g]? = some (.map es clock) := (n2.block g hgW1 hgb).trans (h1 n1)
      have hgW2 : g < W2.heap.size := lt_of_heap hW2
      have hb'g : b' ≠ g := by
        rcases hb' with ⟨e, -⟩ | h
        · omega
        · omega
      have hbutb : ∀ y ∈ bs, y ≠ b → ({ W2 with heap := W2.heap.setIfInBounds g (.map (es.modify j fun e => { e with key := .int .i64 k, val := v' }) clock) } : World).heap[y]? = W.heap[y]? := fun y hy hne => by
        have := hbs y hy
        rw [setH_same (by omega), n2.block y (by have := n1.size; omega) hne, n1.block y this.2 id]
      refine ⟨_, mu_old hW2 (hkeep n1).keys hk hf hkey v', hbutg, hbut3 hb.1 n1 n2, addK_len h.row, _, _, bs.set j b', setH_self hgW2, ?_, ?_, ?_⟩
      · rw [Array.toList_modify]
        exact hnext x _ v' b' hbutb (hE.keep hfl (setH_same hb'g))
      · rcases hb' with ⟨rfl, -⟩ | h'
        · rw [set_same hbj]
          exact hnd
        · exact nodup_set hnd fun hm => by
            have := hbs _ hm
            have := n1.size
            omega
      · intro y hy
        rw [setH_size]
        rcases List.mem_or_eq_of_mem_set hy with hy | rfl
        · have := hbs y hy
          have := n1.size
          have := n2.size
          omega
        · rcases hb' with ⟨rfl, -⟩ | h'
          · exact ⟨hb.1, hlt⟩
          · have := n1.size
            have := h.but.size
            exact ⟨by omega, hlt⟩
end Go.Proofs.Ytmebmpgffhajbaa


namespace Go.Proofs.Ytmebmpgffhajbaa
open Go.RowKit
set_option linter.unusedVariables false
set_option maxRecDepth 100000

noncomputable def ops4 : Array Oper := match codeL with
  | .block _ (.loop (.seq (.region _ o _) _)) => o
  | _ => #[]
noncomputable def ops5 : Array Oper := match codeL with
  | .block _ (.loop (.seq _ (.seq _ (.seq (.block _ (.seq (.region _ o _) _)) _)))) => o
  | _ => #[]
noncomputable def ops6 : Array Oper := match codeL with
  | .block _ (.loop (.seq _ (.seq _ (.seq (.block _ (.seq _ (.region _ o _))) _)))) => o
  | _ => #[]
noncomputable def ops7 : Array Oper := match codeL with
  | .block _ (.loop (.seq _ (.seq _ (.seq _ (.region _ o _))))) => o
  | _ => #[]
noncomputable def roundO : Code := .seq (.region 4 ops4 false) (.seq (.cond (.tmp 28) .skip (.exit 0)) (.seq (.block 1 (.seq (.region 5 ops5 false) (.region 6 ops6 true))) (.region 7 ops7 false)))
theorem codeL_eq : codeL = .block 0 (.loop roundO) := by kernel_rfl

def OpAt (ops : Array Oper) (i : Nat) (dst : Option Tmp) (op : Op) : Prop := ∃ o, ops[i]? = some o ∧ o.guard = none ∧ o.dst = dst ∧ o.op = op
abbrev TI : TypeId := 3
abbrev TU : TypeId := 37
abbrev TC : TypeId := 31
abbrev TRU : TypeId := 25
abbrev TRC : TypeId := 23
abbrev TM : TypeId := 93
theorem size4 : ops4.size = 1 := by kernel_rfl
theorem size5 : ops5.size = 4 := by kernel_rfl
theorem size6 : ops6.size = 12 := by kernel_rfl
theorem size7 : ops7.size = 2 := by kernel_rfl
theorem o4_0 : OpAt ops4 0 (some 28) (.binOp .lss TI (.tmp 27) (.tmp 26) TI) := ⟨_, rfl, rfl, rfl, rfl⟩
theorem o5_0 : OpAt ops5 0 (some 29) (.indexAddr TRU (.tmp 25) (.tmp 27)) := ⟨_, rfl, rfl, rfl, rfl⟩
theorem o5_1 : OpAt ops5 1 (some 30) (.load TU (.tmp 29)) := ⟨_, rfl, rfl, rfl, rfl⟩
theorem o5_2 : OpAt ops5 2 (some 8) (.alloc TU) := ⟨_, rfl, rfl, rfl, rfl⟩
theorem o5_3 : OpAt ops5 3 none (.store TU (.tmp 8) (.tmp 30)) := ⟨_, rfl, rfl, rfl, rfl⟩
theorem o6_0 : OpAt ops6 0 (some 31) (.load TM (.tmp 6)) := ⟨_, rfl, rfl, rfl, rfl⟩
theorem o6_1 : OpAt ops6 1 (some 32) (.fieldAddr TU (.tmp 8) 0) := ⟨_, rfl, rfl, rfl, rfl⟩
theorem o6_2 : OpAt ops6 2 (some 33) (.load TI (.tmp 32)) := ⟨_, rfl, rfl, rfl, rfl⟩
theorem o6_3 : OpAt ops6 3 (some 34) (.load TM (.tmp 6)) := ⟨_, rfl, rfl, rfl, rfl⟩
theorem o6_4 : OpAt ops6 4 (some 35) (.fieldAddr TU (.tmp 8) 0) := ⟨_, rfl, rfl, rfl, rfl⟩
theorem o6_5 : OpAt ops6 5 (some 36) (.load TI (.tmp 35)) := ⟨_, rfl, rfl, rfl, rfl⟩
theorem o6_6 : OpAt ops6 6 (some 37) (.lookup TM (.tmp 34) (.tmp 36) false) := ⟨_, rfl, rfl, rfl, rfl⟩
theorem o6_7 : OpAt ops6 7 (some 38) (.fieldAddr TU (.tmp 8) 1) := ⟨_, rfl, rfl, rfl, rfl⟩
theorem o6_8 : OpAt ops6 8 (some 39) (.load TC (.tmp 38)) := ⟨_, rfl, rfl, rfl, rfl⟩
theorem o6_9 : OpAt ops6 9 (some 40) (.buildSlice TRC 1 #[(0, .tmp 39)]) := ⟨_, rfl, rfl, rfl, rfl⟩
theorem o6_10 : OpAt ops6 10 (some 41) (.call { callee := .builtin .append, args := #[.tmp 37, .tmp 40], argTypes := #[TRC, TRC] }) := ⟨_, rfl, rfl, rfl, rfl⟩
theorem o6_11 : OpAt ops6 11 none (.mapUpdate TM (.tmp 31) (.tmp 33) (.tmp 41)) := ⟨_, rfl, rfl, rfl, rfl⟩
theorem o7_0 : OpAt ops7 0 (some 42) (.binOp .add TI (.tmp 27) (.const (.int .i64 1)) TI) := ⟨_, rfl, rfl, rfl, rfl⟩
theorem o7_1 : OpAt ops7 1 (some 27) (.move (.tmp 42)) := ⟨_, rfl, rfl, rfl, rfl⟩

section
variable {ops : Array Oper} {Q : Exit → Act → World → Prop} {a : Act} {w w' : World} {K : Act → World → Prop} {o : Oper} {v : Value} {i : Nat} {dst : Option Tmp} {op : Op}

theorem wpOps_at {rest : List Nat} (h : OpAt ops i dst op) (hk : ∀ o : Oper, o.dst = dst → o.op = op → o.wp Try.prog a w (wpOps Try.prog ops Q rest) Q) : wpOps Try.prog ops Q (i :: rest) a w := by
  obtain ⟨o, ho, hg, hd, hop⟩ := h
  simp only [wpOps, ho]
  rw [if_pos (by simp [Region.wanted, hg])]
  exact .inl (hk o hd hop)
theorem wpOp_at (h : OpAt ops i dst op) (hk : ∀ o : Oper, o.dst = dst → o.op = op → o.wp Try.prog a w K Q) : wpOp Try.prog ops Q i K a w := by
  obtain ⟨o, ho, hg, hd, hop⟩ := h
  unfold wpOp
  simp only [ho]
  rw [if_pos (by simp [Region.wanted, hg])]
  exact .inl (hk o hd hop)
theorem op_val (h : (execOp a.eval o).run Try.prog w = .ok (.value v) w') (hd : o.dst = dst) (hk : K (a.put dst v) w') : o.wp Try.prog a w K Q := by
  unfold Oper.wp
  rw [h, ← hd] at *
  exact hk
theorem op_skip (h : (execOp a.eval o).run Try.prog w = .ok .skip w') (hd : o.dst = none) (hk : K a w') : o.wp Try.prog a w K Q := by
  unfold Oper.wp
  rw [h]
  show K (a.put o.dst undef) w'
  rw [hd]
  exact hk
theorem takeH {S : World → Prop} {fuel : Nat} {listed : Array Bool} (h : OpAt ops i dst op) (hs : Region.noSelect ops = true) (hf : Region.free .any ops listed i = true) (hr : (Region.ready .any ops listed).contains i = true)
    (hQ : ∀ c a w, Q (.panic c) a w = False) (hy : ∀ o : Oper, o.op = op → ∀ w, S w → (execOp a.eval o).run Try.prog w = .ok (.value v) w) (hS : S w)
    (hk : wpAnyH Try.prog .any ops Q S fuel (listed.setIfInBounds i true) (a.put dst v) w) : wpAnyH Try.prog .any ops Q S (fuel + 1) listed a w := by
  obtain ⟨o, ho, hg, hd, hop⟩ := h
  refine wpAnyH_take ho hs hf hr (fun c a w h => by rw [hQ] at h; exact h.elim) (v := v) (.inl ⟨by simp [Region.wanted, hg], hy o hop⟩) hS ?_
  rw [hd]
  exact hk

theorem q0x {t : Nat} (h : a.tmps[t]? = some v) : a.eval (.tmp t) = v := by
  show a.tmps.getD t undef = v
  rw [Array.getD_eq_getD_getElem?, h]
  rfl
theorem put_ne {k t : Nat} (h : k ≠ t) : (a.put (some k) v).tmps[t]? = a.tmps[t]? := by
  simp only [Act.put]
  rw [Array.getElem?_setIfInBounds_ne h]
theorem put_self {k : Nat} (h : k < a.tmps.size) : (a.put (some k) v).tmps[k]? = some v := by
  simp only [Act.put]
  rw [Array.getElem?_setIfInBounds_self, if_pos h]
theorem put_size {k : Option Nat} : (a.put k v).tmps.size = a.tmps.size := by
  cases k <;> simp [Act.put]
theorem put_def {k : Option Nat} : (a.put k v).defers = a.defers := by
  cases k <;> simp [Act.put]

theorem x_load {T : TypeId} {y : Operand} {u : Value} (heq : o.op = .load T y) (hy : a.eval y = u) (hr : (Instr.loadAt T u).run Try.prog w = .ok v w) : (execOp a.eval o).run Try.prog w = .ok (.value v) w := by
  subst hy
  generalize a.eval = r at *
  simp [execOp, heq, hr]
theorem x_field {T : TypeId} {y : Operand} {j : Nat} {u : Value} (heq : o.op = .fieldAddr T y j) (hy : a.eval y = u) (hr : (Instr.fieldAt T u j).run Try.prog w = .ok v w) : (execOp a.eval o).run Try.prog w = .ok (.value v) w := by
  subst hy
  generalize a.eval = r at *
  simp [execOp, heq, hr]
theorem x_index {T : TypeId} {y z : Operand} {u x : Value} (heq : o.op = .indexAddr T y z) (hy : a.eval y = u) (hz : a.eval z = x) (hr : (Instr.indexAt T u x).run Try.prog w = .ok v w) : (execOp a.eval o).run Try.prog w = .ok (.value v) w := by
  subst hy hz
  generalize a.eval = r at *
  simp [execOp, heq, hr]
theorem x_lookup {T : TypeId} {y z : Operand} {u x : Value} (heq : o.op = .lookup T y z false) (hy : a.eval y = u) (hz : a.eval z = x) (hr : (Instr.lookup T u x false).run Try.prog w = .ok v w) : (execOp a.eval o).run Try.prog w = .ok (.value v) w := by
  subst hy hz
  generalize a.eval = r at *
  simp [execOp, heq, hr]
theorem x_alloc {T : TypeId} (heq : o.op = .alloc T) (hr : (Instr.alloc T true (.tuple #[])).run Try.prog w = .ok v w') : (execOp a.eval o).run Try.prog w = .ok (.value v) w' := by
  generalize a.eval = r at *
  simp [execOp, heq, hr]
theorem x_store {T : TypeId} {y z : Operand} {u x : Value} (heq : o.op = .store T y z) (hy : a.eval y = u) (hz : a.eval z = x) (hr : (Instr.storeAt T u x).run Try.prog w = .ok () w') : (execOp a.eval o).run Try.prog w = .ok .skip w' := by
  subst hy hz
  generalize a.eval = r at *
  simp [execOp, heq, hr]
theorem x_build {T : TypeId} {n : Nat} {y : Operand} {u : Value} (heq : o.op = .buildSlice T n #[(0, y)]) (hy : a.eval y = u) (hr : (Instr.buildSlice T n #[(0, u)]).run Try.prog w = .ok v w') : (execOp a.eval o).run Try.prog w = .ok (.value v) w' := by
  subst hy
  generalize a.eval = r at *
  simp [execOp, heq, hr]
theorem x_app {T : TypeId} {y z : Operand} {u x : Value} (heq : o.op = .call { callee := .builtin .append, args := #[y, z], argTypes := #[T, T] }) (hy : a.eval y = u) (hz : a.eval z = x) (hr : (Builtin.append_ #[T, T] o.type #[u, x]).run Try.prog w = .ok v w') : (execOp a.eval o).run Try.prog w = .ok (.value v) w' := by
  subst hy hz
  generalize a.eval = r at *
  simp [execOp, heq, resolve, invoke, builtin, hr]
theorem x_mset {T : TypeId} {m y z : Operand} {q u x : Value} (heq : o.op = .mapUpdate T m y z) (hm : a.eval m = q) (hy : a.eval y = u) (hz : a.eval z = x) (hr : (Instr.mapUpdate T q u x).run Try.prog w = .ok () w') : (execOp a.eval o).run Try.prog w = .ok .skip w' := by
  subst hm hy hz
  generalize a.eval = r at *
  simp [execOp, heq, hr]
theorem x_lss {T T' : TypeId} {y z : Operand} {m n : Int} (heq : o.op = .binOp .lss T y z T') (hy : a.eval y = .int .i64 m) (hz : a.eval z = .int .i64 n) : (execOp a.eval o).run Try.prog w = .ok (.value (.bool (decide (m < n)))) w := by
  generalize a.eval = r at *
  simp [execOp, heq, hy, hz, eqGuard, binOp, Op.intCmp]
theorem x_inc {T T' : TypeId} {y : Operand} {m : Int} (heq : o.op = .binOp .add T y (.const (.int .i64 1)) T') (hy : a.eval y = .int .i64 m) (hm : 0 ≤ m) (hm2 : m < 9223372036854775807) : (execOp a.eval o).run Try.prog w = .ok (.value (.int .i64 (m + 1))) w := by
  have hc : a.eval (.const (.int .i64 1)) = .int .i64 1 := rfl
  have ew : ∀ m : Int, IntKind.wrap .i64 m = if m % 18446744073709551616 ≥ 9223372036854775808 then m % 18446744073709551616 - 18446744073709551616 else m % 18446744073709551616 := fun m => by
    simp [IntKind.wrap, IntKind.bits, IntKind.signed]
  have hw : IntKind.wrap .i64 (m + 1) = m + 1 := by
    rw [ew, if_neg (by omega)]
    omega
  generalize a.eval = r at *
  simp [execOp, heq, hy, hc, eqGuard, binOp, Op.intArith, hw]
theorem x_move {y : Operand} {u : Value} (heq : o.op = .move y) (hy : a.eval y = u) : (execOp a.eval o).run Try.prog w = .ok (.value u) w := by
  subst hy
  generalize a.eval = r at *
  simp [execOp, heq]
end
end Go.Proofs.Ytmebmpgffhajbaa


namespace Go.Proofs.Ytmebmpgffhajbaa
open Go.RowKit
set_option linter.unusedVariables false
set_option maxRecDepth 100000

theorem tC : tyOf TC = some (.st 30) := by kernel_rfl
theorem tU : tyOf TU = some (.st 36) := by kernel_rfl
theorem tRU : tyOf TRU = some (.row TU) := by kernel_rfl
theorem fU : flds 36 = some [.int .i64, .st 30] := by kernel_rfl
theorem flC : flatB 8 (.st 30) = true := by kernel_rfl
theorem wC : (Ty.st 30).w = 2 := by kernel_rfl
theorem wU : (Ty.st 36).w = 3 := by kernel_rfl
theorem u_info : (Try.prog.info? TU).map (fun i => (i.size, i.zero)) = some (3, some (.agg #[.int .i64 0, .int .i64 0, .int .i64 0])) := by kernel_rfl
theorem c_info : (Try.prog.info? TC).map (fun i => (i.size, i.zero)) = some (2, some (.agg #[.int .i64 0, .int .i64 0])) := by kernel_rfl

theorem run_alloc_u (w : World) : (Instr.alloc TU true (.tuple #[])).run Try.prog w = .ok (.pointer (some ⟨w.heap.size, 0, none⟩)) (w.alloc (.cells #[.int .i64 0, .int .i64 0, .int .i64 0] TU)) := by
  obtain ⟨i, hi, e⟩ := Option.map_eq_some_iff.1 u_info
  simp only [Prod.mk.injEq] at e
  simp [Instr.alloc, zeroValue, typeInfo, hi, e.2, newVar, newRow, newObj, Sem.run, Value.cells]
theorem run_store_u {w : World} {g : Nat} {cur : Array Value} (hg : w.heap[g]? = some (.cells cur TU (0, 0))) (hc : cur.size = 3) {x y z : Value} (hone : ∀ u ∈ [x, y, z], u.oneCell' = true) :
    (Instr.storeAt TU (.pointer (some ⟨g, 0, none⟩)) (.agg #[x, y, z])).run Try.prog w = .ok () (w.setRow g #[x, y, z]) := by
  obtain ⟨i, hi, e⟩ := Option.map_eq_some_iff.1 u_info
  simp only [Prod.mk.injEq] at e
  have hst := run_storeCells_at Try.prog g 0 TU [x, y, z] 0 cur w hg (by simp; omega) hone
  have e1 : (cur.toList.take (0 + 0) ++ [x, y, z] ++ cur.toList.drop (0 + 0 + [x, y, z].length)) = [x, y, z] := by
    rw [List.drop_eq_nil_of_le (by simp; omega)]
    simp
  rw [e1] at hst
  have hcells : (Value.agg #[x, y, z]).cells = [x, y, z].toArray := rfl
  simp only [Instr.storeAt, Instr.sureAddr, Sem.run_bind, Sem.run_pure, Result.andThen_ok, storeVar, sizeOf, typeInfo, run_program, hi, hcells]
  rw [if_neg (by simp [e.1])]
  exact hst
theorem run_build_c (w : World) (x y : Value) : (Instr.buildSlice TRC 1 #[(0, .agg #[x, y])]).run Try.prog w = .ok (.slice (some ⟨w.heap.size, 0, none⟩) 1 1) (w.alloc (.cells #[x, y] TC)) := by
  obtain ⟨i, hi, e⟩ := Option.map_eq_some_iff.1 c_info
  simp only [Prod.mk.injEq] at e
  refine run_buildSlice w TRC TC 1 _ #[x, y] i (.agg #[.int .i64 0, .int .i64 0]) (row_row row_ty).1 hi e.2 (by rw [e.1]; omega) (by rw [e.1]; omega) ?_
  rw [e.1]
  kernel_rfl

structure LCx (w : World) (a0 : Act) (g g6 : Nat) (T6 : TypeId) (L : List D) (A : Option Addr) (cap : Nat) : Prop where
  gw : g < w.heap.size
  h6 : w.heap[g6]? = some (.cells #[.map (some g)] T6 (0, 0))
  g6g : g6 ≠ g
  sz : a0.tmps.size = 110
  e25 : a0.tmps[25]? = some (.slice A L.length cap)
  e26 : a0.tmps[26]? = some (.int .i64 L.length)
  e6 : a0.tmps[6]? = some (.pointer (some ⟨g6, 0, none⟩))
  hL : L.length ≤ 5864062014634
  el : ∀ j (h : j < L.length), ∃ b o k x u1 u2, A = some ⟨b, o, none⟩ ∧ b ≠ g ∧ w.rangeAt b (o + j * 3) [.int .i64 k, u1, u2] ∧ L[j] = .a [.i k, x] ∧ rngB .i64 k = true ∧ Rd w (fun _ => False) x (.st 30) [u1, u2]

structure LInv (w : World) (a0 : Act) (g : Nat) (L : List D) (j : Nat) (a : Act) (W : World) : Prop where
  df : a.defers = a0.defers
  sz : a.tmps.size = 110
  tm : ∀ t, hasN killO t = false → a.tmps[t]? = a0.tmps[t]?
  e27 : a.tmps[27]? = some (.int .i64 j)
  o : OInv w g (.st 30) j (grpD (L.take j)) W

theorem grp_succ {L : List D} {j : Nat} (h : j < L.length) : grpD (L.take (j + 1)) = addK (L[j].fld 0) (L[j].fld 1) (grpD (L.take j)) := by
  unfold grpD
  rw [List.take_succ_eq_append_getElem h, List.foldl_append]
  rfl

theorem region6_ok {w : World} {a0 a : Act} {g g6 g8 : Nat} {T6 : TypeId} {L l : List D} {A : Option Addr} {cap m : Nat} (hc : LCx w a0 g g6 T6 L A cap) {W : World} (hsz : a.tmps.size = 110) (e6 : a.tmps[6]? = some (.pointer (some ⟨g6, 0, none⟩))) (e8 : a.tmps[8]? = some (.pointer (some ⟨g8, 0, none⟩)))
    {k : Int} {x : D} {u1 u2 : Value} (hk : rngB .i64 k = true) (hx : Rd w (fun _ => False) x (.st 30) [u1, u2]) (h8 : W.heap[g8]? = some (.cells #[.int .i64 k, u1, u2] TU (0, 0))) (hg8 : w.heap.size ≤ g8) (ho : OInv w g (.st 30) m l W) (hm : m < 5864062014634)
    {Q : Exit → Act → World → Prop} (hQ : ∀ c a w, Q (.panic c) a w = False)
    (hfin : ∀ (a' : Act) (W' : World), a'.defers = a.defers → a'.tmps.size = 110 → (∀ t, hasN killO t = false → a'.tmps[t]? = a.tmps[t]?) → a'.tmps[27]? = a.tmps[27]? → OInv w g (.st 30) (m + 1) (addK (.i k) x l) W' → Q .normal a' W') :
    (Code.region 6 ops6 true).wp Try.prog Q a W := by
  let W0 : World := { W with drawn := W.drawn + 1 }
  have hd0 : But Nil W W0 := (But.refl Nil W).drew
  have ho0 : OInv w g (.st 30) m l W0 := ⟨ho.but.drew, ho.row, by obtain ⟨es, clock, bs, q1, q2, q3, q4⟩ := ho.map; exact ⟨es, clock, bs, q1, q2.keep flC (fun _ _ => rfl), q3, q4⟩⟩
  obtain ⟨va, ds, b, hlk, hdl, hbw, hbt, hput⟩ := oinv_step flC hc.gw hk ho0
  let H : World → Prop := fun V => V.heap[g6]? = some (.cells #[.map (some g)] T6 (0, 0)) ∧ V.heap[g8]? = some (.cells #[.int .i64 k, u1, u2] TU (0, 0))
  have g6w : g6 < w.heap.size := lt_of_heap hc.h6
  have g8W : g8 < W.heap.size := lt_of_heap h8
  have hH0 : H W0 := ⟨(ho.but.block g6 g6w (fun e => hc.g6g e)).trans hc.h6, h8⟩
  have hHn : ∀ {V V' : World}, H V → But Nil V V' → H V' := fun {V V'} hV hb => ⟨(hb.block g6 (lt_of_heap hV.1) id).trans hV.1, (hb.block g8 (lt_of_heap hV.2) id).trans hV.2⟩
  have hfU0 : ∀ (V : World), (Instr.fieldAt TU (.pointer (some ⟨g8, 0, none⟩)) 0).run Try.prog V = .ok (.pointer (some ⟨g8, 0, none⟩)) V := fun V => by
    have := run_fieldAt_of (w := V) tU fU (j := 0) rfl g8 0
    simpa [offs, widths] using this
  have hfU1 : ∀ (V : World), (Instr.fieldAt TU (.pointer (some ⟨g8, 0, none⟩)) 1).run Try.prog V = .ok (.pointer (some ⟨g8, 1, none⟩)) V := fun V => by
    have := run_fieldAt_of (w := V) tU fU (j := 1) rfl g8 0
    simpa [offs, widths, Ty.w] using this
  have hl0 : ∀ V, H V → (Instr.loadAt TM (.pointer (some ⟨g6, 0, none⟩))).run Try.prog V = .ok (.map (some g)) V := fun V hV => run_load_mapO hV.1
  have hl1 : ∀ V, H V → (Instr.loadAt TI (.pointer (some ⟨g8, 0, none⟩))).run Try.prog V = .ok (.int .i64 k) V := fun V hV => by
    obtain ⟨v, h1, h2⟩ := run_load_of (w := V) (F := fun _ => False) int_ty (b := g8) (o := 0) (cs := [.int .i64 k]) (fun j u hj => by
      rw [cell_of_row V g8 (0 + j) _ _ (0, 0) hV.2]
      cases j with
      | zero => simpa using hj
      | succ j => simp at hj) (rdI hk)
    have h2 : [Value.int .i64 k] = [v] := h2
    injection h2 with h2
    rw [h2]
    exact h1
  have hl2 : ∀ V, H V → (Instr.loadAt TC (.pointer (some ⟨g8, 1, none⟩))).run Try.prog V = .ok (.agg #[u1, u2]) V := fun V hV => by
    obtain ⟨v, h1, h2⟩ := run_load_of (w := V) (F := fun _ => False) tC (b := g8) (o := 1) (cs := [u1, u2]) (fun j u hj => by
      rw [cell_of_row V g8 (1 + j) _ _ (0, 0) hV.2]
      match j with
      | 0 => simpa using hj
      | 1 => simpa using hj
      | j + 2 => simp at hj) (Rd.flat 8 _ flC hx)
    have h2 : v = .agg [u1, u2].toArray := h2
    rw [h2] at h1
    exact h1
  refine wp_region_held mixed_okD (S := H) ?_
  rw [size6]
  refine takeH o6_0 (by kernel_rfl) (by kernel_rfl) (by kernel_rfl) hQ (v := .map (some g)) (fun o h V hV => x_load h (q0x e6) (hl0 V hV)) hH0 ?_
  refine takeH o6_1 (by kernel_rfl) (by kernel_rfl) (by kernel_rfl) hQ (v := .pointer (some ⟨g8, 0, none⟩)) (fun o h V hV => x_field h (q0x (by simpa [put_ne] using e8)) (hfU0 V)) hH0 ?_
  refine takeH o6_2 (by kernel_rfl) (by kernel_rfl) (by kernel_rfl) hQ (v := .int .i64 k) (fun o h V hV => x_load h (q0x (put_self (by simp [put_size, hsz]))) (hl1 V hV)) hH0 ?_
  refine takeH o6_3 (by kernel_rfl) (by kernel_rfl) (by kernel_rfl) hQ (v := .map (some g)) (fun o h V hV => x_load h (q0x (by simpa [put_ne] using e6)) (hl0 V hV)) hH0 ?_
  refine takeH o6_4 (by kernel_rfl) (by kernel_rfl) (by kernel_rfl) hQ (v := .pointer (some ⟨g8, 0, none⟩)) (fun o h V hV => x_field h (q0x (by simpa [put_ne] using e8)) (hfU0 V)) hH0 ?_
  refine takeH o6_5 (by kernel_rfl) (by kernel_rfl) (by kernel_rfl) hQ (v := .int .i64 k) (fun o h V hV => x_load h (q0x (put_self (by simp [put_size, hsz]))) (hl1 V hV)) hH0 ?_
  refine takeH o6_7 (by kernel_rfl) (by kernel_rfl) (by kernel_rfl) hQ (v := .pointer (some ⟨g8, 1, none⟩)) (fun o h V hV => x_field h (q0x (by simpa [put_ne] using e8)) (hfU1 V)) hH0 ?_
  refine takeH o6_8 (by kernel_rfl) (by kernel_rfl) (by kernel_rfl) hQ (v := .agg #[u1, u2]) (fun o h V hV => x_load h (q0x (put_self (by simp [put_size, hsz]))) (hl2 V hV)) hH0 ?_
  generalize ha1 : Act.put _ (some 39) _ = a1
  have s1 : a1.tmps.size = 110 := by rw [← ha1]; simp [put_size, hsz]
  have d1 : a1.defers = a.defers := by rw [← ha1]; simp [put_def]
  have k1 : ∀ t, hasN killO t = false → a1.tmps[t]? = a.tmps[t]? := fun t ht => by
    have hne : ∀ q, hasN killO q = true → q ≠ t := fun q hq e => by
      subst e
      rw [ht] at hq
      cases hq
    rw [← ha1, put_ne (hne 39 rfl), put_ne (hne 38 rfl), put_ne (hne 36 rfl), put_ne (hne 35 rfl), put_ne (hne 34 rfl), put_ne (hne 33 rfl), put_ne (hne 32 rfl), put_ne (hne 31 rfl)]
  have k27 : a1.tmps[27]? = a.tmps[27]? := by rw [← ha1]; simp [put_ne]
  have t31 : a1.tmps[31]? = some (.map (some g)) := by rw [← ha1, put_ne (show (39 : Nat) ≠ 31 by decide), put_ne (show (38 : Nat) ≠ 31 by decide), put_ne (show (36 : Nat) ≠ 31 by decide), put_ne (show (35 : Nat) ≠ 31 by decide), put_ne (show (34 : Nat) ≠ 31 by decide), put_ne (show (33 : Nat) ≠ 31 by decide), put_ne (show (32 : Nat) ≠ 31 by decide), put_self (by simp only [put_size, hsz]; decide)]
  have t33 : a1.tmps[33]? = some (.int .i64 k) := by rw [← ha1, put_ne (show (39 : Nat) ≠ 33 by decide), put_ne (show (38 : Nat) ≠ 33 by decide), put_ne (show (36 : Nat) ≠ 33 by decide), put_ne (show (35 : Nat) ≠ 33 by decide), put_ne (show (34 : Nat) ≠ 33 by decide), put_self (by simp only [put_size, hsz]; decide)]
  have t34 : a1.tmps[34]? = some (.map (some g)) := by rw [← ha1, put_ne (show (39 : Nat) ≠ 34 by decide), put_ne (show (38 : Nat) ≠ 34 by decide), put_ne (show (36 : Nat) ≠ 34 by decide), put_ne (show (35 : Nat) ≠ 34 by decide), put_self (by simp only [put_size, hsz]; decide)]
  have t36 : a1.tmps[36]? = some (.int .i64 k) := by rw [← ha1, put_ne (show (39 : Nat) ≠ 36 by decide), put_ne (show (38 : Nat) ≠ 36 by decide), put_self (by simp only [put_size, hsz]; decide)]
  have t39 : a1.tmps[39]? = some (.agg #[u1, u2]) := by rw [← ha1, put_self (by simp only [put_size, hsz]; decide)]
  clear ha1
  have h8b : g8 ≠ b := fun e => by
    subst e
    rcases hbt with ⟨cur, h⟩ | h
    · rw [hH0.2] at h
      injection h with h
      injection h with _ h
      exact absurd h (by decide)
    · exact absurd h (Nat.not_le.2 g8W)
  -- the last two operations
  have last : ∀ (listed : Array Bool) (a2 : Act) (W1 : World) (nb : Nat), Region.ready .any ops6 listed = [10] → Region.ready .any ops6 (listed.setIfInBounds 10 true) = [11] → Region.ready .any ops6 ((listed.setIfInBounds 10 true).setIfInBounds 11 true) = [] →
      But Nil W0 W1 → H W1 → W1.heap[nb]? = some (.cells #[u1, u2] TC (0, 0)) → a2.tmps.size = 110 → a2.defers = a1.defers → (∀ t, hasN killO t = false → a2.tmps[t]? = a1.tmps[t]?) → a2.tmps[27]? = a1.tmps[27]? → a2.tmps[31]? = some (.map (some g)) → a2.tmps[33]? = some (.int .i64 k) → a2.tmps[37]? = some va → a2.tmps[40]? = some (.slice (some ⟨nb, 0, none⟩) 1 1) →
      wpAnyH Try.prog .any ops6 Q H 2 listed a2 W1 := by
    intro listed a2 W1 nb r1 r2 r3 hb1 hH1 hnb s2 d2 k2 k27' q31 q33 q37 q40
    refine wpAnyH_all r1 (by simp) fun i hi => ?_
    simp only [List.mem_singleton] at hi
    subst hi
    refine wpOp_at o6_10 fun o hd hop => ?_
    obtain ⟨v', W2, b', hr, hb2, hE, hb', hlt⟩ := el_app (W := W1) tC flC (hlk W1 hb1).2 (vs := [u1, u2]) (Rd.flat 8 _ flC hx) hnb (by
      have h1 : (5864062014634 : Nat) ≤ LM (.st 30) := by decide
      omega) o.type
    refine op_val (x_app hop (q0x q37) (q0x q40) hr) hd ⟨?_, ?_⟩
    · refine ⟨(hb2.block g6 (lt_of_heap hH1.1) (fun e => ?_)).trans hH1.1, (hb2.block g8 (lt_of_heap hH1.2) (fun e => h8b e)).trans hH1.2⟩
      have : g6 = b := e
      omega
    · refine wpAnyH_all r2 (by simp) fun i hi => ?_
      simp only [List.mem_singleton] at hi
      subst hi
      refine wpOp_at o6_11 fun o' hd' hop' => ?_
      obtain ⟨W3, hr3, hb3, ho3⟩ := hput x W1 W2 v' b' hb1 hb2 hE hb' hlt
      refine op_skip (x_mset hop' (q0x (by simpa [put_ne] using q31)) (q0x (by simpa [put_ne] using q33)) (q0x (put_self (by omega))) hr3) hd' ⟨?_, wpAnyH_done r3 (hfin _ _ ?_ ?_ ?_ ?_ ho3) _⟩
      · have hH2 : H W2 := ⟨(hb2.block g6 (lt_of_heap hH1.1) (fun e => by have : g6 = b := e; omega)).trans hH1.1, (hb2.block g8 (lt_of_heap hH1.2) (fun e => h8b e)).trans hH1.2⟩
        exact ⟨(hb3.block g6 (lt_of_heap hH2.1) (fun e => hc.g6g e)).trans hH2.1, (hb3.block g8 (lt_of_heap hH2.2) (fun e => by have : g8 = g := e; have := hc.gw; omega)).trans hH2.2⟩
      · rw [put_def, d2, d1]
      · rw [put_size, s2]
      · intro t ht
        rw [put_ne (fun e => by subst e; simp [hasN, killO] at ht), k2 t ht, k1 t ht]
      · rw [put_ne (by decide), k27', k27]
  have hu : ∀ V : World, V.heap[V.heap.size]? = none := fun V => by simp
  refine wpAnyH_all (rs := [6, 9]) (by kernel_rfl) (by simp) fun i hi => ?_
  simp only [List.mem_cons, List.not_mem_nil, or_false] at hi
  rcases hi with rfl | rfl
  · refine wpOp_at o6_6 fun o hd hop => op_val (x_lookup hop (q0x t34) (q0x t36) (hlk W0 (But.refl _ _)).1) hd ⟨hH0, ?_⟩
    refine wpAnyH_all (rs := [9]) (by kernel_rfl) (by simp) fun i hi => ?_
    simp only [List.mem_singleton] at hi
    subst hi
    have hbn : But Nil W0 (W0.alloc (.cells #[u1, u2] TC)) := (But.refl Nil W0).alloc _
    refine wpOp_at o6_9 fun o hd hop => op_val (x_build hop (q0x (by simpa [put_ne] using t39)) (run_build_c W0 u1 u2)) hd ⟨hHn hH0 hbn, ?_⟩
    refine last _ _ _ W0.heap.size (by kernel_rfl) (by kernel_rfl) (by kernel_rfl) hbn (hHn hH0 hbn) (heap_new rfl) (by simp [put_size, s1]) (by simp [put_def]) (fun t ht => ?_) (by simp [put_ne]) (by simpa [put_ne] using t31) (by simpa [put_ne] using t33) ?_ (put_self (by simp [put_size, s1]))
    · rw [put_ne (fun e => by subst e; simp [hasN, killO] at ht), put_ne (fun e => by subst e; simp [hasN, killO] at ht)]
    · rw [put_ne (by decide)]
      exact put_self (by omega)
  · have hbn : But Nil W0 (W0.alloc (.cells #[u1, u2] TC)) := (But.refl Nil W0).alloc _
    refine wpOp_at o6_9 fun o hd hop => op_val (x_build hop (q0x t39) (run_build_c W0 u1 u2)) hd ⟨hHn hH0 hbn, ?_⟩
    refine wpAnyH_all (rs := [6]) (by kernel_rfl) (by simp) fun i hi => ?_
    simp only [List.mem_singleton] at hi
    subst hi
    refine wpOp_at o6_6 fun o hd hop => op_val (x_lookup hop (q0x (by simpa [put_ne] using t34)) (q0x (by simpa [put_ne] using t36)) (hlk _ hbn).1) hd ⟨hHn hH0 hbn, ?_⟩
    refine last _ _ _ W0.heap.size (by kernel_rfl) (by kernel_rfl) (by kernel_rfl) hbn (hHn hH0 hbn) (heap_new rfl) (by simp [put_size, s1]) (by simp [put_def]) (fun t ht => ?_) (by simp [put_ne]) (by simpa [put_ne] using t31) (by simpa [put_ne] using t33) (put_self (by simp [put_size, s1])) ?_
    · rw [put_ne (fun e => by subst e; simp [hasN, killO] at ht), put_ne (fun e => by subst e; simp [hasN, killO] at ht)]
    · rw [put_ne (by decide)]
      exact put_self (by omega)
end Go.Proofs.Ytmebmpgffhajbaa


namespace Go.Proofs.Ytmebmpgffhajbaa
open Go.RowKit
set_option linter.unusedVariables false
set_option maxRecDepth 100000

theorem round_ok {w : World} {a0 : Act} {g g6 : Nat} {T6 : TypeId} {L : List D} {A : Option Addr} {cap : Nat} (hc : LCx w a0 g g6 T6 L A cap) {j : Nat} {a : Act} {W : World} (h : LInv w a0 g L j a W)
    {R : Act → World → Prop} {R' : Act → World → Prop} (hR : j < L.length → ∀ a' W', LInv w a0 g L (j + 1) a' W' → R a' W')
    (hR' : L.length ≤ j → ∀ a' W', LInv w a0 g L j a' W' → R' a' W') : roundO.wp Try.prog (fun e a' W' => (e = .normal ∧ R a' W') ∨ (e = .exit 0 ∧ R' a' W')) a W := by
  have e25 : a.tmps[25]? = _ := (h.tm 25 rfl).trans hc.e25
  have e26 : a.tmps[26]? = _ := (h.tm 26 rfl).trans hc.e26
  have e6 : a.tmps[6]? = _ := (h.tm 6 rfl).trans hc.e6
  have hsz := h.sz
  refine wp_seq (wp_region ?_)
  rw [size4]
  refine wpOps_at o4_0 fun o hd hop => ?_
  refine op_val (x_lss hop (q0x h.e27) (q0x e26)) hd ?_
  show Code.wp _ _ _ _ _
  by_cases hlt : j < L.length
  · rw [decide_eq_true (show (j : Int) < (L.length : Int) by omega)]
    refine wp_seq (wp_cond_true (q0x (put_self (by omega))) (wp_skip ?_))
    show Code.wp _ _ _ _ _
    obtain ⟨b, ob, k, x, u1, u2, rfl, hbg, hrng, hLj, hk, hx⟩ := hc.el j hlt
    have hbw : b < w.heap.size := rangeAt_lt hrng (by simp)
    have hrW : W.rangeAt b (ob + j * 3) [.int .i64 k, u1, u2] := rangeAt_blk hrng (h.o.but.block b hbw fun e => hbg e)
    have hone := (Rd.len _ hx).2
    refine wp_seq (wp_block (wp_seq (wp_region ?_)))
    rw [size5]
    refine wpOps_at o5_0 fun o hd hop => ?_
    have hix := run_indexAt_of (w := W) tRU tU (b := b) (o := ob) (len := L.length) (cap := cap) (k := .i64) (i := (j : Int)) (by omega) (by omega)
    rw [wU, Int.toNat_natCast] at hix
    refine op_val (x_index hop (q0x (by rw [put_ne (by decide)]; exact e25)) (q0x (by rw [put_ne (by decide)]; exact h.e27)) hix) hd ?_
    refine wpOps_at o5_1 fun o hd hop => ?_
    obtain ⟨v, hl1, hl2⟩ := run_load_of (w := W) (F := fun _ => False) tU hrW (d := .a [.i k, x]) ⟨36, _, rfl, fU, .int .i64, [.st 30], [.int .i64 k], [u1, u2], rfl, rfl, ⟨.i64, rfl, rfl, hk⟩, .st 30, [], [u1, u2], [], rfl, rfl, Rd.flat 8 _ flC hx, rfl, rfl⟩
    have hl2 : v = .agg #[.int .i64 k, u1, u2] := hl2
    subst hl2
    refine op_val (x_load hop (q0x (put_self (by simp only [put_size]; omega))) hl1) hd ?_
    refine wpOps_at o5_2 fun o hd hop => ?_
    refine op_val (x_alloc hop (run_alloc_u W)) hd ?_
    refine wpOps_at o5_3 fun o hd hop => ?_
    have hst := run_store_u (w := W.alloc (.cells #[.int .i64 0, .int .i64 0, .int .i64 0] TU)) (g := W.heap.size) (heap_new rfl) rfl (x := .int .i64 k) (y := u1) (z := u2) (fun u hu => by
      rcases List.mem_cons.1 hu with rfl | hu
      · rfl
      · exact hone u hu)
    refine op_skip (x_store hop (q0x (put_self (by simp only [put_size]; omega))) (q0x (by rw [put_ne (by decide), put_self (by simp only [put_size]; omega)])) hst) hd ?_
    show Code.wp _ _ _ _ _
    generalize hW2 : (W.alloc (.cells #[.int .i64 0, .int .i64 0, .int .i64 0] TU)).setRow W.heap.size #[.int .i64 k, u1, u2] = W2
    have hb2 : But Nil W W2 := by
      rw [← hW2]
      exact setRow_but ((But.refl Nil W).alloc _) (.inr (Nat.le_refl _)) _
    have h8 : W2.heap[W.heap.size]? = some (.cells #[.int .i64 k, u1, u2] TU (0, 0)) := by
      rw [← hW2]
      exact setRow_heap _ _ _ _ _ _ (heap_new rfl)
    have ho2 : OInv w g (.st 30) j (grpD (L.take j)) W2 := by
      obtain ⟨es, clock, bs, q1, q2, q3, q4⟩ := h.o.map
      refine ⟨h.o.but.trans_nil hb2, h.o.row, es, clock, bs, (hb2.block g (lt_of_heap q1) id).trans q1, q2.keep flC fun y hy => hb2.block y (q4 y hy).2 id, q3, fun y hy => ?_⟩
      have := q4 y hy
      have := hb2.size
      exact ⟨(q4 y hy).1, by omega⟩
    have hjl := hc.hL
    refine region6_ok hc (m := j) (L := L) (by simp only [put_size]; exact hsz) (by rw [put_ne (by decide), put_ne (by decide), put_ne (by decide), put_ne (by decide)]; exact e6) (put_self (by simp only [put_size]; omega)) hk hx h8 h.o.but.size ho2 (by omega) (fun c a w => ?_) fun a' W' d' s' t' t27' ho' => ?_
    · simp only [Exit.inBlock, Exit.then]
      simp
    · show Code.wp _ _ _ _ _
      have hse : grpD (L.take (j + 1)) = addK (.i k) x (grpD (L.take j)) := by
        rw [grp_succ hlt, hLj]
        rfl
      have e27' : a'.tmps[27]? = some (.int .i64 j) := by
        rw [t27', put_ne (by decide), put_ne (by decide), put_ne (by decide), put_ne (by decide)]
        exact h.e27
      refine wp_region ?_
      rw [size7]
      refine wpOps_at o7_0 fun o hd hop => ?_
      refine op_val (x_inc hop (q0x e27') (by omega) (by omega)) hd ?_
      refine wpOps_at o7_1 fun o hd hop => ?_
      refine op_val (x_move hop (q0x (put_self (by omega)))) hd ?_
      refine .inl ⟨rfl, hR hlt _ _ ⟨?_, ?_, fun t ht => ?_, ?_, by rw [hse]; exact ho'⟩⟩
      · simp only [put_def, d']
        exact h.df
      · simp only [put_size]
        exact s'
      · have hne : ∀ q, hasN killO q = true → q ≠ t := fun q hq e => by
          subst e
          rw [ht] at hq
          cases hq
        rw [put_ne (hne 27 rfl), put_ne (hne 42 rfl), t' t ht, put_ne (hne 8 rfl), put_ne (hne 30 rfl), put_ne (hne 29 rfl), put_ne (hne 28 rfl)]
        exact h.tm t ht
      · rw [put_self (by simp only [put_size]; omega)]
        rfl
  · rw [decide_eq_false (show ¬ (j : Int) < (L.length : Int) by omega)]
    refine wp_seq (wp_cond_false (q0x (put_self (by omega))) (wp_exit ?_))
    refine .inr ⟨rfl, hR' (by omega) _ _ ⟨by rw [put_def]; exact h.df, by rw [put_size]; exact h.sz, fun t ht => ?_, ?_, h.o⟩⟩
    · rw [put_ne (fun e => by subst e; simp [hasN, killO] at ht)]
      exact h.tm t ht
    · rw [put_ne (by decide)]
      exact h.e27

theorem LInv.start {w : World} {a0 : Act} {g g6 : Nat} {T6 : TypeId} {L : List D} {A : Option Addr} {cap : Nat} (hc : LCx w a0 g g6 T6 L A cap) (h27 : a0.tmps[27]? = some (.int .i64 0)) {clock : Nat} (hm : w.heap[g]? = some (.map #[] clock)) : LInv w a0 g L 0 a0 w :=
  ⟨rfl, hc.sz, fun _ _ => rfl, h27, But.refl _ _, fun p hp => by simp [grpD] at hp, #[], clock, [], hm, trivial, List.nodup_nil, fun b hb => by cases hb⟩

theorem loop_ok {w : World} {a0 : Act} {g g6 : Nat} {T6 : TypeId} {L : List D} {A : Option Addr} {cap : Nat} (hc : LCx w a0 g g6 T6 L A cap) (h27 : a0.tmps[27]? = some (.int .i64 0)) {clock : Nat} (hm : w.heap[g]? = some (.map #[] clock))
    {Q : Exit → Act → World → Prop} (hQ : ∀ a' W', LInv w a0 g L L.length a' W' → Q .normal a' W') : codeL.wp Try.prog Q a0 w := by
  rw [codeL_eq]
  refine wp_block (wp_loop_rounds (L.length + 1) ?_)
  have key : ∀ m j a W, L.length - j < m → j ≤ L.length → LInv w a0 g L j a W → Code.rounds Try.prog roundO (Exit.inBlock 0 Q) m a W := by
    intro m
    induction m with
    | zero => intro j a W h; omega
    | succ m ih =>
      intro j a W h1 h2 h
      rw [rounds_succ]
      refine wp_mono (round_ok hc h (R := Code.rounds Try.prog roundO (Exit.inBlock 0 Q) m) (R' := Q .normal) (fun hlt a' W' h' => ih (j + 1) a' W' (by omega) (by omega) h') (fun hge a' W' h' => hQ a' W' (by
        obtain rfl : j = L.length := by omega
        exact h'))) ?_
      rintro e a' W' (⟨rfl, hr⟩ | ⟨rfl, hr⟩)
      · exact hr
      · simp only [Exit.then, Exit.inBlock, if_true]
        exact hr
  exact key _ 0 a0 w (by omega) (Nat.zero_le _) (LInv.start hc h27 hm)
end Go.Proofs.Ytmebmpgffhajbaa


namespace Go.Proofs.Ytmebmpgffhajbaa
open Go.RowKit
set_option linter.unusedVariables false
set_option maxRecDepth 100000

section
variable {c : Cx} {p : Pins} {w w0 : World} {S0 : Nat → Prop} {a : Act} {σ σ' : St} {d : List Deferred}

theorem olds_ok (hb : Bs c.A w0 S0 p w) (hf : SF c σ p w a) (hd : a.defers = d) (hz : a.tmps.size = 110) {N : List X} (h : doOlds σ = some (N, σ')) (hN : ∀ n ∈ N, n.says c.v) {Q : Exit → Act → World → Prop}
    (hk : ∀ a' w', Post c w0 S0 d 110 σ' a' w' → Q .normal a' w') : codeL.wp Try.prog Q a w := by
  unfold doOlds at h
  split at h
  · rename_i xT U own dep xn o1 d1 o2 d2 tm te pin dm h25 h26 h27 h6 hm6
    split at h
    · rename_i hok
      simp only [Bool.and_eq_true, Bool.not_eq_true'] at hok
      obtain ⟨hU, htm, hte, hp96, hpin⟩ := hok
      have hU := Nat.eq_of_beq_eq_true hU
      subst hU
      rw [Ty.q0c] at htm hte
      subst htm
      subst hte
      simp only [Option.some.injEq, Prod.mk.injEq] at h
      obtain ⟨rfl, rfl⟩ := h
      have hne96 : pin ≠ 96 := fun e => by subst e; simp at hp96
      -- the trail
      obtain ⟨v25, e25, hv25⟩ := hf.t 25 _ h25
      have hcon := asRow_ok (c := c) (p := p) (w := w) tU (show asRow TU (.v xT (.row TU) own dep) = some (xT, own, dep) by simp [asRow]) hv25
      obtain ⟨te0, A1, cap, hte0, hd1, hev, q1, q2, q3, hE1⟩ := hcon.row
      obtain rfl := Option.some.inj (hte0.symm.trans tU)
      subst hev
      -- its length
      obtain ⟨v26, e26, hv26⟩ := hf.t 26 _ h26
      obtain ⟨n26, hx26, hv26, -⟩ := pd_int hv26
      subst hv26
      have hn : n26 = ((xT.ev c.v).rs.length : Nat) := by
        have h0 : (D.b (decide (xn.ev c.v = .i ((xT.ev c.v).rs.length : Nat)))).tt = true := hN (.eq xn (.len xT)) (by simp)
        have h1 : xn.ev c.v = .i ((xT.ev c.v).rs.length : Nat) := of_decide_eq_true h0
        rw [hx26] at h1
        exact D.i.inj h1
      subst hn
      obtain ⟨v27, e27, hv27⟩ := hf.t 27 _ h27
      obtain ⟨n27, hx27, hv27, -⟩ := pd_int hv27
      subst hv27
      have hn27 : n27 = 0 := by
        have : D.i 0 = D.i n27 := hx27
        injection this with this
        exact this.symm
      subst hn27
      obtain ⟨v6, e6, g6, hg6, hv6, hat6⟩ := hf.t 6 _ h6
      subst hv6
      obtain ⟨g6', cs6, T6, hg6', hh6, hc6⟩ := hf.m 6 _ hm6
      obtain rfl := Option.some.inj (hg6.symm.trans hg6')
      have hc6 : Fl c.A p w dm (lkA [(0, pin)] 0) (.mp []) (.map TI TRC) cs6.toList := hc6
      rw [q03] at hc6
      obtain ⟨g, es, clock, hcs6, hgp, hmap, hml⟩ : ∃ g es clock, cs6 = #[.map (some g)] ∧ p pin = some g ∧ w.heap[g]? = some (.map es clock) ∧ es.toList = [] := by
        rcases hc6 with ⟨E, te, l, v, e, -⟩ | ⟨K, V, kt, vt, l, g, es, clock, e1, hK, hV, e2, e3, hg, hh, hl⟩
        · cases e
        · injection e2 with e2
          subst e2
          refine ⟨g, es, clock, by apply Array.ext'; exact e3, hg, hh, ?_⟩
          cases hes : es.toList with
          | nil => rfl
          | cons e r => rw [hes] at hl; exact hl.elim
      have hes : es = #[] := by apply Array.ext'; exact hml
      subst hes hcs6
      have hg6g : g6 ≠ g := fun e => by
        subst e
        exact hne96 (hb.inj _ _ _ hgp hg6)
      have hnotpin : ∀ {b : Nat}, FFD c.A p (own.map (·.2) ++ dep) b → b ≠ g := fun {b} hF e => by
        subst e
        rcases hF with ⟨-, hfr⟩ | ⟨x, hx, hpx⟩
        · exact hfr pin hgp
        · have := hb.inj _ _ _ hpx hgp
          subst this
          have : hasN (own.map (·.2) ++ dep) x = true := hasN_iff.2 hx
          rw [hpin] at this
          cases this
      have hlc : LCx w a g g6 T6 (xT.ev c.v).rs A1 cap := by
        refine ⟨lt_of_heap hmap, hh6, hg6g, hz, e25, e26, e6, ?_, fun j hj => ?_⟩
        · have : LM (.st 36) = 5864062014634 := by decide
          omega
        · obtain ⟨b, o, cs, e1, hF, hr, hd⟩ := (rdE_iff.1 hE1) j hj
          rw [wU, Nat.zero_add] at hr
          have hd : Rd w _ (xT.ev c.v).rs[j] (.st 36) cs := hd
          generalize (xT.ev c.v).rs[j] = y at hd ⊢
          cases y with
          | a l =>
            obtain ⟨T, fs, eT, hfl, hl⟩ := hd
            injection eT with eT
            subst eT
            obtain rfl := Option.some.inj (hfl.symm.trans fU)
            cases l with
            | nil => obtain ⟨h, -⟩ := hl; cases h
            | cons y0 l =>
              obtain ⟨t0, ts, c1, c2, e2, e3, h5, h6⟩ := hl
              injection e2 with e2 e4
              subst e2 e4 e3
              cases l with
              | nil => obtain ⟨h, -⟩ := h6; cases h
              | cons y1 l =>
                obtain ⟨t1, ts', c3, c4, e5, e6, h7, h8⟩ := h6
                injection e5 with e5 e7
                subst e5 e7 e6
                cases l with
                | cons y2 l => obtain ⟨t, ts, c1, c2, e1, -⟩ := h8; cases e1
                | nil =>
                  obtain ⟨-, rfl⟩ := h8
                  cases y0 with
                  | i k =>
                    obtain ⟨k0, e8, rfl, hk0⟩ := h5
                    injection e8 with e8
                    subst e8
                    have hl3 := (Rd.len _ h7).1
                    rw [wC] at hl3
                    match c3, hl3 with
                    | [u1, u2], _ =>
                      exact ⟨b, o, k, y1, u1, u2, e1, hnotpin hF, by simpa using hr, rfl, hk0, Rd.flat 8 _ flC h7⟩
                  | u => exact h5.elim
                  | b x => cases h5.1
                  | s x => cases h5.1
                  | a l => obtain ⟨T, fs, e, -⟩ := h5; cases e
                  | r l => obtain ⟨E, te, A, cap, e, -⟩ := h5; cases e
                  | mp l => obtain ⟨K, V, kt, vt, g, es, clock, e, -⟩ := h5; cases e
          | u => exact hd.elim
          | i n => obtain ⟨k, e, -⟩ := hd; cases e
          | b x => cases hd.1
          | s x => cases hd.1
          | r l => obtain ⟨E, te, A, cap, e, -⟩ := hd; cases e
          | mp l => obtain ⟨K, V, kt, vt, g, es, clock, e, -⟩ := hd; cases e
      refine loop_ok hlc e27 hmap fun a' W' hI => hk a' W' ?_
      obtain ⟨es', clock', bs, r1, r2, r3, r4⟩ := hI.o.map
      rw [List.take_length] at r2
      have hbut := hI.o.but
      have hst : Stab c.A (oneQ pin) no p w p W' := ⟨hbut.size, fun b hlt ha hfr => ⟨hbut.block b hlt fun e => by
          have e : b = g := e
          subst e
          exact hfr pin hgp, hfr⟩, fun x b _ h => h, fun x b hx hpx => hbut.block b (hb.bd x b hpx) fun e => by
          have e : b = g := e
          subst e
          have := hb.inj _ _ _ hpx hgp
          subst this
          simp [oneQ] at hx⟩
      have hb1 : Bs c.A w0 S0 p W' := by
        refine ⟨hb.inj, fun x b hx => Nat.lt_of_lt_of_le (hb.bd x b hx) hbut.size, hb.but.trans hbut fun x hx hlt => ?_, hb.pin, hb.new, hb.pa, fun x b hx => ?_⟩
        · have hx : x = g := hx
          subst hx
          exact hb.pin pin x hgp
        · by_cases hbg : b = g
          · subst hbg
            exact .inr ⟨_, _, r1⟩
          · exact (hb.obj x b hx).same (hbut.block b (hb.bd x b hx) hbg)
      have hf1 : SF c ⟨σ.t.filter fun e => !hasN killO e.1, σ.m⟩ p w a' := by
        refine ⟨fun t x hx => ?_, hf.m⟩
        obtain ⟨h1, h2⟩ := filter_lkq (q := fun y => !hasN killO y) hx
        obtain ⟨v, h3, h4⟩ := hf.t t x h1
        exact ⟨v, (hI.tm t (by simpa using h2)).trans h3, h4⟩
      have hf2 := SF.un (q := oneQ pin) hb1.inj hb1.pa (hf1.keep hst)
      have hq96 : oneQ pin 96 = false := by
        unfold oneQ
        cases hh : Nat.beq 96 pin with
        | false => rfl
        | true => exact absurd (Nat.eq_of_beq_eq_true hh).symm hne96
      refine ⟨unP (oneQ pin) p, hb1.un _, ⟨hf2.t, fun k e he => ?_⟩, hI.df.trans hd, hI.sz⟩
      by_cases hk6 : 6 = k
      · subst hk6
        rw [putA_self] at he
        injection he with he
        subst he
        have hng : Free (unP (oneQ pin) p) g := fun x hx => by
          obtain ⟨h1, h2⟩ := unP_some hx
          have := hb.inj _ _ _ h2 hgp
          subst this
          simp [oneQ] at h1
        refine ⟨g6, #[.map (some g)], T6, unP_of hq96 hg6, (hbut.block g6 (hb.bd _ _ hg6) fun e => hg6g e).trans hh6, ?_⟩
        show Fl c.A (unP (oneQ pin) p) W' [] (lkA [] 0) (.mp (grpD (xT.ev c.v).rs)) (.map TI TRC) [.map (some g)]
        show Rd W' (FFD c.A (unP (oneQ pin) p) []) (.mp (grpD (xT.ev c.v).rs)) (.map TI TRC) [.map (some g)]
        refine ⟨TI, TRC, _, _, g, es', clock', rfl, int_ty, row_ty, rfl, .inl ⟨hb.pa _ _ hgp, hng⟩, r1, r2.rdM tC rfl flC fun b hbm => .inl ⟨hb.new b ?_, fun x hx => ?_⟩⟩
        · have := (r4 b hbm).1
          have := hb.but.size
          omega
        · have := hb.bd x b (unP_some hx).2
          have := (r4 b hbm).1
          omega
      · rw [putA_ne hk6] at he
        exact hf2.m k e he
    · cases h
  · cases h
end

theorem fok_walk {ct : Ct} {tbl : Tbl} (fn : Func) (cd : Code) (hf : Try.prog.funcs[ct.f]? = some fn) (hb : fn.body = some cd) (hsz : ct.ar.length ≤ fn.ntmps)
    (hen : ∀ args w, (callFunc ct.f args).run Try.prog w = .ok (.enter ct.f args) w) {g : List D → Option (List D)} (hnp : noPan tbl = true)
    (h : ∀ ds outs, WfA ct.ars ds → g ds = some outs → ∀ (c : Cx) (w0 : World) (S0 : Nat → Prop) (p : Pins) (w : World) (a : Act) (Q : Exit → Act → World → Prop), c.lo = ct.ar.length → ds.length = dataN ct.ars → PanQ tbl w0 S0 [] Q → PanR tbl (fun o => o = outs) w0 S0 [] Q → Bs c.A w0 S0 p w → SF (c.at (tblS tbl) ds) (begS ct) p w a → a.defers = [] → a.tmps.size = fn.ntmps →
      (∀ n' r σ' l' B' p' w' a', l'.length = n' → (endT ct fn.results.toList n' r σ').go (tblS tbl) (fun o => o = outs) l' B' → Bs c.A w0 S0 p' w' → SF (c.at (tblS tbl) l') σ' p' w' a' → a'.defers = [] → a'.tmps.size = fn.ntmps → Q r.exit' a' w') →
      cd.wpIn (FR none) 0 Try.prog Q a w) : FOk ct g := by
  refine ⟨hen, fun A p w vs us ds outs hg hpre hvl hargs => calls_of_wp hf hb ?_⟩
  obtain ⟨hwf, hdl, -⟩ := hargs.wf
  rw [all_map] at hwf hdl
  obtain ⟨hb0, hsf⟩ := start_run (tbl := tbl) hsz hpre hvl hargs
  refine (wpIn_wide (n := 0)).1 ?_
  refine h ds outs hwf hg (cxA tbl ct A p vs us ds) w (pinned p) p w _ _ rfl hdl (fun e he T hT _ a w2 h3 h4 => (noPan_no hnp he hT).elim) (fun _ e he T hT a w2 h3 h4 => (noPan_no hnp he hT).elim) hb0 hsf rfl (by simp; omega) fun n' r σ' l' B' p' w' a' hl' hgo' hb' hf' hd' hz' => ?_
  have fin' : ∀ xs, fin ct fn.results.toList σ' = some xs → X.evs (evl (tblS tbl) l') xs = outs → a'.defers = [] ∧ ∃ v, (results fn a'.tmps).run Try.prog w' = .ok v w' ∧ ((∃ T, ct.pn = some T ∧ outs = [.u] ∧ Ending.returned v = .panicked (panCh T) ∧ But (pinned p) w w') ∨ ∃ rs p', Ending.returned v = .returned (retV rs) ∧ Bs A w (pinned p) p' w' ∧ ResL A p' w' ct.rs ct.ar.length rs (outs.take ct.rs.length) ∧ RefL A p p' w' ct.all (outs.drop ct.rs.length)) := by
    intro xs hfin hout
    obtain ⟨rs, p2, h1, h2, h3, h4⟩ := fin_run (c := cxA tbl ct A p vs us ds) rfl rfl (fun _ _ => rfl) hargs hb' hf' hfin
    rw [hout] at h3 h4
    exact ⟨hd', _, h1, .inr ⟨rs, p2, rfl, h2, h3, h4⟩⟩
  cases r with
  | exit i => exact hgo'.elim
  | normal =>
    simp only [endT] at hgo'
    split at hgo'
    · rename_i xs hx
      exact fin' xs hx hgo'
    · exact hgo'.elim
  | ret =>
    simp only [endT] at hgo'
    split at hgo'
    · rename_i xs hx
      exact fin' xs hx hgo'
    · exact hgo'.elim

noncomputable def bodyO : Code := match Try.f31.body with
  | some c => c
  | none => .skip
noncomputable def r0O : Code := match bodyO with | .seq x _ => x | _ => .skip
noncomputable def r1O : Code := match bodyO with | .seq _ (.seq x _) => x | _ => .skip
noncomputable def r2O : Code := match bodyO with | .seq _ (.seq _ (.seq x _)) => x | _ => .skip
noncomputable def r3O : Code := match bodyO with | .seq _ (.seq _ (.seq _ (.seq (.seq x _) _))) => x | _ => .skip
theorem bodyO_eq : Try.f31.body = some (.seq r0O (.seq r1O (.seq r2O (.seq (.seq r3O codeL) codeB)))) := by kernel_rfl
theorem codeA_eq : codeA = .seq r0O (.seq r1O (.seq r2O r3O)) := by kernel_rfl
theorem ntmpsO : Try.f31.ntmps = 110 := by kernel_rfl

theorem fok_mark {ct : Ct} {g : List D → Option (List D)} {tbl : Tbl} (ann : Ann) (htb : TblOk tbl) (hcf : Try.prog.funcs[ct.f]? = some Try.f31)
    (hen : ∀ args w, (callFunc ct.f args).run Try.prog w = .ok (.enter ct.f args) w) (hsz : ct.ar.length ≤ 110)
    (h : ∀ ds outs, WfA ct.ars ds → g ds = some outs → (treeH Try.prog tbl ann ct Try.f31 codeA codeB doOlds).go (tblS tbl) (fun o => o = outs) ds fun _ _ => False) (hnp : noPan tbl = true := by rfl) : FOk ct g := by
  refine fok_walk (tbl := tbl) Try.f31 _ hcf bodyO_eq (by rw [ntmpsO]; exact hsz) hen hnp fun ds outs hwf hg c w0 S0 p w a Q hlo hdl hQ hR hb hf hd hz hfin => ?_
  have hgo := h ds outs hwf hg
  unfold treeH at hgo
  rw [codeA_eq, ← hlo] at hgo
  simp only [toT] at hgo
  refine wpIn_seq (toT_ok none 0 htb r0O hgo hdl hb hf hd hz (fun e he T hT _ a w2 h3 h4 => (noPan_no hnp he hT).elim) (fun _ e he T hT a w2 h3 h4 => (noPan_no hnp he hT).elim) fun n1 r1 σ1 l1 B1 p1 w1 a1 hl1 _ _ hgo1 hb1 hf1 hd1 hz1 => ?_)
  cases r1 with
  | exit i => exact hfin n1 (.exit i) σ1 l1 B1 p1 w1 a1 hl1 hgo1 hb1 hf1 hd1 hz1
  | ret => exact hfin n1 .ret σ1 l1 B1 p1 w1 a1 hl1 hgo1 hb1 hf1 hd1 hz1
  | normal =>
    show Code.wpIn _ _ _ _ _ _ _
    refine wpIn_seq (toT_ok none 0 htb r1O hgo1 hl1 hb1 hf1 hd1 hz1 (fun e he T hT _ a w2 h3 h4 => (noPan_no hnp he hT).elim) (fun _ e he T hT a w2 h3 h4 => (noPan_no hnp he hT).elim) fun n2 r2 σ2 l2 B2 p2 w2 a2 hl2 _ _ hgo2 hb2 hf2 hd2 hz2 => ?_)
    cases r2 with
    | exit i => exact hfin n2 (.exit i) σ2 l2 B2 p2 w2 a2 hl2 hgo2 hb2 hf2 hd2 hz2
    | ret => exact hfin n2 .ret σ2 l2 B2 p2 w2 a2 hl2 hgo2 hb2 hf2 hd2 hz2
    | normal =>
      show Code.wpIn _ _ _ _ _ _ _
      refine wpIn_seq (toT_ok none 0 htb r2O hgo2 hl2 hb2 hf2 hd2 hz2 (fun e he T hT _ a w2 h3 h4 => (noPan_no hnp he hT).elim) (fun _ e he T hT a w2 h3 h4 => (noPan_no hnp he hT).elim) fun n3 r3 σ3 l3 B3 p3 w3 a3 hl3 _ _ hgo3 hb3 hf3 hd3 hz3 => ?_)
      cases r3 with
      | exit i => exact hfin n3 (.exit i) σ3 l3 B3 p3 w3 a3 hl3 hgo3 hb3 hf3 hd3 hz3
      | ret => exact hfin n3 .ret σ3 l3 B3 p3 w3 a3 hl3 hgo3 hb3 hf3 hd3 hz3
      | normal =>
        show Code.wpIn _ _ _ _ _ _ _
        refine wpIn_seq (wpIn_seq (toT_ok none 0 htb r3O hgo3 hl3 hb3 hf3 hd3 hz3 (fun e he T hT _ a w2 h3 h4 => (noPan_no hnp he hT).elim) (fun _ e he T hT a w2 h3 h4 => (noPan_no hnp he hT).elim) fun n4 r4 σ4 l4 B4 p4 w4 a4 hl4 _ _ hgo4 hb4 hf4 hd4 hz4 => ?_))
        cases r4 with
        | exit i => exact hfin n4 (.exit i) σ4 l4 B4 p4 w4 a4 hl4 hgo4 hb4 hf4 hd4 hz4
        | ret => exact hfin n4 .ret σ4 l4 B4 p4 w4 a4 hl4 hgo4 hb4 hf4 hd4 hz4
        | normal =>
          show Code.wpIn _ _ _ _ _ _ _
          simp only at hgo4
          split at hgo4
          · rename_i N σ5 hdo
            obtain ⟨hN, hgo5⟩ := needT_ok hgo4
            refine (wpIn_wide (n := 0)).2 ?_
            refine olds_ok (c := c.at (tblS tbl) l4) hb4 hf4 hd4 (hz4.trans ntmpsO) hdo hN fun a5 w5 hp5 => ?_
            obtain ⟨p5, hb5, hf5, hd5, hz5⟩ := hp5
            show Code.wpIn (FR none) 0 _ _ _ _ _
            refine toT_ok none 0 htb codeB hgo5 hl4 hb5 hf5 hd5 (hz5.trans ntmpsO.symm) (fun e he T hT _ a w2 h3 h4 => (noPan_no hnp he hT).elim) (fun _ e he T hT a w2 h3 h4 => (noPan_no hnp he hT).elim) fun n6 r6 σ6 l6 B6 p6 w6 a6 hl6 _ _ hgo6 hb6 hf6 hd6 hz6 => ?_
            exact hfin n6 r6 σ6 l6 B6 p6 w6 a6 hl6 hgo6 hb6 hf6 hd6 hz6
          · exact hgo4.elim
end Go.Proofs.Ytmebmpgffhajbaa

