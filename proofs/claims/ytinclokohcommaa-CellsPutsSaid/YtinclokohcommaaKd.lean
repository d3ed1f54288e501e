/-
  Lemmas of the walk and plain laws, put together. No condition.
-/
import Derived.Great.BuildSlice
import Derived.OwnWalk
import Derived.StillTailTactics
import Derived.TacticsInMore
import Derived.Test.YtinclokohcommaaKc
namespace Go.Proofs.Ytinclokohcommaa
open Go.RowKit
set_option linter.unusedVariables false
set_option maxRecDepth 100000

theorem Wf.row {d : D} {E : TypeId} (h : Wf d (.row E)) : ∃ l te, d = .r l ∧ tyOf E = some te ∧ l.length ≤ LM te ∧ ∀ x ∈ l, Wf x te := by
  obtain ⟨w, F, cs, h⟩ := h
  cases d with
  | r l =>
    obtain ⟨E', te, A, cap, e, hte, e3, h1, h2, -, hR⟩ := h
    injection e with e
    subst e
    refine ⟨l, te, rfl, hte, h2, fun x hx => ?_⟩
    obtain ⟨i, hi, rfl⟩ := List.mem_iff_getElem.1 hx
    obtain ⟨b, o, c, -, -, -, hr⟩ := rdE_iff.1 hR i hi
    exact ⟨w, F, c, hr⟩
  | u => exact h.elim
  | i n => obtain ⟨k, e, -⟩ := h; cases e
  | b x => cases h.1
  | s x => cases h.1
  | a l => obtain ⟨T', fs0, e1, -⟩ := h; cases e1
  | mp l => obtain ⟨K, V, kt, vt, g, es, clock, e, -⟩ := h; cases e

theorem Wf.int {d : D} {k : IntKind} (h : Wf d (.int k)) : ∃ n, d = .i n ∧ rngB k n = true := by
  obtain ⟨w, F, cs, h⟩ := h
  cases d with
  | i n =>
    obtain ⟨k', e, -, hr⟩ := h
    injection e with e
    subst e
    exact ⟨n, rfl, hr⟩
  | u => exact h.elim
  | r l => obtain ⟨E, te, A, cap, e, -⟩ := h; cases e
  | b x => cases h.1
  | s x => cases h.1
  | a l => obtain ⟨T', fs0, e1, -⟩ := h; cases e1
  | mp l => obtain ⟨K, V, kt, vt, g, es, clock, e, -⟩ := h; cases e

theorem Wf.bool {d : D} (h : Wf d .bool) : ∃ x, d = .b x := by
  obtain ⟨w, F, cs, h⟩ := h
  cases d with
  | b x => exact ⟨x, rfl⟩
  | u => exact h.elim
  | r l => obtain ⟨E, te, A, cap, e, -⟩ := h; cases e
  | i n => obtain ⟨k, e, -⟩ := h; cases e
  | s x => cases h.1
  | a l => obtain ⟨T', fs0, e1, -⟩ := h; cases e1
  | mp l => obtain ⟨K, V, kt, vt, g, es, clock, e, -⟩ := h; cases e

theorem Wf.str {d : D} (h : Wf d .str) : ∃ x, d = .s x ∧ x.size ≤ LIM := by
  obtain ⟨w, F, cs, h⟩ := h
  cases d with
  | s x => exact ⟨x, rfl, h.2.2⟩
  | u => exact h.elim
  | r l => obtain ⟨E, te, A, cap, e, -⟩ := h; cases e
  | i n => obtain ⟨k, e, -⟩ := h; cases e
  | b x => cases h.1
  | a l => obtain ⟨T', fs0, e1, -⟩ := h; cases e1
  | mp l => obtain ⟨K, V, kt, vt, g, es, clock, e, -⟩ := h; cases e

def WfL : List D → List Ty → Prop
  | [], fs => fs = []
  | d :: ds, fs => ∃ t ts, fs = t :: ts ∧ Wf d t ∧ WfL ds ts

theorem RdF.wf {w : World} {F : Nat → Prop} : ∀ {ds : List D} {fs : List Ty} {cs : List Value}, RdF w F ds fs cs → WfL ds fs
  | [], fs, cs, h => h.1
  | d :: ds, fs, cs, h => by
    obtain ⟨t, ts, c1, c2, e1, -, h1, h2⟩ := h
    exact ⟨t, ts, e1, ⟨w, F, c1, h1⟩, RdF.wf h2⟩

theorem Wf.st {d : D} {S : TypeId} (h : Wf d (.st S)) : ∃ ds fs, d = .a ds ∧ flds S = some fs ∧ WfL ds fs := by
  obtain ⟨w, F, cs, h⟩ := h
  cases d with
  | a l =>
    obtain ⟨T', fs0, e1, e2, h⟩ := h
    injection e1 with e1
    subst e1
    exact ⟨l, fs0, rfl, e2, RdF.wf h⟩
  | u => exact h.elim
  | r l => obtain ⟨E, te, A, cap, e, -⟩ := h; cases e
  | i n => obtain ⟨k, e, -⟩ := h; cases e
  | b x => cases h.1
  | s x => cases h.1
  | mp l => obtain ⟨K, V, kt, vt, g, es, clock, e, -⟩ := h; cases e
end Go.Proofs.Ytinclokohcommaa


namespace Go.Proofs.Ytinclokohcommaa
open Go.RowKit
set_option linter.unusedVariables false
set_option maxRecDepth 100000

def allB (e : Ev) : List X → Bool
  | [] => true
  | x :: l => (x.ev e).tt && allB e l
theorem allB_ok {e : Ev} : ∀ {l : List X}, allB e l = true → allSay e l
  | [], _ => trivial
  | x :: l, h => by
    simp only [allB, Bool.and_eq_true] at h
    exact ⟨h.1, allB_ok h.2⟩

def itf (f : List D → Option (Nat × List D)) (id : Nat) : Nat → List D → Option (Nat × List D)
  | 0, _ => none
  | k + 1, st => match f st with
    | some (j, st') => if Nat.beq j (id + 1) then itf f id k st' else some (j, st')
    | none => none

def sameOut : Nat × List D → Nat × List D → Bool := fun a b => Nat.beq a.1 b.1 && D.beqs a.2 b.2

def Tree.den (S : Nat → List D → Option (List D)) (fuel : Nat) : Tree → List D → Option (Nat × List D)
  | .bad _, _ => none
  | .need ns t, l => if allB (evl S l) ns then t.den S fuel l else none
  | .br x t e, l => if (x.ev (evl S l)).tt then t.den S fuel l else e.den S fuel l
  | .amb x neg t e, l => if (x.ev (evl S l)).rs.isEmpty then (match t.den S fuel l, e.den S fuel l with
      | some a, some b => if sameOut a b then some a else none
      | _, _ => none) else if neg then t.den S fuel l else e.den S fuel l
  | .leaf xs, l => some (0, X.evs (evl S l) xs)
  | .back id xs, l => some (id + 1, X.evs (evl S l) xs)
  | .loop id n init body, l => itf (fun st => body.den S fuel (l.take n ++ st)) id fuel (X.evs (evl S l) init)

def outOk (R : List D → Prop) (B : Nat → List D → Prop) : Nat × List D → Prop
  | (0, xs) => R xs
  | (id + 1, xs) => B id xs

theorem beqs_eq : ∀ {l m : List D}, D.beqs l m = true → l = m
  | [], [], _ => rfl
  | x :: l, y :: m, h => by
    simp only [D.beqs, Bool.and_eq_true] at h
    rw [(D.q0i _ _).1 h.1, beqs_eq h.2]
  | [], _ :: _, h => by simp [D.beqs] at h
  | _ :: _, [], h => by simp [D.beqs] at h

theorem sameOut_ok {a b : Nat × List D} (h : sameOut a b = true) : a = b := by
  obtain ⟨i, l⟩ := a
  obtain ⟨j, m⟩ := b
  simp only [sameOut, Bool.and_eq_true] at h
  rw [Nat.eq_of_beq_eq_true h.1, beqs_eq h.2]

theorem least_of {P : Nat → Prop} (h : ∃ k, P k) : ∃ m, P m ∧ ∀ k, P k → m ≤ k := by
  obtain ⟨k, hk⟩ := h
  induction k using Nat.strongRecOn with
  | _ k ih =>
    by_cases hl : ∃ j, j < k ∧ P j
    · obtain ⟨j, hj, hp⟩ := hl
      exact ih j hj hp
    · exact ⟨k, hk, fun j hj => Nat.le_of_not_lt fun hlt => hl ⟨j, hlt, hj⟩⟩
open Classical in
noncomputable def leastN (P : Nat → Prop) : Nat := if h : ∃ k, P k then (least_of h).choose else 0
theorem leastN_ok {P : Nat → Prop} (h : ∃ k, P k) : P (leastN P) ∧ ∀ k, P k → leastN P ≤ k := by
  unfold leastN
  rw [dif_pos h]
  exact (least_of h).choose_spec

theorem go_of_den {S : Nat → List D → Option (List D)} {fuel : Nat} {R : List D → Prop} : ∀ (t : Tree) {l : List D} {B : Nat → List D → Prop} {out : Nat × List D}, t.den S fuel l = some out → outOk R B out → t.go S R l B := by
  intro t
  induction t with
  | bad n => intro l B out h; cases h
  | need ns t ih =>
    intro l B out h ho
    unfold Tree.den at h
    split at h
    · rename_i hs
      exact ⟨allB_ok hs, ih h ho⟩
    · cases h
  | br x t e iht ihe =>
    intro l B out h ho
    unfold Tree.den at h
    refine ⟨fun hx => ?_, fun hx => ?_⟩
    · rw [if_pos hx] at h
      exact iht h ho
    · rw [if_neg (by rw [hx]; decide)] at h
      exact ihe h ho
  | amb x neg t e iht ihe =>
    intro l B out h ho
    unfold Tree.den at h
    split at h
    · split at h
      · rename_i a b ha hb
        split at h
        · rename_i hs
          injection h with h
          subst h
          have := sameOut_ok hs
          subst this
          exact ⟨fun _ => iht ha ho, fun _ => ihe hb ho⟩
        · cases h
      · cases h
    · rename_i hne
      have hne' : ¬ (x.ev (evl S l)).rs = [] := fun e => hne (by rw [e]; rfl)
      split at h
      · rename_i hn
        exact ⟨fun _ => iht h ho, fun hc => absurd (hc hn) hne'⟩
      · rename_i hn
        exact ⟨fun hc => absurd (hc (by simpa using hn)) hne', fun _ => ihe h ho⟩
  | leaf xs =>
    intro l B out h ho
    simp only [Tree.den, Option.some.injEq] at h
    subst h
    exact ho
  | back id xs =>
    intro l B out h ho
    simp only [Tree.den, Option.some.injEq] at h
    subst h
    exact ho
  | loop id n init body ih =>
    intro l B out h ho
    unfold Tree.den at h
    generalize hf : (fun st => body.den S fuel (l.take n ++ st)) = f at h
    have hfe : ∀ st, body.den S fuel (l.take n ++ st) = f st := fun st => by rw [← hf]
    -- more rounds answer alike
    have mono : ∀ k st o, itf f id k st = some o → itf f id (k + 1) st = some o := by
      intro k
      induction k with
      | zero => intro st o h; cases h
      | succ k ihk =>
        intro st o h
        unfold itf at h ⊢
        split at h
        · rename_i j st' hj
          split at h
          · rename_i hb
            rw [if_pos hb]
            exact ihk _ _ h
          · rename_i hb
            rw [if_neg hb]
            exact h
        · cases h
    refine ⟨fun st => ∃ k o, itf f id k st = some o ∧ outOk R B o, fun st => leastN fun k => (itf f id k st).isSome = true, ⟨fuel, out, h, ho⟩, ?_⟩
    rintro st - ⟨k, o, hk, hoo⟩
    have hex : ∃ k, (itf f id k st).isSome = true := ⟨k, by rw [hk]; rfl⟩
    obtain ⟨hmin, -⟩ := leastN_ok hex
    obtain ⟨o', ho'⟩ := Option.isSome_iff_exists.1 hmin
    have up : ∀ a b st o, itf f id a st = some o → itf f id (a + b) st = some o := by
      intro a b
      induction b with
      | zero => intro st o h; exact h
      | succ b ihb => intro st o h; exact mono _ _ _ (ihb st o h)
    have hoo' : o' = o := by
      have h1 := up _ k st o' ho'
      have h2 := up k (leastN fun k => (itf f id k st).isSome = true) st o hk
      rw [Nat.add_comm] at h2
      exact Option.some.inj (h1.symm.trans h2)
    rw [hoo'] at ho'
    cases hm : leastN (fun k => (itf f id k st).isSome = true) with
    | zero => rw [hm] at ho'; cases ho'
    | succ m =>
      rw [hm] at ho'
      unfold itf at ho'
      split at ho'
      · rename_i j st' hj
        refine ih ((hfe st).trans hj) ?_
        split at ho'
        · rename_i hb
          obtain rfl := Nat.eq_of_beq_eq_true hb
          show updB B id _ id st'
          unfold updB
          rw [if_pos rfl]
          refine ⟨⟨m, o, ho', hoo⟩, ?_⟩
          have hex' : ∃ k, (itf f id k st').isSome = true := ⟨m, by rw [ho']; rfl⟩
          show _ < leastN (fun k => (itf f id k st).isSome = true)
          rw [hm]
          exact Nat.lt_succ_of_le ((leastN_ok hex').2 m (by rw [ho']; rfl))
        · rename_i hb
          injection ho' with ho'
          subst ho'
          cases j with
          | zero => exact hoo
          | succ j =>
            show updB B id _ j st'
            unfold updB
            rw [if_neg]
            · exact hoo
            · intro e
              subst e
              exact hb (Nat.beq_refl _)
      · cases ho'

def outs0 : Option (Nat × List D) → Option (List D)
  | some (0, xs) => some xs
  | _ => none
theorem outs0_ok {o : Option (Nat × List D)} {xs : List D} (h : outs0 o = some xs) : o = some (0, xs) := by
  unfold outs0 at h
  split at h
  · injection h with h; rw [h]
  · cases h

def denF (tbl : Tbl) (fuel : Nat) (t : Tree) : List D → Option (List D) := fun ds => outs0 (t.den (tblS tbl) fuel ds)
theorem q0e {tbl : Tbl} {fuel : Nat} {t : Tree} {ds outs : List D} (h : denF tbl fuel t ds = some outs) : t.go (tblS tbl) (fun o => o = outs) ds fun _ _ => False :=
  go_of_den t (outs0_ok h) rfl

def upN (G : (List D → Option (List D)) → List D → Option (List D)) : Nat → List D → Option (List D)
  | 0 => fun _ => none
  | n + 1 => G (upN G n)
theorem FOk.none {ct : Ct} (hen : ∀ args w, (callFunc ct.f args).run Try.prog w = .ok (.enter ct.f args) w) : FOk ct fun _ => Option.none := ⟨hen, fun A p w vs us ds outs h => (by cases h), fun _ A p w vs us ds outs h => (by cases h)⟩
theorem fok_up {ct : Ct} {G : (List D → Option (List D)) → List D → Option (List D)} (hen : ∀ args w, (callFunc ct.f args).run Try.prog w = .ok (.enter ct.f args) w) (h : ∀ g, FOk ct g → FOk ct (G g)) : ∀ n, FOk ct (upN G n)
  | 0 => FOk.none hen
  | n + 1 => h _ (fok_up hen h n)
def cutM (m : List D → Nat) (n : Nat) (g : List D → Option (List D)) : List D → Option (List D) := fun ds => if m ds < n then g ds else none
theorem fok_cut {ct : Ct} {m : List D → Nat} {g : List D → Option (List D)} (hen : ∀ args w, (callFunc ct.f args).run Try.prog w = .ok (.enter ct.f args) w) (h : ∀ n, FOk ct (cutM m n g) → FOk ct (cutM m (n + 1) g)) : FOk ct g := by
  have key : ∀ n, FOk ct (cutM m n g) := by
    intro n
    induction n with
    | zero => exact ⟨hen, fun A p w vs us ds outs h => (by simp [cutM] at h), fun _ A p w vs us ds outs h => (by simp [cutM] at h)⟩
    | succ n ih => exact h n ih
  refine ⟨hen, fun A p w vs us ds outs hg hp hl ha => (key (m ds + 1)).call A p w vs us ds outs ?_ hp hl ha, fun hk A p w vs us ds outs hg hp hl ha => (key (m ds + 1)).keep hk A p w vs us ds outs ?_ hp hl ha⟩ <;>
  · simp only [cutM, if_pos (Nat.lt_succ_self _)]
    exact hg
theorem FOk.sub {ct : Ct} {g g' : List D → Option (List D)} (h : FOk ct g) (hs : ∀ ds outs, g' ds = some outs → g ds = some outs) : FOk ct g' := ⟨h.enter, fun A p w vs us ds outs hg hp hl ha => h.call A p w vs us ds outs (hs ds outs hg) hp hl ha, fun hk A p w vs us ds outs hg hp hl ha => h.keep hk A p w vs us ds outs (hs ds outs hg) hp hl ha⟩
end Go.Proofs.Ytinclokohcommaa


namespace Go.Proofs.Ytinclokohcommaa
open Go.RowKit
set_option linter.unusedVariables false
set_option maxRecDepth 100000

section
variable {A A' : Nat → Prop} {p : Pins} {w : World} (hA : ∀ b, b < w.heap.size → A b → A' b)
include hA

theorem FFD.chA {dep : List Nat} {b : Nat} (hb : b < w.heap.size) (h : FFD A p dep b) : FFD A' p dep b := by
  rcases h with ⟨h1, h2⟩ | h
  · exact .inl ⟨hA b hb h1, h2⟩
  · exact .inr h

theorem Rd.chA {dep : List Nat} {d : D} {t : Ty} {cs : List Value} (h : Rd w (FFD A p dep) d t cs) : Rd w (FFD A' p dep) d t cs := Rd.mono (fun b hb hf => hf.chA hA hb) h

theorem Fl.chA {dep : List Nat} {o : Option Nat} {d : D} {t : Ty} {cs : List Value} (h : Fl A p w dep o d t cs) : Fl A' p w dep o d t cs := by
  cases o with
  | none => exact Rd.chA hA h
  | some pin =>
    rcases h with ⟨E, te, l, v, e1, hte, e2, e3, hv⟩ | h
    · refine .inl ⟨E, te, l, v, e1, hte, e2, e3, ?_⟩
      rcases hv with hv | ⟨g, cap, cur, e4, hg, hh, q1, q2, q3, q4, q5⟩
      · exact .inl hv
      · refine .inr ⟨g, cap, cur, e4, hg, hh, q1, q2, q3, q4, fun i hi => ?_⟩
        obtain ⟨vs, hr1, hd⟩ := q5 i hi
        exact ⟨vs, hr1, Rd.chA hA hd⟩
    · exact .inr h

theorem Fls.chA {dep : List Nat} {own : List (Nat × Nat)} : ∀ {ds : List D} {j : Nat} {fs : List Ty} {cs : List Value}, Fls A p w dep own j ds fs cs → Fls A' p w dep own j ds fs cs
  | [], _, _, _, h => h
  | d :: ds, j, fs, cs, ⟨t, ts, c1, c2, e1, e2, h1, h2⟩ => ⟨t, ts, c1, c2, e1, e2, Fl.chA hA h1, Fls.chA h2⟩

theorem Con.chA {dep : List Nat} {own : List (Nat × Nat)} {d : D} {t : Ty} {cs : List Value} (h : Con A p w d t own dep cs) : Con A' p w d t own dep cs := by
  unfold Con at h ⊢
  split
  · obtain ⟨fs, ds, hf, e, h⟩ := h
    exact ⟨fs, ds, hf, e, Fls.chA hA h⟩
  · rename_i hne
    split at h
    · rename_i T; exact absurd rfl (hne T)
    · exact Fl.chA hA h
end

mutual
/-- No word of a snapshot within. -/
def AV.plain : AV → Bool
  | .sn _ _ => false
  | .pt _ _ _ _ => false
  | .ar _ _ _ => false
  | .lv _ _ => false
  | .ax _ _ _ _ => false
  | .tup l => avsPlain l
  | .gd _ a => AV.plain a
  | .fn _ l => avsPlain l
  | .bx _ _ a => AV.plain a
  | .fr _ a => AV.plain a
  | _ => true
def avsPlain : List AV → Bool
  | [] => true
  | a :: l => AV.plain a && avsPlain l
end

section
variable {c c' : Cx} {p : Pins} {w : World}
mutual
theorem AV.chA (hA : ∀ b, b < w.heap.size → c.A b → c'.A b) (hv : c.v = c'.v) (hT : c.At = c'.At) : ∀ (x : AV) (v : Value), x.plain = true → x.pd c p w v → x.pd c' p w v
  | .any, v, _, h => h
  | .undef, v, _, h => h
  | .nilS, v, _, h => h
  | .nb x neg, v, _, ⟨b, e, h⟩ => ⟨b, e, by rw [← hv]; exact h⟩
  | .nilP, v, _, h => h
  | .ref k q o t, v, _, ⟨g, hg, e, ha⟩ => ⟨g, hg, e, by rw [← hT]; exact ha⟩
  | .v x t own dep, v, _, ⟨cs, hp, hc⟩ => ⟨cs, hp, by rw [← hv]; exact hc.chA hA⟩
  | .rd x t dep wr, v, _, ⟨b, o, cs, e, hf, hr, h0, hd, hw⟩ => by
    refine ⟨b, o, cs, e, hf.chA hA (rangeAt_lt hr h0), hr, h0, by rw [← hv]; exact Rd.chA hA hd, ?_⟩
    match wr, hw with
    | none, _ => trivial
    | some (pin, i, pt, q, te), hw =>
      refine ⟨hw.1, ?_⟩
      rw [← hv]
      exact hw.2
  | .tup l, v, hb, ⟨vs, e, h⟩ => ⟨vs, e, pds_chA hA hv hT l vs (by simpa [AV.plain] using hb) h⟩
  | .gd cs a, v, hb, h => by
    rw [show AV.pd c' p w (.gd cs a) v = ((hold c'.v cs = true → AV.pd c' p w a v) ∧ (hold c'.v cs = false → v = Go.undef)) from rfl, ← hv]
    exact ⟨fun hc => AV.chA hA hv hT a v (by simpa [AV.plain] using hb) (h.1 hc), h.2⟩
  | .fn f l, v, hb, ⟨vs, e, h⟩ => ⟨vs, e, pds_chA hA hv hT l vs (by simpa [AV.plain] using hb) h⟩
  | .bx k T a, v, hb, ⟨g, u, hg, e, hh, h⟩ => ⟨g, u, ⟨hg.1, by rw [← hT]; exact hg.2⟩, e, hh, AV.chA hA hv hT a u (by simpa [AV.plain] using hb) h⟩
  | .sn t a, v, hb, h => by simp [AV.plain] at hb
  | .pt _ _ _ _, v, hb, h => by simp [AV.plain] at hb
  | .ar _ _ _, v, hb, h => by simp [AV.plain] at hb
  | .lv _ _, v, hb, h => by simp [AV.plain] at hb
  | .ax _ _ _ _, v, hb, h => by simp [AV.plain] at hb
  | .fr T a, v, hb, ⟨g, u, ha, hf, e, hh, h⟩ => ⟨g, u, hA g (Array.getElem?_eq_some_iff.1 hh).1 ha, hf, e, hh, AV.chA hA hv hT a u (by simpa [AV.plain] using hb) h⟩
theorem pds_chA (hA : ∀ b, b < w.heap.size → c.A b → c'.A b) (hv : c.v = c'.v) (hT : c.At = c'.At) : ∀ (l : List AV) (vs : List Value), avsPlain l = true → pds c p w l vs → pds c' p w l vs
  | [], vs, _, h => h
  | a :: l, vs, hb, ⟨v, r, e, ha, hl⟩ => by
    simp only [avsPlain, Bool.and_eq_true] at hb
    exact ⟨v, r, e, AV.chA hA hv hT a v hb.1 ha, pds_chA hA hv hT l r hb.2 hl⟩
end

theorem EntOk.chA (hA : ∀ b, b < w.heap.size → c.A b → c'.A b) (hv : c.v = c'.v) {k : Nat} {e : Ent} (h : EntOk c p w k e) : EntOk c' p w k e := by
  obtain ⟨g, cs, T, hg, hh, hc⟩ := h
  exact ⟨g, cs, T, hg, hh, by rw [← hv]; exact hc.chA hA⟩

def snT (l : List (Nat × AV)) : List (Nat × AV) := l.map fun e => (e.1, .sn e.1 e.2)
def plainT (l : List (Nat × AV)) : Bool := l.all fun e => e.2.plain

theorem lkA_mapK {α β : Type} {f : Nat → α → β} {l : List (Nat × α)} {k : Nat} {y : β} (h : lkA (l.map fun e => (e.1, f e.1 e.2)) k = some y) : ∃ x, lkA l k = some x ∧ y = f k x := by
  induction l with
  | nil => cases h
  | cons e l ih =>
    obtain ⟨m, x⟩ := e
    by_cases hm : m = k
    · subst hm
      rw [List.map_cons, q00] at h
      injection h with h
      exact ⟨x, q00, h.symm⟩
    · rw [List.map_cons, q04 hm] at h
      rw [q04 hm]
      exact ih h

theorem SF.snap (hA : ∀ b, b < w.heap.size → c.A b → c'.A b) (hv : c.v = c'.v) (hT : c.At = c'.At) {σ : St} {a : Act} (hs : ∀ t v, a.tmps[t]? = some v → c'.snap t = v) (hp : plainT σ.t = true) (h : SF c σ p w a) : SF c' ⟨snT σ.t, σ.m⟩ p w a := by
  refine ⟨fun t x hx => ?_, fun k e he => (h.m k e he).chA hA hv⟩
  obtain ⟨y, hy, rfl⟩ := lkA_mapK (f := fun t x => AV.sn t x) hx
  obtain ⟨v, h1, h2⟩ := h.t t y hy
  exact ⟨v, h1, (hs t v h1).symm, AV.chA hA hv hT y v (List.all_eq_true.1 hp _ (q1m hy)) h2⟩
theorem SF.other {σ : St} {a b : Act} (hs : ∀ t, a.tmps[t]? = some (c.snap t) ∨ a.tmps[t]? = none) (hsz : b.tmps.size ≤ a.tmps.size) (hall : ∀ t x, lkA σ.t t = some x → ∃ y, x = .sn t y) (h : SF c σ p w b) : SF c σ p w a := by
  refine ⟨fun t x hx => ?_, h.m⟩
  obtain ⟨y, rfl⟩ := hall t x hx
  obtain ⟨v, h1, h2, h3⟩ := h.t t _ hx
  have hlt := (Array.getElem?_eq_some_iff.1 h1).1
  rcases hs t with h4 | h4
  · exact ⟨v, by rw [h4, h2], h2, h3⟩
  · rw [Array.getElem?_eq_none_iff] at h4
    omega
end

section
variable {A : Nat → Prop} {p p' : Pins} {w w' w0 : World} {S0 : Nat → Prop}

theorem Bs.comp (h : Bs A w0 S0 p w) (h' : Bs A w (pinned p) p' w') : Bs A w0 S0 p' w' := by
  refine ⟨h'.inj, h'.bd, ⟨h'.but.os.trans h.but.os, h'.but.tape.trans h.but.tape, h'.but.output.trans h.but.output, Nat.le_trans h.but.size h'.but.size, fun k hk hn => ?_⟩, fun x b hx => ?_, h.new, h'.pa, h'.obj⟩
  · have hkw : k < w.heap.size := Nat.lt_of_lt_of_le hk h.but.size
    refine (h'.but.block k hkw fun ⟨x, hx⟩ => ?_).trans (h.but.block k hk hn)
    rcases h.pin x k hx with h1 | h1
    · exact hn h1
    · omega
  · rcases h'.pin x b hx with ⟨y, hy⟩ | h1
    · exact h.pin y b hy
    · exact .inr (Nat.le_trans h.but.size h1)

end
end Go.Proofs.Ytinclokohcommaa


namespace Go.Proofs.Ytinclokohcommaa
open Go.RowKit
set_option linter.unusedVariables false
set_option maxRecDepth 100000

end Go.Proofs.Ytinclokohcommaa


namespace Go.Proofs.Ytinclokohcommaa
open Go.RowKit
set_option linter.unusedVariables false
set_option maxRecDepth 100000

section
variable {c : Cx} {p : Pins} {w w' w0 : World} {S0 : Nat → Prop} {a : Act} {σ σ' : St} {d : List Deferred} {z : Nat} {tbl : Tbl} {A : Nat → Prop}

theorem SF.same (hs : Stab c.A no no p w p w') (h : SF c σ p w a) : SF c σ p w' a := by
  refine ⟨fun t x hx => ?_, fun k e he => (h.m k e he).kept hs (fun _ _ => ⟨rfl, rfl⟩) ⟨rfl, rfl⟩⟩
  obtain ⟨v, h1, h2⟩ := h.t t x hx
  exact ⟨v, h1, AV.kept hs x v (fun _ _ => ⟨rfl, rfl⟩) (fun _ _ => rfl) h2⟩

end
end Go.Proofs.Ytinclokohcommaa


namespace Go.Proofs.Ytinclokohcommaa
open Go.RowKit
set_option linter.unusedVariables false
set_option maxRecDepth 100000

theorem Bs.up {A A' : Nat → Prop} {p p' : Pins} {w w' w0 : World} {S0 : Nat → Prop} (h : Bs A w0 S0 p w) (h' : Bs A' w (pinned p) p' w') (hA : ∀ b, A' b → A b) : Bs A w0 S0 p' w' :=
  h.comp ⟨h'.inj, h'.bd, h'.but, h'.pin, fun b hb => h.new b (Nat.le_trans h.but.size hb), fun x b hx => hA b (h'.pa x b hx), h'.obj⟩

section
variable {lo z : Nat} {tbl : Tbl}

end
end Go.Proofs.Ytinclokohcommaa


namespace Go.Proofs.Ytinclokohcommaa
open Go.RowKit
set_option linter.unusedVariables false
set_option maxRecDepth 100000

theorem ResL.chA {A A' : Nat → Prop} {p : Pins} {w : World} (hA : ∀ b, b < w.heap.size → A b → A' b) : ∀ {rs : List (Ty × Bool)} {k : Nat} {vs : List Value} {ds : List D}, ResL A p w rs k vs ds → ResL A' p w rs k vs ds
  | [], _, _, _, h => h
  | (t, own) :: l, k, vs, ds, ⟨v, r, d, ds', e1, e2, ⟨cs, hp, hc⟩, h⟩ => ⟨v, r, d, ds', e1, e2, ⟨cs, hp, hc.chA hA⟩, ResL.chA hA h⟩
theorem RefL.chA {A A' : Nat → Prop} {p p' : Pins} {w : World} (hA : ∀ b, b < w.heap.size → A b → A' b) : ∀ {all : List (Nat × Ar)} {ds : List D}, RefL A p p' w all ds → RefL A' p p' w all ds
  | [], _, h => h
  | (i, r) :: l, ds, h => by
    cases r with
    | ref t =>
      obtain ⟨d, ds', e, ⟨g, cs, T, h1, h2, h3, hc⟩, h⟩ := h
      exact ⟨d, ds', e, ⟨g, cs, T, h1, h2, h3, hc.chA hA⟩, RefL.chA hA h⟩
    | mref t =>
      obtain ⟨d, ds', e, ⟨g, h1, h2, hc⟩, h⟩ := h
      exact ⟨d, ds', e, ⟨g, h1, h2, hc.chA hA⟩, RefL.chA hA h⟩
    | _ => exact RefL.chA hA (all := l) h

end Go.Proofs.Ytinclokohcommaa


namespace Go.Proofs.Ytinclokohcommaa
open Go.RowKit
set_option linter.unusedVariables false
set_option maxRecDepth 100000

abbrev T_Cells : Ty := .row 37
abbrev T_Symbols : Ty := .row 72
abbrev T_Undos : Ty := .row 80
abbrev T_Wakes : Ty := .row 82
abbrev T_Store : Ty := .st 26
abbrev T_Cell : Ty := .st 36
abbrev T_Terms : Ty := .row 43
abbrev T_Term : Ty := .st 42
abbrev T_VarCells : Ty := .row 49
abbrev T_VarCell : Ty := .st 48
abbrev T_Symbol : Ty := .st 71
abbrev T_Undo : Ty := .st 79
abbrev T_Wake : Ty := .st 81
def q1r : Ct := ⟨18, [.val (.st 26), .val (.st 26)], [(.bool, false)], [], none, []⟩
theorem enter_ref30_Same (args : Array Value) (w : World) : (callFunc q1r.f args).run Try.prog w = .ok (.enter q1r.f args) w := by kernel_rfl
def ann_ref30_Same : Ann := ⟨[0, 1, 2, 3, 4, 5, 6, 7, 8, 56, 61, 74, 79, 92, 97, 110, 115, 128], [(4, ⟨[(4, .bool, false), (5, .int .i64, false)], [], [57, 58, 59, 60, 61, 64, 65, 66, 67, 68, 69, 70, 71, 72, 73, 74, 62, 63], []⟩),
  (9, ⟨[(4, .bool, false), (6, .int .i64, false)], [], [75, 76, 77, 78, 79, 82, 83, 84, 85, 86, 87, 88, 89, 90, 91, 92, 80, 81], []⟩),
  (14, ⟨[(4, .bool, false), (7, .int .i64, false)], [], [93, 94, 95, 96, 97, 100, 101, 102, 103, 104, 105, 106, 107, 108, 109, 110, 98, 99], []⟩),
  (19, ⟨[(4, .bool, false), (8, .int .i64, false)], [], [111, 112, 113, 114, 115, 118, 119, 120, 121, 122, 123, 124, 125, 126, 127, 128, 116, 117], []⟩)]⟩
def q46 : Tree := (.br (.or (.or (.or (.or (.or (.not (.eq (.len (.fld (.tok 0) 0)) (.len (.fld (.tok 1) 0)))) (.not (.eq (.len (.fld (.tok 0) 1)) (.len (.fld (.tok 1) 1))))) (.not (.eq (.len (.fld (.tok 0) 2)) (.len (.fld (.tok 1) 2))))) (.not (.eq (.len (.fld (.tok 0) 3)) (.len (.fld (.tok 1) 3))))) (.not (.eq (.fld (.tok 0) 4) (.fld (.tok 1) 4)))) (.not (.eq (.fld (.tok 0) 5) (.fld (.tok 1) 5)))) (.leaf [(.lit (.b .false))]) (.loop 4 2 [(.lit (.b .false)), (.lit (.i 0))] (.br (.lt (.tok 3) (.len (.fld (.tok 0) 0))) (.need [(.le (.lit (.i 0)) (.tok 3)), (.lt (.tok 3) (.len (.fld (.tok 1) 0))), (.le (.lit (.i 0)) (.tok 3)), (.lt (.tok 3) (.len (.fld (.tok 0) 0)))] (.br (.not (.eq (.get (.fld (.tok 0) 0) (.tok 3)) (.get (.fld (.tok 1) 0) (.tok 3)))) (.leaf [(.lit (.b .false))]) (.need [(.rng .i64 (.add (.tok 3) (.lit (.i 1))))] (.back 4 [(.tok 2), (.add (.tok 3) (.lit (.i 1)))])))) (.loop 9 4 [(.tok 2), (.lit (.i 0))] (.br (.lt (.tok 5) (.len (.fld (.tok 0) 1))) (.need [(.le (.lit (.i 0)) (.tok 5)), (.lt (.tok 5) (.len (.fld (.tok 1) 1))), (.le (.lit (.i 0)) (.tok 5)), (.lt (.tok 5) (.len (.fld (.tok 0) 1)))] (.br (.not (.eq (.get (.fld (.tok 0) 1) (.tok 5)) (.get (.fld (.tok 1) 1) (.tok 5)))) (.leaf [(.lit (.b .false))]) (.need [(.rng .i64 (.add (.tok 5) (.lit (.i 1))))] (.back 9 [(.tok 4), (.add (.tok 5) (.lit (.i 1)))])))) (.loop 14 6 [(.tok 4), (.lit (.i 0))] (.br (.lt (.tok 7) (.len (.fld (.tok 0) 2))) (.need [(.le (.lit (.i 0)) (.tok 7)), (.lt (.tok 7) (.len (.fld (.tok 1) 2))), (.le (.lit (.i 0)) (.tok 7)), (.lt (.tok 7) (.len (.fld (.tok 0) 2)))] (.br (.not (.eq (.get (.fld (.tok 0) 2) (.tok 7)) (.get (.fld (.tok 1) 2) (.tok 7)))) (.leaf [(.lit (.b .false))]) (.need [(.rng .i64 (.add (.tok 7) (.lit (.i 1))))] (.back 14 [(.tok 6), (.add (.tok 7) (.lit (.i 1)))])))) (.loop 19 8 [(.tok 6), (.lit (.i 0))] (.br (.lt (.tok 9) (.len (.fld (.tok 0) 3))) (.need [(.le (.lit (.i 0)) (.tok 9)), (.lt (.tok 9) (.len (.fld (.tok 1) 3))), (.le (.lit (.i 0)) (.tok 9)), (.lt (.tok 9) (.len (.fld (.tok 0) 3)))] (.br (.not (.eq (.get (.fld (.tok 0) 3) (.tok 9)) (.get (.fld (.tok 1) 3) (.tok 9)))) (.leaf [(.lit (.b .false))]) (.need [(.rng .i64 (.add (.tok 9) (.lit (.i 1))))] (.back 19 [(.tok 8), (.add (.tok 9) (.lit (.i 1)))])))) (.leaf [(.lit (.b .true))]))))))))))
set_option maxRecDepth 100000 in
theorem code_ref30_Same : ∀ cd, Try.f18.body = some cd → treeOf Try.prog [] ann_ref30_Same q1r Try.f18 cd = q46 := by
  intro cd h
  injection h with h
  subst h
  kernel_rfl
theorem fok_ref30_Same {g : List D → Option (List D)}  (h : ∀ ds outs, WfA q1r.ars ds → g ds = some outs → q46.go (tblS []) (fun o => o = outs) ds fun _ _ => False) : FOk q1r g :=
  q09 ann_ref30_Same Try.f18 _ .nil rfl rfl enter_ref30_Same (by decide) fun ds outs hw hg => by rw [code_ref30_Same  _ rfl]; exact h ds outs hw hg

def q22 : Ct := ⟨35, [.val (.int .i64)], [(.st 26, true), (.int .i64, false)], [], none, []⟩
theorem enter_cells_New (args : Array Value) (w : World) : (callFunc q22.f args).run Try.prog w = .ok (.enter q22.f args) w := by kernel_rfl
def ann_cells_New : Ann := ⟨[0, 2, 3, 9], []⟩
def q4t : Tree := (.br (.or (.lt (.tok 0) (.lit (.i 1))) (.lt (.lit (.i 1048576)) (.tok 0))) (.leaf [(.lit (.a [(.r []), (.r []), (.r []), (.r []), (.i 0), (.i 0)])), (.lit (.i 1))]) (.leaf [(.set (.lit (.a [(.r []), (.r []), (.r []), (.r []), (.i 0), (.i 0)])) 5 (.tok 0)), (.lit (.i 0))]))
set_option maxRecDepth 100000 in
theorem code_cells_New : ∀ cd, Try.f35.body = some cd → treeOf Try.prog [] ann_cells_New q22 Try.f35 cd = q4t := by
  intro cd h
  injection h with h
  subst h
  kernel_rfl
theorem fok_cells_New {g : List D → Option (List D)}  (h : ∀ ds outs, WfA q22.ars ds → g ds = some outs → q4t.go (tblS []) (fun o => o = outs) ds fun _ _ => False) : FOk q22 g :=
  q09 ann_cells_New Try.f35 _ .nil rfl rfl enter_cells_New (by decide) fun ds outs hw hg => by rw [code_cells_New  _ rfl]; exact h ds outs hw hg

def q2h : Ct := ⟨45, [.val (.int .i64)], [(.st 42, false)], [], none, []⟩
theorem enter_law30_x (args : Array Value) (w : World) : (callFunc q2h.f args).run Try.prog w = .ok (.enter q2h.f args) w := by kernel_rfl
def ann_law30_x : Ann := ⟨[0, 2], []⟩
def tree_law30_x : Tree := (.leaf [(.set (.lit (.a [(.i 0), (.i 0), (.s ⟨#[]⟩), (.r [])])) 1 (.tok 0))])
set_option maxRecDepth 100000 in
theorem code_law30_x : ∀ cd, Try.f45.body = some cd → treeOf Try.prog [] ann_law30_x q2h Try.f45 cd = tree_law30_x := by
  intro cd h
  injection h with h
  subst h
  kernel_rfl
theorem fok_law30_x {g : List D → Option (List D)}  (h : ∀ ds outs, WfA q2h.ars ds → g ds = some outs → tree_law30_x.go (tblS []) (fun o => o = outs) ds fun _ _ => False) : FOk q2h g :=
  q09 ann_law30_x Try.f45 _ .nil rfl rfl enter_law30_x (by decide) fun ds outs hw hg => by rw [code_law30_x  _ rfl]; exact h ds outs hw hg

def q2g : Ct := ⟨34, [.val (.str), .val (.row 43)], [(.st 42, false)], [], none, []⟩
theorem enter_law30_f (args : Array Value) (w : World) : (callFunc q2g.f args).run Try.prog w = .ok (.enter q2g.f args) w := by kernel_rfl
def ann_law30_f : Ann := ⟨[0, 1, 4], []⟩
def tree_law30_f : Tree := (.leaf [(.set (.set (.set (.lit (.a [(.i 0), (.i 0), (.s ⟨#[]⟩), (.r [])])) 0 (.lit (.i 3))) 2 (.tok 0)) 3 (.tok 1))])
set_option maxRecDepth 100000 in
theorem code_law30_f : ∀ cd, Try.f34.body = some cd → treeOf Try.prog [] ann_law30_f q2g Try.f34 cd = tree_law30_f := by
  intro cd h
  injection h with h
  subst h
  kernel_rfl
theorem fok_law30_f {g : List D → Option (List D)}  (h : ∀ ds outs, WfA q2g.ars ds → g ds = some outs → tree_law30_f.go (tblS []) (fun o => o = outs) ds fun _ _ => False) : FOk q2g g :=
  q09 ann_law30_f Try.f34 _ .nil rfl rfl enter_law30_f (by decide) fun ds outs hw hg => by rw [code_law30_f  _ rfl]; exact h ds outs hw hg

def q0k : Ct := ⟨52, [.rref (.st 26), .val (.st 71)], [(.int .i64, false)], [], none, []⟩
theorem enter_cells_find (args : Array Value) (w : World) : (callFunc q0k.f args).run Try.prog w = .ok (.enter q0k.f args) w := by kernel_rfl
def ann_cells_find : Ann := ⟨[0, 1, 3, 4, 5, 10, 11, 12, 22], [(2, ⟨[(4, .int .i64, false), (11, .int .i64, false)], [], [12, 13, 5, 14, 15, 16, 17, 18, 19, 20, 21, 22, 23, 24], []⟩)]⟩
def q33 : Tree := (.loop 2 2 [(.lit (.i 0)), (.lit (.i 0))] (.br (.lt (.tok 3) (.len (.fld (.tok 0) 1))) (.need [(.le (.lit (.i 0)) (.tok 3)), (.lt (.tok 3) (.len (.fld (.tok 0) 1)))] (.br (.eq (.get (.fld (.tok 0) 1) (.tok 3)) (.tok 1)) (.leaf [(.tok 3)]) (.need [(.rng .i64 (.add (.tok 3) (.lit (.i 1))))] (.back 2 [(.tok 2), (.add (.tok 3) (.lit (.i 1)))])))) (.leaf [(.lit (.i (-1)))])))
set_option maxRecDepth 100000 in
theorem code_cells_find : ∀ cd, Try.f52.body = some cd → treeOf Try.prog [] ann_cells_find q0k Try.f52 cd = q33 := by
  intro cd h
  injection h with h
  subst h
  kernel_rfl
theorem fok_cells_find {g : List D → Option (List D)}  (h : ∀ ds outs, WfA q0k.ars ds → g ds = some outs → q33.go (tblS []) (fun o => o = outs) ds fun _ _ => False) : FOk q0k g :=
  q09 ann_cells_find Try.f52 _ .nil rfl rfl enter_cells_find (by decide) fun ds outs hw hg => by rw [code_cells_find  _ rfl]; exact h ds outs hw hg

def q16 : Ct := ⟨16, [.ref (.st 26), .val (.str), .val (.int .i64)], [(.int .i64, false), (.int .i64, false)], [], none, []⟩
theorem enter_cells_Symbol (args : Array Value) (w : World) : (callFunc q16.f args).run Try.prog w = .ok (.enter q16.f args) w := by kernel_rfl
def ann_cells_Symbol : Ann := ⟨[0, 1, 2, 6, 7, 8, 9, 24, 32, 39], []⟩
def q2p : Tree := (.br (.or (.or (.lt (.lit (.i 100)) (.slen (.tok 1))) (.lt (.tok 2) (.lit (.i 0)))) (.lt (.lit (.i 8)) (.tok 2))) (.leaf [(.lit (.i 0)), (.lit (.i 1)), (.tok 0)]) (.need [(.ok 0 [(.tok 0), (.mk [(.tok 1), (.tok 2)])])] (.br (.le (.lit (.i 0)) (.call 0 0 [(.tok 0), (.mk [(.tok 1), (.tok 2)])])) (.leaf [(.call 0 0 [(.tok 0), (.mk [(.tok 1), (.tok 2)])]), (.lit (.i 0)), (.tok 0)]) (.br (.le (.lit (.i 1048576)) (.len (.fld (.tok 0) 1))) (.leaf [(.lit (.i 0)), (.lit (.i 13)), (.tok 0)]) (.need [(.le (.add (.len (.fld (.tok 0) 1)) (.lit (.i 1))) (.lit (.i 5864062014634)))] (.need [(.rng .i64 (.sub (.len (.fld (.set (.tok 0) 1 (.app (.fld (.tok 0) 1) (.row [(.mk [(.tok 1), (.tok 2)])]))) 1)) (.lit (.i 1))))] (.leaf [(.sub (.len (.fld (.set (.tok 0) 1 (.app (.fld (.tok 0) 1) (.row [(.mk [(.tok 1), (.tok 2)])]))) 1)) (.lit (.i 1))), (.lit (.i 0)), (.set (.tok 0) 1 (.app (.fld (.tok 0) 1) (.row [(.mk [(.tok 1), (.tok 2)])])))])))))))
set_option maxRecDepth 100000 in
theorem code_cells_Symbol (g0 : List D → Option (List D)) : ∀ cd, Try.f16.body = some cd → treeOf Try.prog [(q0k, g0)] ann_cells_Symbol q16 Try.f16 cd = q2p := by
  intro cd h
  injection h with h
  subst h
  kernel_rfl
theorem fok_cells_Symbol {g0 : List D → Option (List D)} {g : List D → Option (List D)} (h0 : FOk q0k g0) (h : ∀ ds outs, WfA q16.ars ds → g ds = some outs → q2p.go (tblS [(q0k, g0)]) (fun o => o = outs) ds fun _ _ => False) : FOk q16 g :=
  q09 ann_cells_Symbol Try.f16 _ (.cons h0 .nil) rfl rfl enter_cells_Symbol (by decide) fun ds outs hw hg => by rw [code_cells_Symbol g0 _ rfl]; exact h ds outs hw hg

def q0v : Ct := ⟨111, [.val (.int .i64)], [(.bool, false)], [], none, []⟩
theorem enter_cmp_isNaN_int64 (args : Array Value) (w : World) : (callFunc q0v.f args).run Try.prog w = .ok (.enter q0v.f args) w := by kernel_rfl
def q4h : Ann := ⟨[0, 2], []⟩
def q2i : Tree := (.leaf [(.not (.eq (.tok 0) (.tok 0)))])
set_option maxRecDepth 100000 in
theorem code_cmp_isNaN_int64 : ∀ cd, Try.f111.body = some cd → treeOf Try.prog [] q4h q0v Try.f111 cd = q2i := by
  intro cd h
  injection h with h
  subst h
  kernel_rfl
theorem q4d {g : List D → Option (List D)}  (h : ∀ ds outs, WfA q0v.ars ds → g ds = some outs → q2i.go (tblS []) (fun o => o = outs) ds fun _ _ => False) : FOk q0v g :=
  q09 q4h Try.f111 _ .nil rfl rfl enter_cmp_isNaN_int64 (by decide) fun ds outs hw hg => by rw [code_cmp_isNaN_int64  _ rfl]; exact h ds outs hw hg

def q0n : Ct := ⟨98, [.val (.int .i64), .val (.int .i64)], [(.int .i64, false)], [], none, []⟩
theorem enter_cmp_Compare_int64 (args : Array Value) (w : World) : (callFunc q0n.f args).run Try.prog w = .ok (.enter q0n.f args) w := by kernel_rfl
def q40 : Ann := ⟨[0, 1, 4, 5, 6, 11, 12, 13, 16, 19], []⟩
def q29 : Tree := (.need [(.ok 0 [(.tok 0)])] (.need [(.ok 0 [(.tok 1)])] (.br (.call 0 0 [(.tok 0)]) (.br (.call 0 0 [(.tok 1)]) (.leaf [(.lit (.i 0))]) (.leaf [(.lit (.i (-1)))])) (.br (.call 0 0 [(.tok 1)]) (.leaf [(.lit (.i 1))]) (.br (.lt (.tok 0) (.tok 1)) (.leaf [(.lit (.i (-1)))]) (.br (.lt (.tok 1) (.tok 0)) (.leaf [(.lit (.i 1))]) (.leaf [(.lit (.i 0))])))))))
set_option maxRecDepth 100000 in
theorem code_cmp_Compare_int64 (g0 : List D → Option (List D)) : ∀ cd, Try.f98.body = some cd → treeOf Try.prog [(q0v, g0)] q40 q0n Try.f98 cd = q29 := by
  intro cd h
  injection h with h
  subst h
  kernel_rfl
theorem q3y {g0 : List D → Option (List D)} {g : List D → Option (List D)} (h0 : FOk q0v g0) (h : ∀ ds outs, WfA q0n.ars ds → g ds = some outs → q29.go (tblS [(q0v, g0)]) (fun o => o = outs) ds fun _ _ => False) : FOk q0n g :=
  q09 q40 Try.f98 _ (.cons h0 .nil) rfl rfl enter_cmp_Compare_int64 (by decide) fun ds outs hw hg => by rw [code_cmp_Compare_int64 g0 _ rfl]; exact h ds outs hw hg

def q1b : Ct := ⟨60, [.val (.st 48), .val (.int .i64)], [(.int .i64, false)], [], none, []⟩
theorem enter_cells_byVar (args : Array Value) (w : World) : (callFunc q1b.f args).run Try.prog w = .ok (.enter q1b.f args) w := by kernel_rfl
def ann_cells_byVar : Ann := ⟨[0, 1, 2, 4], []⟩
def q2z : Tree := (.need [(.ok 0 [(.fld (.tok 0) 0), (.tok 1)])] (.leaf [(.call 0 0 [(.fld (.tok 0) 0), (.tok 1)])]))
set_option maxRecDepth 100000 in
theorem code_cells_byVar (g0 : List D → Option (List D)) : ∀ cd, Try.f60.body = some cd → treeOf Try.prog [(q0n, g0)] ann_cells_byVar q1b Try.f60 cd = q2z := by
  intro cd h
  injection h with h
  subst h
  kernel_rfl
theorem fok_cells_byVar {g0 : List D → Option (List D)} {g : List D → Option (List D)} (h0 : FOk q0n g0) (h : ∀ ds outs, WfA q1b.ars ds → g ds = some outs → q2z.go (tblS [(q0n, g0)]) (fun o => o = outs) ds fun _ _ => False) : FOk q1b g :=
  q09 ann_cells_byVar Try.f60 _ (.cons h0 .nil) rfl rfl enter_cells_byVar (by decide) fun ds outs hw hg => by rw [code_cells_byVar g0 _ rfl]; exact h ds outs hw hg

def q05 : Ct := ⟨59, [.val (.row 49), .val (.int .i64), .fn 60 []], [(.int .i64, false), (.bool, false)], [], none, []⟩
theorem q3b (args : Array Value) (w : World) : (callFunc q05.f args).run Try.prog w = .ok (.enter q05.f args) w := by kernel_rfl
def q2b : Ann := ⟨[0, 1, 2, 6, 7, 8, 9, 10, 11, 17, 31], [(3, ⟨[(9, .int .i64, false), (10, .int .i64, false)], [], [15, 16, 17, 18, 19, 20, 21, 22, 23, 11, 24, 25, 26, 27, 28, 29, 30, 31, 32, 33, 34], []⟩)]⟩
def q18 : Tree := (.loop 3 2 [(.lit (.i 0)), (.len (.tok 0))] (.br (.lt (.tok 2) (.tok 3)) (.need [(.rng .i64 (.add (.tok 2) (.tok 3))), (.rng .u64 (.add (.tok 2) (.tok 3))), (.rng .u64 (.fn 8 [(.add (.tok 2) (.tok 3)), (.lit (.i 1))])), (.rng .i64 (.fn 8 [(.add (.tok 2) (.tok 3)), (.lit (.i 1))]))] (.need [(.le (.lit (.i 0)) (.fn 8 [(.add (.tok 2) (.tok 3)), (.lit (.i 1))])), (.lt (.fn 8 [(.add (.tok 2) (.tok 3)), (.lit (.i 1))]) (.len (.tok 0))), (.ok 0 [(.get (.tok 0) (.fn 8 [(.add (.tok 2) (.tok 3)), (.lit (.i 1))])), (.tok 1)])] (.br (.lt (.call 0 0 [(.get (.tok 0) (.fn 8 [(.add (.tok 2) (.tok 3)), (.lit (.i 1))])), (.tok 1)]) (.lit (.i 0))) (.need [(.rng .i64 (.add (.fn 8 [(.add (.tok 2) (.tok 3)), (.lit (.i 1))]) (.lit (.i 1))))] (.back 3 [(.add (.fn 8 [(.add (.tok 2) (.tok 3)), (.lit (.i 1))]) (.lit (.i 1))), (.tok 3)])) (.back 3 [(.tok 2), (.fn 8 [(.add (.tok 2) (.tok 3)), (.lit (.i 1))])])))) (.need [(.imp (.lt (.tok 2) (.len (.tok 0))) (.le (.lit (.i 0)) (.tok 2))), (.imp (.lt (.tok 2) (.len (.tok 0))) (.lt (.tok 2) (.len (.tok 0)))), (.imp (.lt (.tok 2) (.len (.tok 0))) (.ok 0 [(.get (.tok 0) (.tok 2)), (.tok 1)]))] (.leaf [(.tok 2), (.and (.lt (.tok 2) (.len (.tok 0))) (.eq (.call 0 0 [(.get (.tok 0) (.tok 2)), (.tok 1)]) (.lit (.i 0))))]))))
set_option maxRecDepth 100000 in
theorem q3h (g0 : List D → Option (List D)) : ∀ cd, Try.f59.body = some cd → treeOf Try.prog [(q1b, g0)] q2b q05 Try.f59 cd = q18 := by
  intro cd h
  injection h with h
  subst h
  kernel_rfl
theorem q2c {g0 : List D → Option (List D)} {g : List D → Option (List D)} (h0 : FOk q1b g0) (h : ∀ ds outs, WfA q05.ars ds → g ds = some outs → q18.go (tblS [(q1b, g0)]) (fun o => o = outs) ds fun _ _ => False) : FOk q05 g :=
  q09 q2b Try.f59 _ (.cons h0 .nil) rfl rfl q3b (by decide) fun ds outs hw hg => by rw [q3h g0 _ rfl]; exact h ds outs hw hg

def q1e : Ct := ⟨61, [.val (.st 36)], [(.st 36, false)], [], none, []⟩
theorem enter_cells_kept (args : Array Value) (w : World) : (callFunc q1e.f args).run Try.prog w = .ok (.enter q1e.f args) w := by kernel_rfl
def ann_cells_kept : Ann := ⟨[0, 1, 2, 5], []⟩
def q36 : Tree := (.br (.eq (.fld (.tok 0) 0) (.lit (.i 5))) (.leaf [(.set (.tok 0) 0 (.lit (.i 0)))]) (.leaf [(.tok 0)]))
set_option maxRecDepth 100000 in
theorem code_cells_kept : ∀ cd, Try.f61.body = some cd → treeOf Try.prog [] ann_cells_kept q1e Try.f61 cd = q36 := by
  intro cd h
  injection h with h
  subst h
  kernel_rfl
theorem fok_cells_kept {g : List D → Option (List D)}  (h : ∀ ds outs, WfA q1e.ars ds → g ds = some outs → q36.go (tblS []) (fun o => o = outs) ds fun _ _ => False) : FOk q1e g :=
  q09 ann_cells_kept Try.f61 _ .nil rfl rfl enter_cells_kept (by decide) fun ds outs hw hg => by rw [code_cells_kept  _ rfl]; exact h ds outs hw hg

def q1a : Ct := ⟨19, [.ref (.st 26)], [(.st 36, false), (.int .i64, false)], [], none, []⟩
theorem enter_cells_Fresh (args : Array Value) (w : World) : (callFunc q1a.f args).run Try.prog w = .ok (.enter q1a.f args) w := by kernel_rfl
def ann_cells_Fresh : Ann := ⟨[0, 2, 3, 5, 16], []⟩
def q2s : Tree := (.br (.le (.fld (.tok 0) 5) (.len (.fld (.tok 0) 0))) (.leaf [(.lit (.a [(.i 0), (.i 0)])), (.lit (.i 13)), (.tok 0)]) (.need [(.le (.add (.len (.fld (.tok 0) 0)) (.lit (.i 1))) (.lit (.i 8796093021952)))] (.leaf [(.mk [(.lit (.i 0)), (.len (.fld (.tok 0) 0))]), (.lit (.i 0)), (.set (.tok 0) 0 (.app (.fld (.tok 0) 0) (.row [(.mk [(.lit (.i 0)), (.len (.fld (.tok 0) 0))])])))])))
set_option maxRecDepth 100000 in
theorem code_cells_Fresh : ∀ cd, Try.f19.body = some cd → treeOf Try.prog [] ann_cells_Fresh q1a Try.f19 cd = q2s := by
  intro cd h
  injection h with h
  subst h
  kernel_rfl
theorem fok_cells_Fresh {g : List D → Option (List D)}  (h : ∀ ds outs, WfA q1a.ars ds → g ds = some outs → q2s.go (tblS []) (fun o => o = outs) ds fun _ _ => False) : FOk q1a g :=
  q09 ann_cells_Fresh Try.f19 _ .nil rfl rfl enter_cells_Fresh (by decide) fun ds outs hw hg => by rw [code_cells_Fresh  _ rfl]; exact h ds outs hw hg

def q08 : Ct := ⟨62, [.own (.row 49), .val (.int .i64), .own (.row 49)], [(.row 49, true)], [], none, []⟩
theorem q2q (args : Array Value) (w : World) : (callFunc q08.f args).run Try.prog w = .ok (.enter q08.f args) w := by kernel_rfl
def q2j : Ann := ⟨[0, 1, 2, 6, 7, 8, 9, 16, 22, 31, 68], []⟩
def q1v : Tree := (.need [(.le (.lit (.i 0)) (.tok 1)), (.le (.tok 1) (.len (.tok 0)))] (.br (.eq (.len (.tok 2)) (.lit (.i 0))) (.leaf [(.tok 0)]) (.br (.eq (.tok 1) (.len (.tok 0))) (.need [(.le (.add (.len (.tok 0)) (.len (.tok 2))) (.lit (.i 5864062014634)))] (.leaf [(.app (.tok 0) (.tok 2))])) (.bad 8004))))
set_option maxRecDepth 100000 in
theorem q32 : ∀ cd, Try.f62.body = some cd → treeOf Try.prog [] q2j q08 Try.f62 cd = q1v := by
  intro cd h
  injection h with h
  subst h
  kernel_rfl
theorem q4y {g : List D → Option (List D)}  (h : ∀ ds outs, WfA q08.ars ds → g ds = some outs → q1v.go (tblS []) (fun o => o = outs) ds fun _ _ => False) : FOk q08 g :=
  q09 q2j Try.f62 _ .nil rfl rfl q2q (by decide) fun ds outs hw hg => by rw [q32  _ rfl]; exact h ds outs hw hg

def q0u : Ct := ⟨58, [.val (.st 42), .val (.int .i64), .cell 34 5, .ref (.row 49), .cell 89 6], [(.st 36, false)], [(.cell 2, .ref (.st 26)), (.cell 4, .fn 58 [2, 3, 4])], none, []⟩
theorem q3m (args : Array Value) (w : World) : (callFunc q0u.f args).run Try.prog w = .ok (.enter q0u.f args) w := by kernel_rfl
def ann_cells_Put_1 : Ann := ⟨[0, 1, 2, 3, 4, 5, 7, 8, 10, 11, 12, 13, 15, 16, 17, 18, 19, 21, 22, 27, 38, 47, 57, 110, 111, 112, 113], [(21, ⟨[(112, .int .i64, false)], [3, 100000], [113, 114, 115, 116, 17, 16, 117, 118, 119, 120, 18, 121, 122, 123, 124, 19, 125, 126, 127, 128, 129, 130, 131, 132], []⟩)]⟩
def q1x : Tree := (.br (.eq (.fld (.tok 0) 0) (.lit (.i 1))) (.leaf [(.mk [(.lit (.i 1)), (.fld (.tok 0) 1)]), (.tok 2), (.tok 3)]) (.br (.eq (.fld (.tok 0) 0) (.lit (.i 2))) (.need [(.ok 1 [(.tok 3), (.fld (.tok 0) 2), (.lit (.i 0))])] (.leaf [(.mk [(.lit (.i 2)), (.call 1 0 [(.tok 3), (.fld (.tok 0) 2), (.lit (.i 0))])]), (.tok 2), (.call 1 2 [(.tok 3), (.fld (.tok 0) 2), (.lit (.i 0))])])) (.br (.eq (.fld (.tok 0) 0) (.lit (.i 0))) (.need [(.ok 2 [(.tok 2), (.fld (.tok 0) 1)])] (.br (.call 2 1 [(.tok 2), (.fld (.tok 0) 1)]) (.need [(.le (.lit (.i 0)) (.call 2 0 [(.tok 2), (.fld (.tok 0) 1)])), (.lt (.call 2 0 [(.tok 2), (.fld (.tok 0) 1)]) (.len (.tok 2))), (.ok 3 [(.fld (.get (.tok 2) (.call 2 0 [(.tok 2), (.fld (.tok 0) 1)])) 1)])] (.leaf [(.call 3 0 [(.fld (.get (.tok 2) (.call 2 0 [(.tok 2), (.fld (.tok 0) 1)])) 1)]), (.tok 2), (.tok 3)])) (.br (.lt (.tok 1) (.lit (.i 0))) (.need [(.ok 4 [(.tok 3)])] (.need [(.ok 5 [(.tok 2), (.call 2 0 [(.tok 2), (.fld (.tok 0) 1)]), (.row [(.mk [(.fld (.tok 0) 1), (.call 4 0 [(.tok 3)])])])])] (.leaf [(.call 4 0 [(.tok 3)]), (.call 5 0 [(.tok 2), (.call 2 0 [(.tok 2), (.fld (.tok 0) 1)]), (.row [(.mk [(.fld (.tok 0) 1), (.call 4 0 [(.tok 3)])])])]), (.call 4 2 [(.tok 3)])]))) (.need [(.ok 5 [(.tok 2), (.call 2 0 [(.tok 2), (.fld (.tok 0) 1)]), (.row [(.mk [(.fld (.tok 0) 1), (.mk [(.lit (.i 0)), (.tok 1)])])])])] (.leaf [(.mk [(.lit (.i 0)), (.tok 1)]), (.call 5 0 [(.tok 2), (.call 2 0 [(.tok 2), (.fld (.tok 0) 1)]), (.row [(.mk [(.fld (.tok 0) 1), (.mk [(.lit (.i 0)), (.tok 1)])])])]), (.tok 3)]))))) (.need [(.ok 1 [(.tok 3), (.fld (.tok 0) 2), (.len (.fld (.tok 0) 3))])] (.need [(.le (.add (.len (.fld (.call 1 2 [(.tok 3), (.fld (.tok 0) 2), (.len (.fld (.tok 0) 3))]) 0)) (.lit (.i 1))) (.lit (.i 8796093021952)))] (.need [(.le (.lit (.i 0)) (.len (.fld (.tok 0) 3))), (.le (.len (.fld (.tok 0) 3)) (.lit (.i 16777216))), (.le (.add (.len (.fld (.set (.call 1 2 [(.tok 3), (.fld (.tok 0) 2), (.len (.fld (.tok 0) 3))]) 0 (.app (.fld (.call 1 2 [(.tok 3), (.fld (.tok 0) 2), (.len (.fld (.tok 0) 3))]) 0) (.row [(.mk [(.lit (.i 4)), (.call 1 0 [(.tok 3), (.fld (.tok 0) 2), (.len (.fld (.tok 0) 3))])])]))) 0)) (.len (.fld (.tok 0) 3))) (.lit (.i 8796093021952)))] (.loop 21 4 [(.lit (.i 0)), (.tok 2), (.set (.set (.call 1 2 [(.tok 3), (.fld (.tok 0) 2), (.len (.fld (.tok 0) 3))]) 0 (.app (.fld (.call 1 2 [(.tok 3), (.fld (.tok 0) 2), (.len (.fld (.tok 0) 3))]) 0) (.row [(.mk [(.lit (.i 4)), (.call 1 0 [(.tok 3), (.fld (.tok 0) 2), (.len (.fld (.tok 0) 3))])])]))) 0 (.app (.fld (.set (.call 1 2 [(.tok 3), (.fld (.tok 0) 2), (.len (.fld (.tok 0) 3))]) 0 (.app (.fld (.call 1 2 [(.tok 3), (.fld (.tok 0) 2), (.len (.fld (.tok 0) 3))]) 0) (.row [(.mk [(.lit (.i 4)), (.call 1 0 [(.tok 3), (.fld (.tok 0) 2), (.len (.fld (.tok 0) 3))])])]))) 0) (.rep (.len (.fld (.tok 0) 3)) (.lit (.a [(.i 0), (.i 0)])))))] (.br (.lt (.tok 4) (.len (.fld (.tok 0) 3))) (.need [(.le (.lit (.i 0)) (.tok 4)), (.lt (.tok 4) (.len (.fld (.tok 0) 3)))] (.need [(.rng .i64 (.add (.len (.fld (.call 1 2 [(.tok 3), (.fld (.tok 0) 2), (.len (.fld (.tok 0) 3))]) 0)) (.lit (.i 1)))), (.rng .i64 (.add (.add (.len (.fld (.call 1 2 [(.tok 3), (.fld (.tok 0) 2), (.len (.fld (.tok 0) 3))]) 0)) (.lit (.i 1))) (.tok 4)))] (.need [(.ok 0 [(.get (.fld (.tok 0) 3) (.tok 4)), (.add (.add (.len (.fld (.call 1 2 [(.tok 3), (.fld (.tok 0) 2), (.len (.fld (.tok 0) 3))]) 0)) (.lit (.i 1))) (.tok 4)), (.tok 5), (.tok 6)])] (.need [(.le (.lit (.i 0)) (.add (.add (.len (.fld (.call 1 2 [(.tok 3), (.fld (.tok 0) 2), (.len (.fld (.tok 0) 3))]) 0)) (.lit (.i 1))) (.tok 4))), (.lt (.add (.add (.len (.fld (.call 1 2 [(.tok 3), (.fld (.tok 0) 2), (.len (.fld (.tok 0) 3))]) 0)) (.lit (.i 1))) (.tok 4)) (.len (.fld (.call 0 2 [(.get (.fld (.tok 0) 3) (.tok 4)), (.add (.add (.len (.fld (.call 1 2 [(.tok 3), (.fld (.tok 0) 2), (.len (.fld (.tok 0) 3))]) 0)) (.lit (.i 1))) (.tok 4)), (.tok 5), (.tok 6)]) 0)))] (.need [(.rng .i64 (.add (.tok 4) (.lit (.i 1))))] (.back 21 [(.add (.tok 4) (.lit (.i 1))), (.call 0 1 [(.get (.fld (.tok 0) 3) (.tok 4)), (.add (.add (.len (.fld (.call 1 2 [(.tok 3), (.fld (.tok 0) 2), (.len (.fld (.tok 0) 3))]) 0)) (.lit (.i 1))) (.tok 4)), (.tok 5), (.tok 6)]), (.set (.call 0 2 [(.get (.fld (.tok 0) 3) (.tok 4)), (.add (.add (.len (.fld (.call 1 2 [(.tok 3), (.fld (.tok 0) 2), (.len (.fld (.tok 0) 3))]) 0)) (.lit (.i 1))) (.tok 4)), (.tok 5), (.tok 6)]) 0 (.put (.fld (.call 0 2 [(.get (.fld (.tok 0) 3) (.tok 4)), (.add (.add (.len (.fld (.call 1 2 [(.tok 3), (.fld (.tok 0) 2), (.len (.fld (.tok 0) 3))]) 0)) (.lit (.i 1))) (.tok 4)), (.tok 5), (.tok 6)]) 0) (.add (.add (.len (.fld (.call 1 2 [(.tok 3), (.fld (.tok 0) 2), (.len (.fld (.tok 0) 3))]) 0)) (.lit (.i 1))) (.tok 4)) (.call 0 0 [(.get (.fld (.tok 0) 3) (.tok 4)), (.add (.add (.len (.fld (.call 1 2 [(.tok 3), (.fld (.tok 0) 2), (.len (.fld (.tok 0) 3))]) 0)) (.lit (.i 1))) (.tok 4)), (.tok 5), (.tok 6)])))])))))) (.leaf [(.mk [(.lit (.i 3)), (.len (.fld (.call 1 2 [(.tok 3), (.fld (.tok 0) 2), (.len (.fld (.tok 0) 3))]) 0))]), (.tok 5), (.tok 6)])))))))))
set_option maxRecDepth 100000 in
theorem code_cells_Put_1 (g0 g1 g2 g3 g4 g5 : List D → Option (List D)) : ∀ cd, Try.f58.body = some cd → treeOf Try.prog [(q0u, g0), (q16, g1), (q05, g2), (q1e, g3), (q1a, g4), (q08, g5)] ann_cells_Put_1 q0u Try.f58 cd = q1x := by
  intro cd h
  injection h with h
  subst h
  kernel_rfl
theorem fok_cells_Put_1 {g0 g1 g2 g3 g4 g5 : List D → Option (List D)} {g : List D → Option (List D)} (h0 : FOk q0u g0) (h1 : FOk q16 g1) (h2 : FOk q05 g2) (h3 : FOk q1e g3) (h4 : FOk q1a g4) (h5 : FOk q08 g5) (h : ∀ ds outs, WfA q0u.ars ds → g ds = some outs → q1x.go (tblS [(q0u, g0), (q16, g1), (q05, g2), (q1e, g3), (q1a, g4), (q08, g5)]) (fun o => o = outs) ds fun _ _ => False) : FOk q0u g :=
  q09 ann_cells_Put_1 Try.f58 _ (.cons h0 (.cons h1 (.cons h2 (.cons h3 (.cons h4 (.cons h5 .nil)))))) rfl rfl q3m (by decide) fun ds outs hw hg => by rw [code_cells_Put_1 g0 g1 g2 g3 g4 g5 _ rfl]; exact h ds outs hw hg

def q0r : Ct := ⟨110, [.val (.st 42), .ref (.int .i64), .cell 116 3], [], [(.cell 2, .fn 110 [1, 2])], none, []⟩
theorem q3p (args : Array Value) (w : World) : (callFunc q0r.f args).run Try.prog w = .ok (.enter q0r.f args) w := by kernel_rfl
def ann_term_Size_1 : Ann := ⟨[0, 1, 2, 3, 4, 15], [(3, ⟨[(4, .int .i64, false)], [1], [7, 8, 9, 10, 11, 12, 13, 14, 15, 18, 19, 20, 21, 22, 23, 24, 16, 17], []⟩)]⟩
def q30 : Tree := (.need [(.rng .i64 (.sub (.tok 1) (.lit (.i 1))))] (.loop 3 2 [(.lit (.i 0)), (.sub (.tok 1) (.lit (.i 1)))] (.br (.and (.lt (.tok 2) (.len (.fld (.tok 0) 3))) (.lt (.lit (.i 0)) (.tok 3))) (.need [(.ok 0 [(.get (.fld (.tok 0) 3) (.tok 2)), (.tok 3)]), (.le (.lit (.i 0)) (.tok 2)), (.lt (.tok 2) (.len (.fld (.tok 0) 3)))] (.need [(.rng .i64 (.add (.tok 2) (.lit (.i 1))))] (.back 3 [(.add (.tok 2) (.lit (.i 1))), (.call 0 0 [(.get (.fld (.tok 0) 3) (.tok 2)), (.tok 3)])]))) (.leaf [(.tok 3)]))))
set_option maxRecDepth 100000 in
theorem code_term_Size_1 (g0 : List D → Option (List D)) : ∀ cd, Try.f110.body = some cd → treeOf Try.prog [(q0r, g0)] ann_term_Size_1 q0r Try.f110 cd = q30 := by
  intro cd h
  injection h with h
  subst h
  kernel_rfl
theorem fok_term_Size_1 {g0 : List D → Option (List D)} {g : List D → Option (List D)} (h0 : FOk q0r g0) (h : ∀ ds outs, WfA q0r.ars ds → g ds = some outs → q30.go (tblS [(q0r, g0)]) (fun o => o = outs) ds fun _ _ => False) : FOk q0r g :=
  q09 ann_term_Size_1 Try.f110 _ (.cons h0 .nil) rfl rfl q3p (by decide) fun ds outs hw hg => by rw [code_term_Size_1 g0 _ rfl]; exact h ds outs hw hg

def q1j : Ct := ⟨95, [.val (.st 42)], [(.int .i64, false)], [], none, []⟩
theorem enter_term_Size (args : Array Value) (w : World) : (callFunc q1j.f args).run Try.prog w = .ok (.enter q1j.f args) w := by kernel_rfl
def ann_term_Size : Ann := ⟨[0, 1, 2, 3, 4], []⟩
def q3j : Tree := (.need [(.ok 0 [(.tok 0), (.lit (.i 2001))])] (.need [(.rng .i64 (.sub (.lit (.i 2001)) (.call 0 0 [(.tok 0), (.lit (.i 2001))])))] (.leaf [(.sub (.lit (.i 2001)) (.call 0 0 [(.tok 0), (.lit (.i 2001))]))])))
set_option maxRecDepth 100000 in
theorem code_term_Size (g0 : List D → Option (List D)) : ∀ cd, Try.f95.body = some cd → treeOf Try.prog [(q0r, g0)] ann_term_Size q1j Try.f95 cd = q3j := by
  intro cd h
  injection h with h
  subst h
  kernel_rfl
theorem fok_term_Size {g0 : List D → Option (List D)} {g : List D → Option (List D)} (h0 : FOk q0r g0) (h : ∀ ds outs, WfA q1j.ars ds → g ds = some outs → q3j.go (tblS [(q0r, g0)]) (fun o => o = outs) ds fun _ _ => False) : FOk q1j g :=
  q09 ann_term_Size Try.f95 _ (.cons h0 .nil) rfl rfl enter_term_Size (by decide) fun ds outs hw hg => by rw [code_term_Size g0 _ rfl]; exact h ds outs hw hg

def q0p : Ct := ⟨96, [.val (.st 42)], [(.bool, false)], [], none, []⟩
theorem q45 (args : Array Value) (w : World) : (callFunc q0p.f args).run Try.prog w = .ok (.enter q0p.f args) w := by kernel_rfl
def ann_term_fits : Ann := ⟨[0, 1, 2, 3, 4, 6, 7, 28, 39, 56, 86], [(12, ⟨[(3, .bool, false), (4, .int .i64, false)], [], [79, 80, 81, 82, 83, 84, 85, 86, 89, 90, 91, 92, 93, 94, 87, 88], []⟩)]⟩
def q3k : Tree := (.br (.eq (.fld (.tok 0) 0) (.lit (.i 0))) (.loop 12 1 [(.and (.and (.and (.le (.lit (.i 0)) (.fld (.tok 0) 1)) (.le (.fld (.tok 0) 1) (.lit (.i 1099511627776)))) (.eq (.fld (.tok 0) 2) (.lit (.s ⟨#[]⟩)))) (.eq (.len (.fld (.tok 0) 3)) (.lit (.i 0)))), (.lit (.i 0))] (.br (.and (.lt (.tok 2) (.len (.fld (.tok 0) 3))) (.tok 1)) (.need [(.le (.lit (.i 0)) (.tok 2)), (.lt (.tok 2) (.len (.fld (.tok 0) 3))), (.ok 0 [(.get (.fld (.tok 0) 3) (.tok 2))])] (.need [(.rng .i64 (.add (.tok 2) (.lit (.i 1))))] (.back 12 [(.call 0 0 [(.get (.fld (.tok 0) 3) (.tok 2))]), (.add (.tok 2) (.lit (.i 1)))]))) (.leaf [(.tok 1)]))) (.br (.eq (.fld (.tok 0) 0) (.lit (.i 1))) (.loop 12 1 [(.and (.eq (.fld (.tok 0) 2) (.lit (.s ⟨#[]⟩))) (.eq (.len (.fld (.tok 0) 3)) (.lit (.i 0)))), (.lit (.i 0))] (.br (.and (.lt (.tok 2) (.len (.fld (.tok 0) 3))) (.tok 1)) (.need [(.le (.lit (.i 0)) (.tok 2)), (.lt (.tok 2) (.len (.fld (.tok 0) 3))), (.ok 0 [(.get (.fld (.tok 0) 3) (.tok 2))])] (.need [(.rng .i64 (.add (.tok 2) (.lit (.i 1))))] (.back 12 [(.call 0 0 [(.get (.fld (.tok 0) 3) (.tok 2))]), (.add (.tok 2) (.lit (.i 1)))]))) (.leaf [(.tok 1)]))) (.br (.eq (.fld (.tok 0) 0) (.lit (.i 2))) (.loop 12 1 [(.and (.and (.eq (.fld (.tok 0) 1) (.lit (.i 0))) (.le (.slen (.fld (.tok 0) 2)) (.lit (.i 100)))) (.eq (.len (.fld (.tok 0) 3)) (.lit (.i 0)))), (.lit (.i 0))] (.br (.and (.lt (.tok 2) (.len (.fld (.tok 0) 3))) (.tok 1)) (.need [(.le (.lit (.i 0)) (.tok 2)), (.lt (.tok 2) (.len (.fld (.tok 0) 3))), (.ok 0 [(.get (.fld (.tok 0) 3) (.tok 2))])] (.need [(.rng .i64 (.add (.tok 2) (.lit (.i 1))))] (.back 12 [(.call 0 0 [(.get (.fld (.tok 0) 3) (.tok 2))]), (.add (.tok 2) (.lit (.i 1)))]))) (.leaf [(.tok 1)]))) (.br (.eq (.fld (.tok 0) 0) (.lit (.i 3))) (.loop 12 1 [(.and (.and (.and (.eq (.fld (.tok 0) 1) (.lit (.i 0))) (.le (.slen (.fld (.tok 0) 2)) (.lit (.i 100)))) (.lt (.lit (.i 0)) (.len (.fld (.tok 0) 3)))) (.le (.len (.fld (.tok 0) 3)) (.lit (.i 8)))), (.lit (.i 0))] (.br (.and (.lt (.tok 2) (.len (.fld (.tok 0) 3))) (.tok 1)) (.need [(.le (.lit (.i 0)) (.tok 2)), (.lt (.tok 2) (.len (.fld (.tok 0) 3))), (.ok 0 [(.get (.fld (.tok 0) 3) (.tok 2))])] (.need [(.rng .i64 (.add (.tok 2) (.lit (.i 1))))] (.back 12 [(.call 0 0 [(.get (.fld (.tok 0) 3) (.tok 2))]), (.add (.tok 2) (.lit (.i 1)))]))) (.leaf [(.tok 1)]))) (.loop 12 1 [(.lit (.b .false)), (.lit (.i 0))] (.br (.and (.lt (.tok 2) (.len (.fld (.tok 0) 3))) (.tok 1)) (.need [(.le (.lit (.i 0)) (.tok 2)), (.lt (.tok 2) (.len (.fld (.tok 0) 3))), (.ok 0 [(.get (.fld (.tok 0) 3) (.tok 2))])] (.need [(.rng .i64 (.add (.tok 2) (.lit (.i 1))))] (.back 12 [(.call 0 0 [(.get (.fld (.tok 0) 3) (.tok 2))]), (.add (.tok 2) (.lit (.i 1)))]))) (.leaf [(.tok 1)])))))))
set_option maxRecDepth 100000 in
theorem code_term_fits (g0 : List D → Option (List D)) : ∀ cd, Try.f96.body = some cd → treeOf Try.prog [(q0p, g0)] ann_term_fits q0p Try.f96 cd = q3k := by
  intro cd h
  injection h with h
  subst h
  kernel_rfl
theorem fok_term_fits {g0 : List D → Option (List D)} {g : List D → Option (List D)} (h0 : FOk q0p g0) (h : ∀ ds outs, WfA q0p.ars ds → g ds = some outs → q3k.go (tblS [(q0p, g0)]) (fun o => o = outs) ds fun _ _ => False) : FOk q0p g :=
  q09 ann_term_fits Try.f96 _ (.cons h0 .nil) rfl rfl q45 (by decide) fun ds outs hw hg => by rw [code_term_fits g0 _ rfl]; exact h ds outs hw hg

def q0z : Ct := ⟨54, [.val (.st 42)], [(.bool, false)], [], none, []⟩
theorem enter_term_Valid (args : Array Value) (w : World) : (callFunc q0z.f args).run Try.prog w = .ok (.enter q0z.f args) w := by kernel_rfl
def ann_term_Valid : Ann := ⟨[0, 1, 2], []⟩
def q35 : Tree := (.need [(.ok 0 [(.tok 0)]), (.imp (.le (.call 0 0 [(.tok 0)]) (.lit (.i 2000))) (.ok 1 [(.tok 0)]))] (.leaf [(.and (.le (.call 0 0 [(.tok 0)]) (.lit (.i 2000))) (.call 1 0 [(.tok 0)]))]))
set_option maxRecDepth 100000 in
theorem code_term_Valid (g0 g1 : List D → Option (List D)) : ∀ cd, Try.f54.body = some cd → treeOf Try.prog [(q1j, g0), (q0p, g1)] ann_term_Valid q0z Try.f54 cd = q35 := by
  intro cd h
  injection h with h
  subst h
  kernel_rfl
theorem fok_term_Valid {g0 g1 : List D → Option (List D)} {g : List D → Option (List D)} (h0 : FOk q1j g0) (h1 : FOk q0p g1) (h : ∀ ds outs, WfA q0z.ars ds → g ds = some outs → q35.go (tblS [(q1j, g0), (q0p, g1)]) (fun o => o = outs) ds fun _ _ => False) : FOk q0z g :=
  q09 ann_term_Valid Try.f54 _ (.cons h0 (.cons h1 .nil)) rfl rfl enter_term_Valid (by decide) fun ds outs hw hg => by rw [code_term_Valid g0 g1 _ rfl]; exact h ds outs hw hg

def q0q : Ct := ⟨67, [.val (.st 26), .val (.int .i64)], [(.int .i64, false)], [], none, []⟩
theorem enter_cells_arity (args : Array Value) (w : World) : (callFunc q0q.f args).run Try.prog w = .ok (.enter q0q.f args) w := by kernel_rfl
def ann_cells_arity : Ann := ⟨[0, 1, 2, 4, 13], []⟩
def q2w : Tree := (.br (.or (.lt (.tok 1) (.lit (.i 0))) (.le (.len (.fld (.tok 0) 1)) (.tok 1))) (.leaf [(.lit (.i (-1)))]) (.need [(.le (.lit (.i 0)) (.tok 1)), (.lt (.tok 1) (.len (.fld (.tok 0) 1)))] (.leaf [(.fld (.get (.fld (.tok 0) 1) (.tok 1)) 1)])))
set_option maxRecDepth 100000 in
theorem code_cells_arity : ∀ cd, Try.f67.body = some cd → treeOf Try.prog [] ann_cells_arity q0q Try.f67 cd = q2w := by
  intro cd h
  injection h with h
  subst h
  kernel_rfl
theorem fok_cells_arity {g : List D → Option (List D)}  (h : ∀ ds outs, WfA q0q.ars ds → g ds = some outs → q2w.go (tblS []) (fun o => o = outs) ds fun _ _ => False) : FOk q0q g :=
  q09 ann_cells_arity Try.f67 _ .nil rfl rfl enter_cells_arity (by decide) fun ds outs hw hg => by rw [code_cells_arity  _ rfl]; exact h ds outs hw hg

def q0o : Ct := ⟨69, [.val (.st 26), .val (.int .i64)], [(.int .i64, false)], [], none, []⟩
theorem enter_cells_tag (args : Array Value) (w : World) : (callFunc q0o.f args).run Try.prog w = .ok (.enter q0o.f args) w := by kernel_rfl
def ann_cells_tag : Ann := ⟨[0, 1, 2, 4, 13], []⟩
def q3l : Tree := (.br (.or (.lt (.tok 1) (.lit (.i 0))) (.le (.len (.fld (.tok 0) 0)) (.tok 1))) (.leaf [(.lit (.i (-1)))]) (.need [(.le (.lit (.i 0)) (.tok 1)), (.lt (.tok 1) (.len (.fld (.tok 0) 0)))] (.leaf [(.fld (.get (.fld (.tok 0) 0) (.tok 1)) 0)])))
set_option maxRecDepth 100000 in
theorem code_cells_tag : ∀ cd, Try.f69.body = some cd → treeOf Try.prog [] ann_cells_tag q0o Try.f69 cd = q3l := by
  intro cd h
  injection h with h
  subst h
  kernel_rfl
theorem fok_cells_tag {g : List D → Option (List D)}  (h : ∀ ds outs, WfA q0o.ars ds → g ds = some outs → q3l.go (tblS []) (fun o => o = outs) ds fun _ _ => False) : FOk q0o g :=
  q09 ann_cells_tag Try.f69 _ .nil rfl rfl enter_cells_tag (by decide) fun ds outs hw hg => by rw [code_cells_tag  _ rfl]; exact h ds outs hw hg

def q0c : Ct := ⟨38, [.val (.st 26), .val (.st 36)], [(.bool, false)], [], none, []⟩
theorem enter_cells_ValidCell (args : Array Value) (w : World) : (callFunc q0c.f args).run Try.prog w = .ok (.enter q0c.f args) w := by kernel_rfl
def q4c : Ann := ⟨[0, 1, 2, 3, 4, 5, 7, 8, 10, 17, 29, 36], []⟩
def q2l : Tree := (.br (.eq (.fld (.tok 1) 0) (.lit (.i 1))) (.leaf [(.lit (.b .true))]) (.br (.eq (.fld (.tok 1) 0) (.lit (.i 2))) (.need [(.ok 0 [(.tok 0), (.fld (.tok 1) 1)])] (.leaf [(.eq (.call 0 0 [(.tok 0), (.fld (.tok 1) 1)]) (.lit (.i 0)))])) (.br (.eq (.fld (.tok 1) 0) (.lit (.i 0))) (.need [(.ok 1 [(.tok 0), (.fld (.tok 1) 1)])] (.leaf [(.and (.le (.lit (.i 0)) (.call 1 0 [(.tok 0), (.fld (.tok 1) 1)])) (.not (.eq (.call 1 0 [(.tok 0), (.fld (.tok 1) 1)]) (.lit (.i 4)))))])) (.br (.eq (.fld (.tok 1) 0) (.lit (.i 3))) (.need [(.ok 1 [(.tok 0), (.fld (.tok 1) 1)])] (.leaf [(.eq (.call 1 0 [(.tok 0), (.fld (.tok 1) 1)]) (.lit (.i 4)))])) (.br (.eq (.fld (.tok 1) 0) (.lit (.i 5))) (.need [(.ok 1 [(.tok 0), (.fld (.tok 1) 1)])] (.leaf [(.eq (.call 1 0 [(.tok 0), (.fld (.tok 1) 1)]) (.lit (.i 5)))])) (.leaf [(.lit (.b .false))]))))))
set_option maxRecDepth 100000 in
theorem code_cells_ValidCell (g0 g1 : List D → Option (List D)) : ∀ cd, Try.f38.body = some cd → treeOf Try.prog [(q0q, g0), (q0o, g1)] q4c q0c Try.f38 cd = q2l := by
  intro cd h
  injection h with h
  subst h
  kernel_rfl
theorem q4e {g0 g1 : List D → Option (List D)} {g : List D → Option (List D)} (h0 : FOk q0q g0) (h1 : FOk q0o g1) (h : ∀ ds outs, WfA q0c.ars ds → g ds = some outs → q2l.go (tblS [(q0q, g0), (q0o, g1)]) (fun o => o = outs) ds fun _ _ => False) : FOk q0c g :=
  q09 q4c Try.f38 _ (.cons h0 (.cons h1 .nil)) rfl rfl enter_cells_ValidCell (by decide) fun ds outs hw hg => by rw [code_cells_ValidCell g0 g1 _ rfl]; exact h ds outs hw hg

def q0w : Ct := ⟨55, [.val (.st 26), .val (.row 49)], [(.bool, false)], [], none, []⟩
theorem enter_cells_validVars (args : Array Value) (w : World) : (callFunc q0w.f args).run Try.prog w = .ok (.enter q0w.f args) w := by kernel_rfl
def q4j : Ann := ⟨[0, 1, 2, 4, 5, 6, 7, 8, 9, 10, 43], [(2, ⟨[(4, .bool, false), (9, .int .i64, false)], [], [10, 11, 12, 13, 6, 5, 14, 15, 16, 17, 18, 19, 20, 21, 22, 23, 24, 25, 26, 27, 28, 29, 30, 31, 32, 33, 34, 35, 36, 37, 38, 39, 40, 41, 42, 43, 44], []⟩)]⟩
def q2e : Tree := (.loop 2 2 [(.lit (.b .false)), (.lit (.i 0))] (.br (.lt (.tok 3) (.len (.tok 1))) (.need [(.le (.lit (.i 0)) (.tok 3)), (.lt (.tok 3) (.len (.tok 1)))] (.need [(.imp (.not (.or (.or (.lt (.fld (.get (.tok 1) (.tok 3)) 0) (.lit (.i 0))) (.lt (.lit (.i 1099511627776)) (.fld (.get (.tok 1) (.tok 3)) 0))) (.and (.lt (.lit (.i 0)) (.tok 3)) (.le (.fld (.get (.tok 1) (.tok 3)) 0) (.fld (.get (.tok 1) (.sub (.tok 3) (.lit (.i 1)))) 0))))) (.ok 0 [(.tok 0), (.fld (.get (.tok 1) (.tok 3)) 1)])), (.imp (.and (.not (.or (.lt (.fld (.get (.tok 1) (.tok 3)) 0) (.lit (.i 0))) (.lt (.lit (.i 1099511627776)) (.fld (.get (.tok 1) (.tok 3)) 0)))) (.lt (.lit (.i 0)) (.tok 3))) (.le (.lit (.i 0)) (.sub (.tok 3) (.lit (.i 1))))), (.imp (.and (.not (.or (.lt (.fld (.get (.tok 1) (.tok 3)) 0) (.lit (.i 0))) (.lt (.lit (.i 1099511627776)) (.fld (.get (.tok 1) (.tok 3)) 0)))) (.lt (.lit (.i 0)) (.tok 3))) (.lt (.sub (.tok 3) (.lit (.i 1))) (.len (.tok 1)))), (.imp (.and (.not (.or (.lt (.fld (.get (.tok 1) (.tok 3)) 0) (.lit (.i 0))) (.lt (.lit (.i 1099511627776)) (.fld (.get (.tok 1) (.tok 3)) 0)))) (.lt (.lit (.i 0)) (.tok 3))) (.le (.lit (.i 0)) (.sub (.tok 3) (.lit (.i 1))))), (.imp (.and (.not (.or (.lt (.fld (.get (.tok 1) (.tok 3)) 0) (.lit (.i 0))) (.lt (.lit (.i 1099511627776)) (.fld (.get (.tok 1) (.tok 3)) 0)))) (.lt (.lit (.i 0)) (.tok 3))) (.lt (.sub (.tok 3) (.lit (.i 1))) (.len (.tok 1)))), (.imp (.and (.not (.or (.lt (.fld (.get (.tok 1) (.tok 3)) 0) (.lit (.i 0))) (.lt (.lit (.i 1099511627776)) (.fld (.get (.tok 1) (.tok 3)) 0)))) (.lt (.lit (.i 0)) (.tok 3))) (.rng .i64 (.sub (.tok 3) (.lit (.i 1))))), (.imp (.and (.not (.or (.lt (.fld (.get (.tok 1) (.tok 3)) 0) (.lit (.i 0))) (.lt (.lit (.i 1099511627776)) (.fld (.get (.tok 1) (.tok 3)) 0)))) (.lt (.lit (.i 0)) (.tok 3))) (.rng .i64 (.sub (.tok 3) (.lit (.i 1))))), (.imp (.and (.not (.or (.lt (.fld (.get (.tok 1) (.tok 3)) 0) (.lit (.i 0))) (.lt (.lit (.i 1099511627776)) (.fld (.get (.tok 1) (.tok 3)) 0)))) (.lt (.lit (.i 0)) (.tok 3))) (.rng .i64 (.sub (.tok 3) (.lit (.i 1)))))] (.br (.or (.or (.or (.lt (.fld (.get (.tok 1) (.tok 3)) 0) (.lit (.i 0))) (.lt (.lit (.i 1099511627776)) (.fld (.get (.tok 1) (.tok 3)) 0))) (.and (.lt (.lit (.i 0)) (.tok 3)) (.le (.fld (.get (.tok 1) (.tok 3)) 0) (.fld (.get (.tok 1) (.sub (.tok 3) (.lit (.i 1)))) 0)))) (.not (.call 0 0 [(.tok 0), (.fld (.get (.tok 1) (.tok 3)) 1)]))) (.leaf [(.lit (.b .false))]) (.need [(.rng .i64 (.add (.tok 3) (.lit (.i 1))))] (.back 2 [(.tok 2), (.add (.tok 3) (.lit (.i 1)))]))))) (.leaf [(.lit (.b .true))])))
set_option maxRecDepth 100000 in
theorem code_cells_validVars (g0 : List D → Option (List D)) : ∀ cd, Try.f55.body = some cd → treeOf Try.prog [(q0c, g0)] q4j q0w Try.f55 cd = q2e := by
  intro cd h
  injection h with h
  subst h
  kernel_rfl
theorem q4i {g0 : List D → Option (List D)} {g : List D → Option (List D)} (h0 : FOk q0c g0) (h : ∀ ds outs, WfA q0w.ars ds → g ds = some outs → q2e.go (tblS [(q0c, g0)]) (fun o => o = outs) ds fun _ _ => False) : FOk q0w g :=
  q09 q4j Try.f55 _ (.cons h0 .nil) rfl rfl enter_cells_validVars (by decide) fun ds outs hw hg => by rw [code_cells_validVars g0 _ rfl]; exact h ds outs hw hg

def q0d : Ct := ⟨97, [.val (.st 42), .ref (.map 72 4), .cell 34 5, .ref (.int .i64), .cell 116 6], [], [(.cell 2, .rref (.st 26)), (.cell 4, .fn 97 [1, 2, 3, 4])], none, []⟩
theorem q3d (args : Array Value) (w : World) : (callFunc q0d.f args).run Try.prog w = .ok (.enter q0d.f args) w := by kernel_rfl
def ann_cells_room_1 : Ann := ⟨[0, 1, 2, 3, 4, 5, 6, 8, 16, 32, 37, 45, 46, 47, 48], [(8, ⟨[(47, .int .i64, false)], [1, 3], [48, 49, 50, 8, 51, 52, 53, 54], []⟩)]⟩
def q2o : Tree := (.br (.or (.eq (.fld (.tok 0) 0) (.lit (.i 2))) (.eq (.fld (.tok 0) 0) (.lit (.i 3)))) (.need [(.imp (.not (.fn 0 [(.tok 1), (.mk [(.fld (.tok 0) 2), (.len (.fld (.tok 0) 3))]), (.lit (.b .false))])) (.ok 1 [(.tok 3), (.mk [(.fld (.tok 0) 2), (.len (.fld (.tok 0) 3))])]))] (.br (.and (.not (.fn 0 [(.tok 1), (.mk [(.fld (.tok 0) 2), (.len (.fld (.tok 0) 3))]), (.lit (.b .false))])) (.lt (.call 1 0 [(.tok 3), (.mk [(.fld (.tok 0) 2), (.len (.fld (.tok 0) 3))])]) (.lit (.i 0)))) (.br (.eq (.fld (.tok 0) 0) (.lit (.i 3))) (.need [(.rng .i64 (.add (.len (.fld (.tok 0) 3)) (.lit (.i 1)))), (.rng .i64 (.add (.tok 2) (.add (.len (.fld (.tok 0) 3)) (.lit (.i 1)))))] (.loop 8 4 [(.lit (.i 0)), (.fn 2 [(.tok 1), (.mk [(.fld (.tok 0) 2), (.len (.fld (.tok 0) 3))]), (.lit (.b .true))]), (.add (.tok 2) (.add (.len (.fld (.tok 0) 3)) (.lit (.i 1))))] (.br (.lt (.tok 4) (.len (.fld (.tok 0) 3))) (.need [(.le (.lit (.i 0)) (.tok 4)), (.lt (.tok 4) (.len (.fld (.tok 0) 3)))] (.need [(.ok 0 [(.get (.fld (.tok 0) 3) (.tok 4)), (.tok 5), (.tok 6), (.tok 3)])] (.need [(.rng .i64 (.add (.tok 4) (.lit (.i 1))))] (.back 8 [(.add (.tok 4) (.lit (.i 1))), (.call 0 0 [(.get (.fld (.tok 0) 3) (.tok 4)), (.tok 5), (.tok 6), (.tok 3)]), (.call 0 1 [(.get (.fld (.tok 0) 3) (.tok 4)), (.tok 5), (.tok 6), (.tok 3)])])))) (.leaf [(.tok 5), (.tok 6)])))) (.loop 8 4 [(.lit (.i 0)), (.fn 2 [(.tok 1), (.mk [(.fld (.tok 0) 2), (.len (.fld (.tok 0) 3))]), (.lit (.b .true))]), (.tok 2)] (.br (.lt (.tok 4) (.len (.fld (.tok 0) 3))) (.need [(.le (.lit (.i 0)) (.tok 4)), (.lt (.tok 4) (.len (.fld (.tok 0) 3)))] (.need [(.ok 0 [(.get (.fld (.tok 0) 3) (.tok 4)), (.tok 5), (.tok 6), (.tok 3)])] (.need [(.rng .i64 (.add (.tok 4) (.lit (.i 1))))] (.back 8 [(.add (.tok 4) (.lit (.i 1))), (.call 0 0 [(.get (.fld (.tok 0) 3) (.tok 4)), (.tok 5), (.tok 6), (.tok 3)]), (.call 0 1 [(.get (.fld (.tok 0) 3) (.tok 4)), (.tok 5), (.tok 6), (.tok 3)])])))) (.leaf [(.tok 5), (.tok 6)])))) (.br (.eq (.fld (.tok 0) 0) (.lit (.i 3))) (.need [(.rng .i64 (.add (.len (.fld (.tok 0) 3)) (.lit (.i 1)))), (.rng .i64 (.add (.tok 2) (.add (.len (.fld (.tok 0) 3)) (.lit (.i 1)))))] (.loop 8 4 [(.lit (.i 0)), (.tok 1), (.add (.tok 2) (.add (.len (.fld (.tok 0) 3)) (.lit (.i 1))))] (.br (.lt (.tok 4) (.len (.fld (.tok 0) 3))) (.need [(.le (.lit (.i 0)) (.tok 4)), (.lt (.tok 4) (.len (.fld (.tok 0) 3)))] (.need [(.ok 0 [(.get (.fld (.tok 0) 3) (.tok 4)), (.tok 5), (.tok 6), (.tok 3)])] (.need [(.rng .i64 (.add (.tok 4) (.lit (.i 1))))] (.back 8 [(.add (.tok 4) (.lit (.i 1))), (.call 0 0 [(.get (.fld (.tok 0) 3) (.tok 4)), (.tok 5), (.tok 6), (.tok 3)]), (.call 0 1 [(.get (.fld (.tok 0) 3) (.tok 4)), (.tok 5), (.tok 6), (.tok 3)])])))) (.leaf [(.tok 5), (.tok 6)])))) (.loop 8 4 [(.lit (.i 0)), (.tok 1), (.tok 2)] (.br (.lt (.tok 4) (.len (.fld (.tok 0) 3))) (.need [(.le (.lit (.i 0)) (.tok 4)), (.lt (.tok 4) (.len (.fld (.tok 0) 3)))] (.need [(.ok 0 [(.get (.fld (.tok 0) 3) (.tok 4)), (.tok 5), (.tok 6), (.tok 3)])] (.need [(.rng .i64 (.add (.tok 4) (.lit (.i 1))))] (.back 8 [(.add (.tok 4) (.lit (.i 1))), (.call 0 0 [(.get (.fld (.tok 0) 3) (.tok 4)), (.tok 5), (.tok 6), (.tok 3)]), (.call 0 1 [(.get (.fld (.tok 0) 3) (.tok 4)), (.tok 5), (.tok 6), (.tok 3)])])))) (.leaf [(.tok 5), (.tok 6)])))))) (.br (.eq (.fld (.tok 0) 0) (.lit (.i 3))) (.need [(.rng .i64 (.add (.len (.fld (.tok 0) 3)) (.lit (.i 1)))), (.rng .i64 (.add (.tok 2) (.add (.len (.fld (.tok 0) 3)) (.lit (.i 1)))))] (.loop 8 4 [(.lit (.i 0)), (.tok 1), (.add (.tok 2) (.add (.len (.fld (.tok 0) 3)) (.lit (.i 1))))] (.br (.lt (.tok 4) (.len (.fld (.tok 0) 3))) (.need [(.le (.lit (.i 0)) (.tok 4)), (.lt (.tok 4) (.len (.fld (.tok 0) 3)))] (.need [(.ok 0 [(.get (.fld (.tok 0) 3) (.tok 4)), (.tok 5), (.tok 6), (.tok 3)])] (.need [(.rng .i64 (.add (.tok 4) (.lit (.i 1))))] (.back 8 [(.add (.tok 4) (.lit (.i 1))), (.call 0 0 [(.get (.fld (.tok 0) 3) (.tok 4)), (.tok 5), (.tok 6), (.tok 3)]), (.call 0 1 [(.get (.fld (.tok 0) 3) (.tok 4)), (.tok 5), (.tok 6), (.tok 3)])])))) (.leaf [(.tok 5), (.tok 6)])))) (.loop 8 4 [(.lit (.i 0)), (.tok 1), (.tok 2)] (.br (.lt (.tok 4) (.len (.fld (.tok 0) 3))) (.need [(.le (.lit (.i 0)) (.tok 4)), (.lt (.tok 4) (.len (.fld (.tok 0) 3)))] (.need [(.ok 0 [(.get (.fld (.tok 0) 3) (.tok 4)), (.tok 5), (.tok 6), (.tok 3)])] (.need [(.rng .i64 (.add (.tok 4) (.lit (.i 1))))] (.back 8 [(.add (.tok 4) (.lit (.i 1))), (.call 0 0 [(.get (.fld (.tok 0) 3) (.tok 4)), (.tok 5), (.tok 6), (.tok 3)]), (.call 0 1 [(.get (.fld (.tok 0) 3) (.tok 4)), (.tok 5), (.tok 6), (.tok 3)])])))) (.leaf [(.tok 5), (.tok 6)])))))
set_option maxRecDepth 100000 in
theorem code_cells_room_1 (g0 g1 : List D → Option (List D)) : ∀ cd, Try.f97.body = some cd → treeOf Try.prog [(q0d, g0), (q0k, g1)] ann_cells_room_1 q0d Try.f97 cd = q2o := by
  intro cd h
  injection h with h
  subst h
  kernel_rfl
theorem fok_cells_room_1 {g0 g1 : List D → Option (List D)} {g : List D → Option (List D)} (h0 : FOk q0d g0) (h1 : FOk q0k g1) (h : ∀ ds outs, WfA q0d.ars ds → g ds = some outs → q2o.go (tblS [(q0d, g0), (q0k, g1)]) (fun o => o = outs) ds fun _ _ => False) : FOk q0d g :=
  q09 ann_cells_room_1 Try.f97 _ (.cons h0 (.cons h1 .nil)) rfl rfl q3d (by decide) fun ds outs hw hg => by rw [code_cells_room_1 g0 g1 _ rfl]; exact h ds outs hw hg

def q1f : Ct := ⟨56, [.rref (.st 26), .val (.st 42), .val (.row 49)], [(.bool, false)], [], none, []⟩
theorem enter_cells_room (args : Array Value) (w : World) : (callFunc q1f.f args).run Try.prog w = .ok (.enter q1f.f args) w := by kernel_rfl
def ann_cells_room : Ann := ⟨[0, 1, 2, 3, 4, 6, 7, 9, 10, 11, 14, 23], []⟩
def q34 : Tree := (.br (.eq (.fld (.tok 1) 0) (.lit (.i 0))) (.need [(.ok 1 [(.tok 2), (.fld (.tok 1) 1)])] (.br (.not (.call 1 1 [(.tok 2), (.fld (.tok 1) 1)])) (.need [(.rng .i64 (.lit (.i 1)))] (.need [(.ok 0 [(.tok 1), (.lit (.mp [])), (.lit (.i 1)), (.tok 0)])] (.need [(.imp (.le (.call 0 1 [(.tok 1), (.lit (.mp [])), (.lit (.i 1)), (.tok 0)]) (.sub (.fld (.tok 0) 5) (.len (.fld (.tok 0) 0)))) (.rng .i64 (.fn 3 [(.call 0 0 [(.tok 1), (.lit (.mp [])), (.lit (.i 1)), (.tok 0)])]))), (.imp (.le (.call 0 1 [(.tok 1), (.lit (.mp [])), (.lit (.i 1)), (.tok 0)]) (.sub (.fld (.tok 0) 5) (.len (.fld (.tok 0) 0)))) (.rng .i64 (.fn 3 [(.call 0 0 [(.tok 1), (.lit (.mp [])), (.lit (.i 1)), (.tok 0)])]))), (.imp (.le (.call 0 1 [(.tok 1), (.lit (.mp [])), (.lit (.i 1)), (.tok 0)]) (.sub (.fld (.tok 0) 5) (.len (.fld (.tok 0) 0)))) (.rng .i64 (.sub (.lit (.i 1048576)) (.len (.fld (.tok 0) 1))))), (.imp (.le (.call 0 1 [(.tok 1), (.lit (.mp [])), (.lit (.i 1)), (.tok 0)]) (.sub (.fld (.tok 0) 5) (.len (.fld (.tok 0) 0)))) (.rng .i64 (.fn 3 [(.call 0 0 [(.tok 1), (.lit (.mp [])), (.lit (.i 1)), (.tok 0)])]))), (.imp (.le (.call 0 1 [(.tok 1), (.lit (.mp [])), (.lit (.i 1)), (.tok 0)]) (.sub (.fld (.tok 0) 5) (.len (.fld (.tok 0) 0)))) (.rng .i64 (.fn 3 [(.call 0 0 [(.tok 1), (.lit (.mp [])), (.lit (.i 1)), (.tok 0)])]))), (.rng .i64 (.sub (.fld (.tok 0) 5) (.len (.fld (.tok 0) 0))))] (.leaf [(.and (.le (.call 0 1 [(.tok 1), (.lit (.mp [])), (.lit (.i 1)), (.tok 0)]) (.sub (.fld (.tok 0) 5) (.len (.fld (.tok 0) 0)))) (.le (.fn 3 [(.call 0 0 [(.tok 1), (.lit (.mp [])), (.lit (.i 1)), (.tok 0)])]) (.sub (.lit (.i 1048576)) (.len (.fld (.tok 0) 1)))))])))) (.need [(.ok 0 [(.tok 1), (.lit (.mp [])), (.lit (.i 0)), (.tok 0)])] (.need [(.imp (.le (.call 0 1 [(.tok 1), (.lit (.mp [])), (.lit (.i 0)), (.tok 0)]) (.sub (.fld (.tok 0) 5) (.len (.fld (.tok 0) 0)))) (.rng .i64 (.fn 3 [(.call 0 0 [(.tok 1), (.lit (.mp [])), (.lit (.i 0)), (.tok 0)])]))), (.imp (.le (.call 0 1 [(.tok 1), (.lit (.mp [])), (.lit (.i 0)), (.tok 0)]) (.sub (.fld (.tok 0) 5) (.len (.fld (.tok 0) 0)))) (.rng .i64 (.fn 3 [(.call 0 0 [(.tok 1), (.lit (.mp [])), (.lit (.i 0)), (.tok 0)])]))), (.imp (.le (.call 0 1 [(.tok 1), (.lit (.mp [])), (.lit (.i 0)), (.tok 0)]) (.sub (.fld (.tok 0) 5) (.len (.fld (.tok 0) 0)))) (.rng .i64 (.sub (.lit (.i 1048576)) (.len (.fld (.tok 0) 1))))), (.imp (.le (.call 0 1 [(.tok 1), (.lit (.mp [])), (.lit (.i 0)), (.tok 0)]) (.sub (.fld (.tok 0) 5) (.len (.fld (.tok 0) 0)))) (.rng .i64 (.fn 3 [(.call 0 0 [(.tok 1), (.lit (.mp [])), (.lit (.i 0)), (.tok 0)])]))), (.imp (.le (.call 0 1 [(.tok 1), (.lit (.mp [])), (.lit (.i 0)), (.tok 0)]) (.sub (.fld (.tok 0) 5) (.len (.fld (.tok 0) 0)))) (.rng .i64 (.fn 3 [(.call 0 0 [(.tok 1), (.lit (.mp [])), (.lit (.i 0)), (.tok 0)])]))), (.rng .i64 (.sub (.fld (.tok 0) 5) (.len (.fld (.tok 0) 0))))] (.leaf [(.and (.le (.call 0 1 [(.tok 1), (.lit (.mp [])), (.lit (.i 0)), (.tok 0)]) (.sub (.fld (.tok 0) 5) (.len (.fld (.tok 0) 0)))) (.le (.fn 3 [(.call 0 0 [(.tok 1), (.lit (.mp [])), (.lit (.i 0)), (.tok 0)])]) (.sub (.lit (.i 1048576)) (.len (.fld (.tok 0) 1)))))]))))) (.need [(.ok 0 [(.tok 1), (.lit (.mp [])), (.lit (.i 0)), (.tok 0)])] (.need [(.imp (.le (.call 0 1 [(.tok 1), (.lit (.mp [])), (.lit (.i 0)), (.tok 0)]) (.sub (.fld (.tok 0) 5) (.len (.fld (.tok 0) 0)))) (.rng .i64 (.fn 3 [(.call 0 0 [(.tok 1), (.lit (.mp [])), (.lit (.i 0)), (.tok 0)])]))), (.imp (.le (.call 0 1 [(.tok 1), (.lit (.mp [])), (.lit (.i 0)), (.tok 0)]) (.sub (.fld (.tok 0) 5) (.len (.fld (.tok 0) 0)))) (.rng .i64 (.fn 3 [(.call 0 0 [(.tok 1), (.lit (.mp [])), (.lit (.i 0)), (.tok 0)])]))), (.imp (.le (.call 0 1 [(.tok 1), (.lit (.mp [])), (.lit (.i 0)), (.tok 0)]) (.sub (.fld (.tok 0) 5) (.len (.fld (.tok 0) 0)))) (.rng .i64 (.sub (.lit (.i 1048576)) (.len (.fld (.tok 0) 1))))), (.imp (.le (.call 0 1 [(.tok 1), (.lit (.mp [])), (.lit (.i 0)), (.tok 0)]) (.sub (.fld (.tok 0) 5) (.len (.fld (.tok 0) 0)))) (.rng .i64 (.fn 3 [(.call 0 0 [(.tok 1), (.lit (.mp [])), (.lit (.i 0)), (.tok 0)])]))), (.imp (.le (.call 0 1 [(.tok 1), (.lit (.mp [])), (.lit (.i 0)), (.tok 0)]) (.sub (.fld (.tok 0) 5) (.len (.fld (.tok 0) 0)))) (.rng .i64 (.fn 3 [(.call 0 0 [(.tok 1), (.lit (.mp [])), (.lit (.i 0)), (.tok 0)])]))), (.rng .i64 (.sub (.fld (.tok 0) 5) (.len (.fld (.tok 0) 0))))] (.leaf [(.and (.le (.call 0 1 [(.tok 1), (.lit (.mp [])), (.lit (.i 0)), (.tok 0)]) (.sub (.fld (.tok 0) 5) (.len (.fld (.tok 0) 0)))) (.le (.fn 3 [(.call 0 0 [(.tok 1), (.lit (.mp [])), (.lit (.i 0)), (.tok 0)])]) (.sub (.lit (.i 1048576)) (.len (.fld (.tok 0) 1)))))]))))
set_option maxRecDepth 100000 in
theorem code_cells_room (g0 g1 : List D → Option (List D)) : ∀ cd, Try.f56.body = some cd → treeOf Try.prog [(q0d, g0), (q05, g1)] ann_cells_room q1f Try.f56 cd = q34 := by
  intro cd h
  injection h with h
  subst h
  kernel_rfl
theorem fok_cells_room {g0 g1 : List D → Option (List D)} {g : List D → Option (List D)} (h0 : FOk q0d g0) (h1 : FOk q05 g1) (h : ∀ ds outs, WfA q1f.ars ds → g ds = some outs → q34.go (tblS [(q0d, g0), (q05, g1)]) (fun o => o = outs) ds fun _ _ => False) : FOk q1f g :=
  q09 ann_cells_room Try.f56 _ (.cons h0 (.cons h1 .nil)) rfl rfl enter_cells_room (by decide) fun ds outs hw hg => by rw [code_cells_room g0 g1 _ rfl]; exact h ds outs hw hg

def q0j : Ct := ⟨57, [.val (.row 49)], [(.row 49, true)], [], none, []⟩
theorem q4u (args : Array Value) (w : World) : (callFunc q0j.f args).run Try.prog w = .ok (.enter q0j.f args) w := by kernel_rfl
def q3f : Ann := ⟨[0, 2, 4], []⟩
def q2k : Tree := (.amb (.tok 0) .false (.leaf [(.lit (.r []))]) (.need [(.le (.add (.lit (.i 0)) (.len (.tok 0))) (.lit (.i 5864062014634)))] (.leaf [(.app (.row []) (.tok 0))])))
set_option maxRecDepth 100000 in
theorem q4x : ∀ cd, Try.f57.body = some cd → treeOf Try.prog [] q3f q0j Try.f57 cd = q2k := by
  intro cd h
  injection h with h
  subst h
  kernel_rfl
theorem q3g {g : List D → Option (List D)}  (h : ∀ ds outs, WfA q0j.ars ds → g ds = some outs → q2k.go (tblS []) (fun o => o = outs) ds fun _ _ => False) : FOk q0j g :=
  q09 q3f Try.f57 _ .nil rfl rfl q4u (by decide) fun ds outs hw hg => by rw [q4x  _ rfl]; exact h ds outs hw hg

def q1c : Ct := ⟨21, [.ref (.st 26), .val (.st 42), .val (.row 49)], [(.st 36, false), (.row 49, true), (.int .i64, false)], [], none, []⟩
theorem enter_cells_Put (args : Array Value) (w : World) : (callFunc q1c.f args).run Try.prog w = .ok (.enter q1c.f args) w := by kernel_rfl
def ann_cells_Put : Ann := ⟨[0, 1, 2, 3, 4, 6, 7, 8, 9, 24, 30], []⟩
def q3i : Tree := (.need [(.ok 1 [(.tok 1)]), (.imp (.not (.not (.call 1 0 [(.tok 1)]))) (.ok 2 [(.tok 0), (.tok 2)]))] (.br (.or (.not (.call 1 0 [(.tok 1)])) (.not (.call 2 0 [(.tok 0), (.tok 2)]))) (.leaf [(.lit (.a [(.i 0), (.i 0)])), (.lit (.r [])), (.lit (.i 1)), (.tok 0)]) (.need [(.ok 3 [(.tok 0), (.tok 1), (.tok 2)])] (.br (.not (.call 3 0 [(.tok 0), (.tok 1), (.tok 2)])) (.leaf [(.lit (.a [(.i 0), (.i 0)])), (.lit (.r [])), (.lit (.i 13)), (.tok 0)]) (.need [(.ok 4 [(.tok 2)])] (.need [(.ok 0 [(.tok 1), (.lit (.i (-1))), (.call 4 0 [(.tok 2)]), (.tok 0)])] (.leaf [(.call 0 0 [(.tok 1), (.lit (.i (-1))), (.call 4 0 [(.tok 2)]), (.tok 0)]), (.call 0 1 [(.tok 1), (.lit (.i (-1))), (.call 4 0 [(.tok 2)]), (.tok 0)]), (.lit (.i 0)), (.call 0 2 [(.tok 1), (.lit (.i (-1))), (.call 4 0 [(.tok 2)]), (.tok 0)])])))))))
set_option maxRecDepth 100000 in
theorem code_cells_Put (g0 g1 g2 g3 g4 : List D → Option (List D)) : ∀ cd, Try.f21.body = some cd → treeOf Try.prog [(q0u, g0), (q0z, g1), (q0w, g2), (q1f, g3), (q0j, g4)] ann_cells_Put q1c Try.f21 cd = q3i := by
  intro cd h
  injection h with h
  subst h
  kernel_rfl
theorem fok_cells_Put {g0 g1 g2 g3 g4 : List D → Option (List D)} {g : List D → Option (List D)} (h0 : FOk q0u g0) (h1 : FOk q0z g1) (h2 : FOk q0w g2) (h3 : FOk q1f g3) (h4 : FOk q0j g4) (h : ∀ ds outs, WfA q1c.ars ds → g ds = some outs → q3i.go (tblS [(q0u, g0), (q0z, g1), (q0w, g2), (q1f, g3), (q0j, g4)]) (fun o => o = outs) ds fun _ _ => False) : FOk q1c g :=
  q09 ann_cells_Put Try.f21 _ (.cons h0 (.cons h1 (.cons h2 (.cons h3 (.cons h4 .nil))))) rfl rfl enter_cells_Put (by decide) fun ds outs hw hg => by rw [code_cells_Put g0 g1 g2 g3 g4 _ rfl]; exact h ds outs hw hg

def q25 : Ct := ⟨44, [.val (.int .i64)], [(.st 36, false)], [], none, []⟩
theorem enter_law30_str (args : Array Value) (w : World) : (callFunc q25.f args).run Try.prog w = .ok (.enter q25.f args) w := by kernel_rfl
def ann_law30_str : Ann := ⟨[0, 2], []⟩
def q4s : Tree := (.leaf [(.mk [(.lit (.i 3)), (.tok 0)])])
set_option maxRecDepth 100000 in
theorem code_law30_str : ∀ cd, Try.f44.body = some cd → treeOf Try.prog [] ann_law30_str q25 Try.f44 cd = q4s := by
  intro cd h
  injection h with h
  subst h
  kernel_rfl
theorem fok_law30_str {g : List D → Option (List D)}  (h : ∀ ds outs, WfA q25.ars ds → g ds = some outs → q4s.go (tblS []) (fun o => o = outs) ds fun _ _ => False) : FOk q25 g :=
  q09 ann_law30_str Try.f44 _ .nil rfl rfl enter_law30_str (by decide) fun ds outs hw hg => by rw [code_law30_str  _ rfl]; exact h ds outs hw hg

def q21 : Ct := ⟨39, [.val (.int .i64)], [(.st 36, false)], [], none, []⟩
theorem enter_law30_ref (args : Array Value) (w : World) : (callFunc q21.f args).run Try.prog w = .ok (.enter q21.f args) w := by kernel_rfl
def ann_law30_ref : Ann := ⟨[0, 2], []⟩
def q4q : Tree := (.leaf [(.mk [(.lit (.i 0)), (.tok 0)])])
set_option maxRecDepth 100000 in
theorem code_law30_ref : ∀ cd, Try.f39.body = some cd → treeOf Try.prog [] ann_law30_ref q21 Try.f39 cd = q4q := by
  intro cd h
  injection h with h
  subst h
  kernel_rfl
theorem fok_law30_ref {g : List D → Option (List D)}  (h : ∀ ds outs, WfA q21.ars ds → g ds = some outs → q4q.go (tblS []) (fun o => o = outs) ds fun _ _ => False) : FOk q21 g :=
  q09 ann_law30_ref Try.f39 _ .nil rfl rfl enter_law30_ref (by decide) fun ds outs hw hg => by rw [code_law30_ref  _ rfl]; exact h ds outs hw hg

def q14 : Ct := ⟨23, [.val (.row 49), .val (.row 49)], [(.bool, false)], [], none, []⟩
theorem enter_law30_vars (args : Array Value) (w : World) : (callFunc q14.f args).run Try.prog w = .ok (.enter q14.f args) w := by kernel_rfl
def ann_law30_vars : Ann := ⟨[0, 1, 4, 5, 10, 14, 25], [(4, ⟨[(4, .bool, false), (5, .int .i64, false)], [], [11, 12, 13, 14, 17, 18, 19, 20, 21, 22, 23, 24, 25, 15, 16], []⟩)]⟩
def q39 : Tree := (.br (.not (.eq (.len (.tok 0)) (.len (.tok 1)))) (.leaf [(.lit (.b .false))]) (.loop 4 2 [(.lit (.b .false)), (.lit (.i 0))] (.br (.lt (.tok 3) (.len (.tok 0))) (.need [(.le (.lit (.i 0)) (.tok 3)), (.lt (.tok 3) (.len (.tok 1))), (.le (.lit (.i 0)) (.tok 3)), (.lt (.tok 3) (.len (.tok 0)))] (.br (.not (.eq (.get (.tok 0) (.tok 3)) (.get (.tok 1) (.tok 3)))) (.leaf [(.lit (.b .false))]) (.need [(.rng .i64 (.add (.tok 3) (.lit (.i 1))))] (.back 4 [(.tok 2), (.add (.tok 3) (.lit (.i 1)))])))) (.leaf [(.lit (.b .true))]))))
set_option maxRecDepth 100000 in
theorem code_law30_vars : ∀ cd, Try.f23.body = some cd → treeOf Try.prog [] ann_law30_vars q14 Try.f23 cd = q39 := by
  intro cd h
  injection h with h
  subst h
  kernel_rfl
theorem fok_law30_vars {g : List D → Option (List D)}  (h : ∀ ds outs, WfA q14.ars ds → g ds = some outs → q39.go (tblS []) (fun o => o = outs) ds fun _ _ => False) : FOk q14 g :=
  q09 ann_law30_vars Try.f23 _ .nil rfl rfl enter_law30_vars (by decide) fun ds outs hw hg => by rw [code_law30_vars  _ rfl]; exact h ds outs hw hg

def q10 : Ct := ⟨26, [.val (.st 26), .val (.st 36)], [(.st 36, false)], [], none, []⟩
theorem enter_cells_Deref (args : Array Value) (w : World) : (callFunc q10.f args).run Try.prog w = .ok (.enter q10.f args) w := by kernel_rfl
def ann_cells_Deref : Ann := ⟨[0, 1, 2, 3, 4, 8, 12, 13, 14, 34], [(4, ⟨[(13, .int .i64, false)], [3], [14, 15, 16, 17, 18, 19, 20, 21, 22, 23, 24, 25, 26, 27, 28, 29, 30, 31, 32, 33, 34, 35, 36, 37, 38, 39, 40, 41], []⟩)]⟩
def q3t : Tree := (.need [(.ok 0 [(.tok 0), (.tok 1)])] (.br (.not (.call 0 0 [(.tok 0), (.tok 1)])) (.leaf [(.lit (.a [(.i 0), (.i 0)]))]) (.loop 4 2 [(.lit (.i 0)), (.tok 1)] (.br (.lt (.tok 2) (.len (.fld (.tok 0) 0))) (.need [(.imp (.not (.or (.not (.eq (.fld (.tok 3) 0) (.lit (.i 0)))) (.lt (.call 1 0 [(.tok 0), (.fld (.tok 3) 1)]) (.lit (.i 0))))) (.le (.lit (.i 0)) (.fld (.tok 3) 1))), (.imp (.not (.or (.not (.eq (.fld (.tok 3) 0) (.lit (.i 0)))) (.lt (.call 1 0 [(.tok 0), (.fld (.tok 3) 1)]) (.lit (.i 0))))) (.lt (.fld (.tok 3) 1) (.len (.fld (.tok 0) 0)))), (.imp (.not (.or (.not (.eq (.fld (.tok 3) 0) (.lit (.i 0)))) (.lt (.call 1 0 [(.tok 0), (.fld (.tok 3) 1)]) (.lit (.i 0))))) (.le (.lit (.i 0)) (.fld (.tok 3) 1))), (.imp (.not (.or (.not (.eq (.fld (.tok 3) 0) (.lit (.i 0)))) (.lt (.call 1 0 [(.tok 0), (.fld (.tok 3) 1)]) (.lit (.i 0))))) (.lt (.fld (.tok 3) 1) (.len (.fld (.tok 0) 0)))), (.imp (.not (.not (.eq (.fld (.tok 3) 0) (.lit (.i 0))))) (.ok 1 [(.tok 0), (.fld (.tok 3) 1)]))] (.br (.or (.or (.not (.eq (.fld (.tok 3) 0) (.lit (.i 0)))) (.lt (.call 1 0 [(.tok 0), (.fld (.tok 3) 1)]) (.lit (.i 0)))) (.eq (.get (.fld (.tok 0) 0) (.fld (.tok 3) 1)) (.tok 3))) (.leaf [(.tok 3)]) (.need [(.le (.lit (.i 0)) (.fld (.tok 3) 1)), (.lt (.fld (.tok 3) 1) (.len (.fld (.tok 0) 0)))] (.need [(.rng .i64 (.add (.tok 2) (.lit (.i 1))))] (.back 4 [(.add (.tok 2) (.lit (.i 1))), (.get (.fld (.tok 0) 0) (.fld (.tok 3) 1))]))))) (.leaf [(.tok 3)])))))
set_option maxRecDepth 100000 in
theorem code_cells_Deref (g0 g1 : List D → Option (List D)) : ∀ cd, Try.f26.body = some cd → treeOf Try.prog [(q0c, g0), (q0o, g1)] ann_cells_Deref q10 Try.f26 cd = q3t := by
  intro cd h
  injection h with h
  subst h
  kernel_rfl
theorem fok_cells_Deref {g0 g1 : List D → Option (List D)} {g : List D → Option (List D)} (h0 : FOk q0c g0) (h1 : FOk q0o g1) (h : ∀ ds outs, WfA q10.ars ds → g ds = some outs → q3t.go (tblS [(q0c, g0), (q0o, g1)]) (fun o => o = outs) ds fun _ _ => False) : FOk q10 g :=
  q09 ann_cells_Deref Try.f26 _ (.cons h0 (.cons h1 .nil)) rfl rfl enter_cells_Deref (by decide) fun ds outs hw hg => by rw [code_cells_Deref g0 g1 _ rfl]; exact h ds outs hw hg

def q20 : Ct := ⟨66, [.val (.int .i64)], [(.st 42, false)], [], none, []⟩
theorem enter_term_Int (args : Array Value) (w : World) : (callFunc q20.f args).run Try.prog w = .ok (.enter q20.f args) w := by kernel_rfl
def ann_term_Int : Ann := ⟨[0, 2], []⟩
def tree_term_Int : Tree := (.leaf [(.set (.set (.lit (.a [(.i 0), (.i 0), (.s ⟨#[]⟩), (.r [])])) 0 (.lit (.i 1))) 1 (.tok 0))])
set_option maxRecDepth 100000 in
theorem code_term_Int : ∀ cd, Try.f66.body = some cd → treeOf Try.prog [] ann_term_Int q20 Try.f66 cd = tree_term_Int := by
  intro cd h
  injection h with h
  subst h
  kernel_rfl
theorem fok_term_Int {g : List D → Option (List D)}  (h : ∀ ds outs, WfA q20.ars ds → g ds = some outs → tree_term_Int.go (tblS []) (fun o => o = outs) ds fun _ _ => False) : FOk q20 g :=
  q09 ann_term_Int Try.f66 _ .nil rfl rfl enter_term_Int (by decide) fun ds outs hw hg => by rw [code_term_Int  _ rfl]; exact h ds outs hw hg

def q1d : Ct := ⟨114, [.val (.st 42)], [(.st 42, false)], [], none, []⟩
theorem enter_term_Clone_1 (args : Array Value) (w : World) : (callFunc q1d.f args).run Try.prog w = .ok (.enter q1d.f args) w := by kernel_rfl
def ann_term_Clone_1 : Ann := ⟨[0, 1, 2], []⟩
def q3o : Tree := (.leaf [(.tok 0)])
set_option maxRecDepth 100000 in
theorem code_term_Clone_1 : ∀ cd, Try.f114.body = some cd → treeOf Try.prog [] ann_term_Clone_1 q1d Try.f114 cd = q3o := by
  intro cd h
  injection h with h
  subst h
  kernel_rfl
theorem fok_term_Clone_1 {g : List D → Option (List D)}  (h : ∀ ds outs, WfA q1d.ars ds → g ds = some outs → q3o.go (tblS []) (fun o => o = outs) ds fun _ _ => False) : FOk q1d g :=
  q09 ann_term_Clone_1 Try.f114 _ .nil rfl rfl enter_term_Clone_1 (by decide) fun ds outs hw hg => by rw [code_term_Clone_1  _ rfl]; exact h ds outs hw hg

def q11 : Ct := ⟨113, [.val (.st 42), .fn 114 []], [(.st 42, false)], [], none, []⟩
theorem enter_term_apply (args : Array Value) (w : World) : (callFunc q11.f args).run Try.prog w = .ok (.enter q11.f args) w := by kernel_rfl
def ann_term_apply : Ann := ⟨[0, 1, 2, 4, 5, 7, 10, 22, 23, 24, 25], [(5, ⟨[(24, .int .i64, false)], [5], [25, 26, 27, 7, 28, 29, 30, 31, 32, 33, 34, 35, 36], []⟩)]⟩
def q4a : Tree := (.br (.eq (.fld (.tok 0) 0) (.lit (.i 0))) (.need [(.ok 0 [(.tok 0)])] (.leaf [(.call 0 0 [(.tok 0)])])) (.loop 5 1 [(.lit (.i 0)), (.set (.set (.set (.lit (.a [(.i 0), (.i 0), (.s ⟨#[]⟩), (.r [])])) 0 (.fld (.tok 0) 0)) 1 (.fld (.tok 0) 1)) 2 (.fld (.tok 0) 2))] (.br (.lt (.tok 1) (.len (.fld (.tok 0) 3))) (.need [(.le (.lit (.i 0)) (.tok 1)), (.lt (.tok 1) (.len (.fld (.tok 0) 3)))] (.need [(.le (.add (.len (.fld (.tok 2) 3)) (.lit (.i 1))) (.lit (.i 2513169434843))), (.ok 1 [(.get (.fld (.tok 0) 3) (.tok 1))])] (.need [(.rng .i64 (.add (.tok 1) (.lit (.i 1))))] (.back 5 [(.add (.tok 1) (.lit (.i 1))), (.set (.tok 2) 3 (.app (.fld (.tok 2) 3) (.row [(.call 1 0 [(.get (.fld (.tok 0) 3) (.tok 1))])])))])))) (.leaf [(.tok 2)]))))
set_option maxRecDepth 100000 in
theorem code_term_apply (g0 g1 : List D → Option (List D)) : ∀ cd, Try.f113.body = some cd → treeOf Try.prog [(q1d, g0), (q11, g1)] ann_term_apply q11 Try.f113 cd = q4a := by
  intro cd h
  injection h with h
  subst h
  kernel_rfl
theorem fok_term_apply {g0 g1 : List D → Option (List D)} {g : List D → Option (List D)} (h0 : FOk q1d g0) (h1 : FOk q11 g1) (h : ∀ ds outs, WfA q11.ars ds → g ds = some outs → q4a.go (tblS [(q1d, g0), (q11, g1)]) (fun o => o = outs) ds fun _ _ => False) : FOk q11 g :=
  q09 ann_term_apply Try.f113 _ (.cons h0 (.cons h1 .nil)) rfl rfl enter_term_apply (by decide) fun ds outs hw hg => by rw [code_term_apply g0 g1 _ rfl]; exact h ds outs hw hg

def q1l : Ct := ⟨105, [.val (.st 42)], [(.st 42, false)], [], none, []⟩
theorem enter_term_Clone (args : Array Value) (w : World) : (callFunc q1l.f args).run Try.prog w = .ok (.enter q1l.f args) w := by kernel_rfl
def ann_term_Clone : Ann := ⟨[0, 1, 2, 5], []⟩
def q47 : Tree := (.need [(.ok 0 [(.tok 0)])] (.br (.not (.call 0 0 [(.tok 0)])) (.leaf [(.lit (.a [(.i 0), (.i 0), (.s ⟨#[]⟩), (.r [])]))]) (.need [(.ok 1 [(.tok 0)])] (.leaf [(.call 1 0 [(.tok 0)])]))))
set_option maxRecDepth 100000 in
theorem code_term_Clone (g0 g1 : List D → Option (List D)) : ∀ cd, Try.f105.body = some cd → treeOf Try.prog [(q0z, g0), (q11, g1)] ann_term_Clone q1l Try.f105 cd = q47 := by
  intro cd h
  injection h with h
  subst h
  kernel_rfl
theorem fok_term_Clone {g0 g1 : List D → Option (List D)} {g : List D → Option (List D)} (h0 : FOk q0z g0) (h1 : FOk q11 g1) (h : ∀ ds outs, WfA q1l.ars ds → g ds = some outs → q47.go (tblS [(q0z, g0), (q11, g1)]) (fun o => o = outs) ds fun _ _ => False) : FOk q1l g :=
  q09 ann_term_Clone Try.f105 _ (.cons h0 (.cons h1 .nil)) rfl rfl enter_term_Clone (by decide) fun ds outs hw hg => by rw [code_term_Clone g0 g1 _ rfl]; exact h ds outs hw hg

def q1p : Ct := ⟨68, [.val (.str)], [(.st 42, false)], [], none, []⟩
theorem enter_term_Atom (args : Array Value) (w : World) : (callFunc q1p.f args).run Try.prog w = .ok (.enter q1p.f args) w := by kernel_rfl
def ann_term_Atom : Ann := ⟨[0, 2], []⟩
def q4l : Tree := (.need [(.ok 0 [(.set (.set (.lit (.a [(.i 0), (.i 0), (.s ⟨#[]⟩), (.r [])])) 0 (.lit (.i 2))) 2 (.tok 0))])] (.leaf [(.call 0 0 [(.set (.set (.lit (.a [(.i 0), (.i 0), (.s ⟨#[]⟩), (.r [])])) 0 (.lit (.i 2))) 2 (.tok 0))])]))
set_option maxRecDepth 100000 in
theorem code_term_Atom (g0 : List D → Option (List D)) : ∀ cd, Try.f68.body = some cd → treeOf Try.prog [(q1l, g0)] ann_term_Atom q1p Try.f68 cd = q4l := by
  intro cd h
  injection h with h
  subst h
  kernel_rfl
theorem fok_term_Atom {g0 : List D → Option (List D)} {g : List D → Option (List D)} (h0 : FOk q1l g0) (h : ∀ ds outs, WfA q1p.ars ds → g ds = some outs → q4l.go (tblS [(q1l, g0)]) (fun o => o = outs) ds fun _ _ => False) : FOk q1p g :=
  q09 ann_term_Atom Try.f68 _ (.cons h0 .nil) rfl rfl enter_term_Atom (by decide) fun ds outs hw hg => by rw [code_term_Atom g0 _ rfl]; exact h ds outs hw hg

def q0y : Ct := ⟨65, [.val (.st 36), .ref (.int .i64), .rref (.st 26), .cell 97 4], [(.st 42, false)], [(.cell 3, .fn 65 [1, 2, 3])], none, []⟩
theorem enter_cells_Get_1 (args : Array Value) (w : World) : (callFunc q0y.f args).run Try.prog w = .ok (.enter q0y.f args) w := by kernel_rfl
def ann_cells_Get_1 : Ann := ⟨[0, 1, 2, 3, 4, 5, 6, 7, 8, 12, 17, 24, 43, 99], [(13, ⟨[(8, .int .i64, false)], [1, 7], [83, 84, 85, 86, 87, 88, 89, 90, 91, 92, 93, 94, 95, 96, 97, 98, 99, 102, 103, 104, 105, 106, 107, 108, 109, 110, 111, 112, 113, 100, 101], []⟩)]⟩
def q3s : Tree := (.need [(.rng .i64 (.sub (.tok 1) (.lit (.i 1))))] (.br (.lt (.sub (.tok 1) (.lit (.i 1))) (.lit (.i 0))) (.leaf [(.lit (.a [(.i 0), (.i 0), (.s ⟨#[]⟩), (.r [])])), (.sub (.tok 1) (.lit (.i 1)))]) (.need [(.ok 1 [(.tok 2), (.tok 0)])] (.br (.eq (.fld (.call 1 0 [(.tok 2), (.tok 0)]) 0) (.lit (.i 1))) (.need [(.ok 2 [(.fld (.call 1 0 [(.tok 2), (.tok 0)]) 1)])] (.leaf [(.call 2 0 [(.fld (.call 1 0 [(.tok 2), (.tok 0)]) 1)]), (.sub (.tok 1) (.lit (.i 1)))])) (.need [(.imp (.eq (.fld (.call 1 0 [(.tok 2), (.tok 0)]) 0) (.lit (.i 2))) (.ok 3 [(.tok 2), (.fld (.call 1 0 [(.tok 2), (.tok 0)]) 1)]))] (.br (.and (.eq (.fld (.call 1 0 [(.tok 2), (.tok 0)]) 0) (.lit (.i 2))) (.le (.lit (.i 0)) (.call 3 0 [(.tok 2), (.fld (.call 1 0 [(.tok 2), (.tok 0)]) 1)]))) (.need [(.le (.lit (.i 0)) (.fld (.call 1 0 [(.tok 2), (.tok 0)]) 1)), (.lt (.fld (.call 1 0 [(.tok 2), (.tok 0)]) 1) (.len (.fld (.tok 2) 1))), (.ok 4 [(.fld (.get (.fld (.tok 2) 1) (.fld (.call 1 0 [(.tok 2), (.tok 0)]) 1)) 0)])] (.leaf [(.call 4 0 [(.fld (.get (.fld (.tok 2) 1) (.fld (.call 1 0 [(.tok 2), (.tok 0)]) 1)) 0)]), (.sub (.tok 1) (.lit (.i 1)))])) (.need [(.imp (.and (.eq (.fld (.call 1 0 [(.tok 2), (.tok 0)]) 0) (.lit (.i 3))) (.eq (.call 5 0 [(.tok 2), (.fld (.call 1 0 [(.tok 2), (.tok 0)]) 1)]) (.lit (.i 4)))) (.ok 3 [(.tok 2), (.fld (.get (.fld (.tok 2) 0) (.fld (.call 1 0 [(.tok 2), (.tok 0)]) 1)) 1)])), (.imp (.and (.eq (.fld (.call 1 0 [(.tok 2), (.tok 0)]) 0) (.lit (.i 3))) (.eq (.call 5 0 [(.tok 2), (.fld (.call 1 0 [(.tok 2), (.tok 0)]) 1)]) (.lit (.i 4)))) (.le (.lit (.i 0)) (.fld (.call 1 0 [(.tok 2), (.tok 0)]) 1))), (.imp (.and (.eq (.fld (.call 1 0 [(.tok 2), (.tok 0)]) 0) (.lit (.i 3))) (.eq (.call 5 0 [(.tok 2), (.fld (.call 1 0 [(.tok 2), (.tok 0)]) 1)]) (.lit (.i 4)))) (.lt (.fld (.call 1 0 [(.tok 2), (.tok 0)]) 1) (.len (.fld (.tok 2) 0)))), (.imp (.eq (.fld (.call 1 0 [(.tok 2), (.tok 0)]) 0) (.lit (.i 3))) (.ok 5 [(.tok 2), (.fld (.call 1 0 [(.tok 2), (.tok 0)]) 1)]))] (.br (.and (.and (.eq (.fld (.call 1 0 [(.tok 2), (.tok 0)]) 0) (.lit (.i 3))) (.eq (.call 5 0 [(.tok 2), (.fld (.call 1 0 [(.tok 2), (.tok 0)]) 1)]) (.lit (.i 4)))) (.le (.lit (.i 0)) (.call 3 0 [(.tok 2), (.fld (.get (.fld (.tok 2) 0) (.fld (.call 1 0 [(.tok 2), (.tok 0)]) 1)) 1)]))) (.need [(.le (.lit (.i 0)) (.fld (.get (.fld (.tok 2) 0) (.fld (.call 1 0 [(.tok 2), (.tok 0)]) 1)) 1)), (.lt (.fld (.get (.fld (.tok 2) 0) (.fld (.call 1 0 [(.tok 2), (.tok 0)]) 1)) 1) (.len (.fld (.tok 2) 1))), (.le (.lit (.i 0)) (.fld (.call 1 0 [(.tok 2), (.tok 0)]) 1)), (.lt (.fld (.call 1 0 [(.tok 2), (.tok 0)]) 1) (.len (.fld (.tok 2) 0)))] (.need [(.rng .i64 (.add (.fld (.call 1 0 [(.tok 2), (.tok 0)]) 1) (.lit (.i 1))))] (.loop 13 3 [(.add (.fld (.call 1 0 [(.tok 2), (.tok 0)]) 1) (.lit (.i 1))), (.sub (.tok 1) (.lit (.i 1))), (.set (.set (.lit (.a [(.i 0), (.i 0), (.s ⟨#[]⟩), (.r [])])) 0 (.lit (.i 3))) 2 (.fld (.get (.fld (.tok 2) 1) (.fld (.get (.fld (.tok 2) 0) (.fld (.call 1 0 [(.tok 2), (.tok 0)]) 1)) 1)) 0))] (.need [(.rng .i64 (.add (.fld (.call 1 0 [(.tok 2), (.tok 0)]) 1) (.fld (.get (.fld (.tok 2) 1) (.fld (.get (.fld (.tok 2) 0) (.fld (.call 1 0 [(.tok 2), (.tok 0)]) 1)) 1)) 1))), (.imp (.le (.tok 3) (.add (.fld (.call 1 0 [(.tok 2), (.tok 0)]) 1) (.fld (.get (.fld (.tok 2) 1) (.fld (.get (.fld (.tok 2) 0) (.fld (.call 1 0 [(.tok 2), (.tok 0)]) 1)) 1)) 1))) (.ok 5 [(.tok 2), (.tok 3)]))] (.br (.and (.and (.le (.tok 3) (.add (.fld (.call 1 0 [(.tok 2), (.tok 0)]) 1) (.fld (.get (.fld (.tok 2) 1) (.fld (.get (.fld (.tok 2) 0) (.fld (.call 1 0 [(.tok 2), (.tok 0)]) 1)) 1)) 1))) (.le (.lit (.i 0)) (.call 5 0 [(.tok 2), (.tok 3)]))) (.le (.lit (.i 0)) (.tok 4))) (.need [(.le (.add (.len (.fld (.tok 5) 3)) (.lit (.i 1))) (.lit (.i 2513169434843))), (.ok 0 [(.get (.fld (.tok 2) 0) (.tok 3)), (.tok 4), (.tok 2)]), (.le (.lit (.i 0)) (.tok 3)), (.lt (.tok 3) (.len (.fld (.tok 2) 0)))] (.need [(.rng .i64 (.add (.tok 3) (.lit (.i 1))))] (.back 13 [(.add (.tok 3) (.lit (.i 1))), (.call 0 1 [(.get (.fld (.tok 2) 0) (.tok 3)), (.tok 4), (.tok 2)]), (.set (.tok 5) 3 (.app (.fld (.tok 5) 3) (.row [(.call 0 0 [(.get (.fld (.tok 2) 0) (.tok 3)), (.tok 4), (.tok 2)])])))]))) (.leaf [(.tok 5), (.tok 4)])))))) (.leaf [(.set (.set (.lit (.a [(.i 0), (.i 0), (.s ⟨#[]⟩), (.r [])])) 0 (.lit (.i 0))) 1 (.fld (.call 1 0 [(.tok 2), (.tok 0)]) 1)), (.sub (.tok 1) (.lit (.i 1)))])))))))))
set_option maxRecDepth 100000 in
theorem code_cells_Get_1 (g0 g1 g2 g3 g4 g5 : List D → Option (List D)) : ∀ cd, Try.f65.body = some cd → treeOf Try.prog [(q0y, g0), (q10, g1), (q20, g2), (q0q, g3), (q1p, g4), (q0o, g5)] ann_cells_Get_1 q0y Try.f65 cd = q3s := by
  intro cd h
  injection h with h
  subst h
  kernel_rfl
theorem fok_cells_Get_1 {g0 g1 g2 g3 g4 g5 : List D → Option (List D)} {g : List D → Option (List D)} (h0 : FOk q0y g0) (h1 : FOk q10 g1) (h2 : FOk q20 g2) (h3 : FOk q0q g3) (h4 : FOk q1p g4) (h5 : FOk q0o g5) (h : ∀ ds outs, WfA q0y.ars ds → g ds = some outs → q3s.go (tblS [(q0y, g0), (q10, g1), (q20, g2), (q0q, g3), (q1p, g4), (q0o, g5)]) (fun o => o = outs) ds fun _ _ => False) : FOk q0y g :=
  q09 ann_cells_Get_1 Try.f65 _ (.cons h0 (.cons h1 (.cons h2 (.cons h3 (.cons h4 (.cons h5 .nil)))))) rfl rfl enter_cells_Get_1 (by decide) fun ds outs hw hg => by rw [code_cells_Get_1 g0 g1 g2 g3 g4 g5 _ rfl]; exact h ds outs hw hg

def q24 : Ct := ⟨24, [.val (.st 26), .val (.st 36)], [(.st 42, false), (.int .i64, false)], [], none, []⟩
theorem enter_cells_Get (args : Array Value) (w : World) : (callFunc q24.f args).run Try.prog w = .ok (.enter q24.f args) w := by kernel_rfl
def ann_cells_Get : Ann := ⟨[0, 1, 2, 3, 4, 5, 6, 7, 11, 18], []⟩
def q4r : Tree := (.need [(.ok 1 [(.tok 0), (.tok 1)])] (.br (.not (.call 1 0 [(.tok 0), (.tok 1)])) (.leaf [(.lit (.a [(.i 0), (.i 0), (.s ⟨#[]⟩), (.r [])])), (.lit (.i 1))]) (.need [(.ok 0 [(.tok 1), (.lit (.i 2000)), (.tok 0)])] (.br (.lt (.call 0 1 [(.tok 1), (.lit (.i 2000)), (.tok 0)]) (.lit (.i 0))) (.leaf [(.lit (.a [(.i 0), (.i 0), (.s ⟨#[]⟩), (.r [])])), (.lit (.i 2))]) (.leaf [(.call 0 0 [(.tok 1), (.lit (.i 2000)), (.tok 0)]), (.lit (.i 0))])))))
set_option maxRecDepth 100000 in
theorem code_cells_Get (g0 g1 : List D → Option (List D)) : ∀ cd, Try.f24.body = some cd → treeOf Try.prog [(q0y, g0), (q0c, g1)] ann_cells_Get q24 Try.f24 cd = q4r := by
  intro cd h
  injection h with h
  subst h
  kernel_rfl
theorem fok_cells_Get {g0 g1 : List D → Option (List D)} {g : List D → Option (List D)} (h0 : FOk q0y g0) (h1 : FOk q0c g1) (h : ∀ ds outs, WfA q24.ars ds → g ds = some outs → q4r.go (tblS [(q0y, g0), (q0c, g1)]) (fun o => o = outs) ds fun _ _ => False) : FOk q24 g :=
  q09 ann_cells_Get Try.f24 _ (.cons h0 (.cons h1 .nil)) rfl rfl enter_cells_Get (by decide) fun ds outs hw hg => by rw [code_cells_Get g0 g1 _ rfl]; exact h ds outs hw hg

def q0s : Ct := ⟨74, [.val (.st 42), .val (.int .i64)], [(.int .i64, false)], [], none, []⟩
theorem q3r (args : Array Value) (w : World) : (callFunc q0s.f args).run Try.prog w = .ok (.enter q0s.f args) w := by kernel_rfl
def ann_ref03_Count : Ann := ⟨[0, 1, 2, 4, 5, 6, 16], [(3, ⟨[(5, .int .i64, false), (6, .int .i64, false)], [], [7, 8, 9, 10, 11, 12, 13, 14, 15, 16, 19, 20, 21, 22, 23, 24, 25, 26, 27, 28, 29, 17, 18], []⟩)]⟩
def q2r : Tree := (.loop 3 2 [(.lit (.i 1)), (.lit (.i 0))] (.br (.and (.lt (.tok 3) (.len (.fld (.tok 0) 3))) (.lt (.tok 2) (.tok 1))) (.need [(.le (.lit (.i 0)) (.tok 3)), (.lt (.tok 3) (.len (.fld (.tok 0) 3))), (.rng .i64 (.sub (.tok 1) (.tok 2))), (.ok 0 [(.get (.fld (.tok 0) 3) (.tok 3)), (.sub (.tok 1) (.tok 2))]), (.rng .i64 (.add (.tok 2) (.call 0 0 [(.get (.fld (.tok 0) 3) (.tok 3)), (.sub (.tok 1) (.tok 2))])))] (.need [(.rng .i64 (.add (.tok 3) (.lit (.i 1))))] (.back 3 [(.add (.tok 2) (.call 0 0 [(.get (.fld (.tok 0) 3) (.tok 3)), (.sub (.tok 1) (.tok 2))])), (.add (.tok 3) (.lit (.i 1)))]))) (.leaf [(.tok 2)])))
set_option maxRecDepth 100000 in
theorem code_ref03_Count (g0 : List D → Option (List D)) : ∀ cd, Try.f74.body = some cd → treeOf Try.prog [(q0s, g0)] ann_ref03_Count q0s Try.f74 cd = q2r := by
  intro cd h
  injection h with h
  subst h
  kernel_rfl
theorem fok_ref03_Count {g0 : List D → Option (List D)} {g : List D → Option (List D)} (h0 : FOk q0s g0) (h : ∀ ds outs, WfA q0s.ars ds → g ds = some outs → q2r.go (tblS [(q0s, g0)]) (fun o => o = outs) ds fun _ _ => False) : FOk q0s g :=
  q09 ann_ref03_Count Try.f74 _ (.cons h0 .nil) rfl rfl q3r (by decide) fun ds outs hw hg => by rw [code_ref03_Count g0 _ rfl]; exact h ds outs hw hg

def q1h : Ct := ⟨30, [.val (.st 42)], [(.int .i64, false)], [], none, []⟩
theorem enter_ref03_Size (args : Array Value) (w : World) : (callFunc q1h.f args).run Try.prog w = .ok (.enter q1h.f args) w := by kernel_rfl
def ann_ref03_Size : Ann := ⟨[0, 1, 2], []⟩
def q38 : Tree := (.need [(.ok 0 [(.tok 0), (.lit (.i 2001))])] (.leaf [(.call 0 0 [(.tok 0), (.lit (.i 2001))])]))
set_option maxRecDepth 100000 in
theorem code_ref03_Size (g0 : List D → Option (List D)) : ∀ cd, Try.f30.body = some cd → treeOf Try.prog [(q0s, g0)] ann_ref03_Size q1h Try.f30 cd = q38 := by
  intro cd h
  injection h with h
  subst h
  kernel_rfl
theorem fok_ref03_Size {g0 : List D → Option (List D)} {g : List D → Option (List D)} (h0 : FOk q0s g0) (h : ∀ ds outs, WfA q1h.ars ds → g ds = some outs → q38.go (tblS [(q0s, g0)]) (fun o => o = outs) ds fun _ _ => False) : FOk q1h g :=
  q09 ann_ref03_Size Try.f30 _ (.cons h0 .nil) rfl rfl enter_ref03_Size (by decide) fun ds outs hw hg => by rw [code_ref03_Size g0 _ rfl]; exact h ds outs hw hg

def q1i : Ct := ⟨106, [.val (.st 42)], [(.bool, false)], [], none, []⟩
theorem enter_ref03_node (args : Array Value) (w : World) : (callFunc q1i.f args).run Try.prog w = .ok (.enter q1i.f args) w := by kernel_rfl
def ann_ref03_node : Ann := ⟨[0, 1, 2, 4, 5, 26, 37, 54], []⟩
def q3a : Tree := (.br (.eq (.fld (.tok 0) 0) (.lit (.i 0))) (.leaf [(.and (.and (.and (.le (.lit (.i 0)) (.fld (.tok 0) 1)) (.le (.fld (.tok 0) 1) (.lit (.i 1099511627776)))) (.eq (.fld (.tok 0) 2) (.lit (.s ⟨#[]⟩)))) (.eq (.len (.fld (.tok 0) 3)) (.lit (.i 0))))]) (.br (.eq (.fld (.tok 0) 0) (.lit (.i 1))) (.leaf [(.and (.eq (.fld (.tok 0) 2) (.lit (.s ⟨#[]⟩))) (.eq (.len (.fld (.tok 0) 3)) (.lit (.i 0))))]) (.br (.eq (.fld (.tok 0) 0) (.lit (.i 2))) (.leaf [(.and (.and (.eq (.fld (.tok 0) 1) (.lit (.i 0))) (.le (.slen (.fld (.tok 0) 2)) (.lit (.i 100)))) (.eq (.len (.fld (.tok 0) 3)) (.lit (.i 0))))]) (.br (.eq (.fld (.tok 0) 0) (.lit (.i 3))) (.leaf [(.and (.and (.and (.eq (.fld (.tok 0) 1) (.lit (.i 0))) (.le (.slen (.fld (.tok 0) 2)) (.lit (.i 100)))) (.le (.lit (.i 1)) (.len (.fld (.tok 0) 3)))) (.le (.len (.fld (.tok 0) 3)) (.lit (.i 8))))]) (.leaf [(.lit (.b .false))])))))
set_option maxRecDepth 100000 in
theorem code_ref03_node : ∀ cd, Try.f106.body = some cd → treeOf Try.prog [] ann_ref03_node q1i Try.f106 cd = q3a := by
  intro cd h
  injection h with h
  subst h
  kernel_rfl
theorem fok_ref03_node {g : List D → Option (List D)}  (h : ∀ ds outs, WfA q1i.ars ds → g ds = some outs → q3a.go (tblS []) (fun o => o = outs) ds fun _ _ => False) : FOk q1i g :=
  q09 ann_ref03_node Try.f106 _ .nil rfl rfl enter_ref03_node (by decide) fun ds outs hw hg => by rw [code_ref03_node  _ rfl]; exact h ds outs hw hg

def q0t : Ct := ⟨73, [.val (.st 42)], [(.bool, false)], [], none, []⟩
theorem q3q (args : Array Value) (w : World) : (callFunc q0t.f args).run Try.prog w = .ok (.enter q0t.f args) w := by kernel_rfl
def ann_ref03_nodes : Ann := ⟨[0, 1, 2, 3, 6, 11, 20], [(4, ⟨[(2, .bool, false), (3, .int .i64, false)], [], [7, 8, 9, 10, 11, 14, 15, 16, 17, 18, 19, 20, 12, 13], []⟩)]⟩
def q2u : Tree := (.need [(.ok 0 [(.tok 0)])] (.br (.not (.call 0 0 [(.tok 0)])) (.leaf [(.lit (.b .false))]) (.loop 4 1 [(.lit (.b .false)), (.lit (.i 0))] (.br (.lt (.tok 2) (.len (.fld (.tok 0) 3))) (.need [(.le (.lit (.i 0)) (.tok 2)), (.lt (.tok 2) (.len (.fld (.tok 0) 3))), (.ok 1 [(.get (.fld (.tok 0) 3) (.tok 2))])] (.br (.not (.call 1 0 [(.get (.fld (.tok 0) 3) (.tok 2))])) (.leaf [(.lit (.b .false))]) (.need [(.rng .i64 (.add (.tok 2) (.lit (.i 1))))] (.back 4 [(.tok 1), (.add (.tok 2) (.lit (.i 1)))])))) (.leaf [(.lit (.b .true))])))))
set_option maxRecDepth 100000 in
theorem code_ref03_nodes (g0 g1 : List D → Option (List D)) : ∀ cd, Try.f73.body = some cd → treeOf Try.prog [(q1i, g0), (q0t, g1)] ann_ref03_nodes q0t Try.f73 cd = q2u := by
  intro cd h
  injection h with h
  subst h
  kernel_rfl
theorem fok_ref03_nodes {g0 g1 : List D → Option (List D)} {g : List D → Option (List D)} (h0 : FOk q1i g0) (h1 : FOk q0t g1) (h : ∀ ds outs, WfA q0t.ars ds → g ds = some outs → q2u.go (tblS [(q1i, g0), (q0t, g1)]) (fun o => o = outs) ds fun _ _ => False) : FOk q0t g :=
  q09 ann_ref03_nodes Try.f73 _ (.cons h0 (.cons h1 .nil)) rfl rfl q3q (by decide) fun ds outs hw hg => by rw [code_ref03_nodes g0 g1 _ rfl]; exact h ds outs hw hg

def q0x : Ct := ⟨29, [.val (.st 42)], [(.bool, false)], [], none, []⟩
theorem enter_ref03_Valid (args : Array Value) (w : World) : (callFunc q0x.f args).run Try.prog w = .ok (.enter q0x.f args) w := by kernel_rfl
def ann_ref03_Valid : Ann := ⟨[0, 1, 2], []⟩
def q2x : Tree := (.need [(.ok 0 [(.tok 0)]), (.imp (.le (.call 0 0 [(.tok 0)]) (.lit (.i 2000))) (.ok 1 [(.tok 0)]))] (.leaf [(.and (.le (.call 0 0 [(.tok 0)]) (.lit (.i 2000))) (.call 1 0 [(.tok 0)]))]))
set_option maxRecDepth 100000 in
theorem code_ref03_Valid (g0 g1 : List D → Option (List D)) : ∀ cd, Try.f29.body = some cd → treeOf Try.prog [(q1h, g0), (q0t, g1)] ann_ref03_Valid q0x Try.f29 cd = q2x := by
  intro cd h
  injection h with h
  subst h
  kernel_rfl
theorem fok_ref03_Valid {g0 g1 : List D → Option (List D)} {g : List D → Option (List D)} (h0 : FOk q1h g0) (h1 : FOk q0t g1) (h : ∀ ds outs, WfA q0x.ars ds → g ds = some outs → q2x.go (tblS [(q1h, g0), (q0t, g1)]) (fun o => o = outs) ds fun _ _ => False) : FOk q0x g :=
  q09 ann_ref03_Valid Try.f29 _ (.cons h0 (.cons h1 .nil)) rfl rfl enter_ref03_Valid (by decide) fun ds outs hw hg => by rw [code_ref03_Valid g0 g1 _ rfl]; exact h ds outs hw hg

def q0l : Ct := ⟨72, [.val (.st 42), .val (.st 42)], [(.bool, false)], [], none, []⟩
theorem q3z (args : Array Value) (w : World) : (callFunc q0l.f args).run Try.prog w = .ok (.enter q0l.f args) w := by kernel_rfl
def q4g : Ann := ⟨[0, 1, 2, 3, 4, 5, 33, 38, 52], [(4, ⟨[(4, .bool, false), (5, .int .i64, false)], [], [34, 35, 36, 37, 38, 41, 42, 43, 44, 45, 46, 47, 48, 49, 50, 51, 52, 39, 40], []⟩)]⟩
def q2v : Tree := (.br (.or (.or (.or (.not (.eq (.fld (.tok 0) 0) (.fld (.tok 1) 0))) (.not (.eq (.fld (.tok 0) 1) (.fld (.tok 1) 1)))) (.not (.eq (.fld (.tok 0) 2) (.fld (.tok 1) 2)))) (.not (.eq (.len (.fld (.tok 0) 3)) (.len (.fld (.tok 1) 3))))) (.leaf [(.lit (.b .false))]) (.loop 4 2 [(.lit (.b .false)), (.lit (.i 0))] (.br (.lt (.tok 3) (.len (.fld (.tok 0) 3))) (.need [(.ok 0 [(.get (.fld (.tok 0) 3) (.tok 3)), (.get (.fld (.tok 1) 3) (.tok 3))]), (.le (.lit (.i 0)) (.tok 3)), (.lt (.tok 3) (.len (.fld (.tok 1) 3))), (.le (.lit (.i 0)) (.tok 3)), (.lt (.tok 3) (.len (.fld (.tok 0) 3)))] (.br (.not (.call 0 0 [(.get (.fld (.tok 0) 3) (.tok 3)), (.get (.fld (.tok 1) 3) (.tok 3))])) (.leaf [(.lit (.b .false))]) (.need [(.rng .i64 (.add (.tok 3) (.lit (.i 1))))] (.back 4 [(.tok 2), (.add (.tok 3) (.lit (.i 1)))])))) (.leaf [(.lit (.b .true))]))))
set_option maxRecDepth 100000 in
theorem code_ref03_identical (g0 : List D → Option (List D)) : ∀ cd, Try.f72.body = some cd → treeOf Try.prog [(q0l, g0)] q4g q0l Try.f72 cd = q2v := by
  intro cd h
  injection h with h
  subst h
  kernel_rfl
theorem fok_ref03_identical {g0 : List D → Option (List D)} {g : List D → Option (List D)} (h0 : FOk q0l g0) (h : ∀ ds outs, WfA q0l.ars ds → g ds = some outs → q2v.go (tblS [(q0l, g0)]) (fun o => o = outs) ds fun _ _ => False) : FOk q0l g :=
  q09 q4g Try.f72 _ (.cons h0 .nil) rfl rfl q3z (by decide) fun ds outs hw hg => by rw [code_ref03_identical g0 _ rfl]; exact h ds outs hw hg

def q1w : Ct := ⟨28, [.val (.st 42), .val (.st 42)], [(.bool, false)], [], none, []⟩
theorem enter_ref03_Same (args : Array Value) (w : World) : (callFunc q1w.f args).run Try.prog w = .ok (.enter q1w.f args) w := by kernel_rfl
def ann_ref03_Same : Ann := ⟨[0, 1, 2, 3, 4], []⟩
def q41 : Tree := (.need [(.ok 0 [(.tok 0)]), (.imp (.call 0 0 [(.tok 0)]) (.ok 0 [(.tok 1)])), (.imp (.and (.call 0 0 [(.tok 0)]) (.call 0 0 [(.tok 1)])) (.ok 1 [(.tok 0), (.tok 1)]))] (.leaf [(.and (.and (.call 0 0 [(.tok 0)]) (.call 0 0 [(.tok 1)])) (.call 1 0 [(.tok 0), (.tok 1)]))]))
set_option maxRecDepth 100000 in
theorem code_ref03_Same (g0 g1 : List D → Option (List D)) : ∀ cd, Try.f28.body = some cd → treeOf Try.prog [(q0x, g0), (q0l, g1)] ann_ref03_Same q1w Try.f28 cd = q41 := by
  intro cd h
  injection h with h
  subst h
  kernel_rfl
theorem fok_ref03_Same {g0 g1 : List D → Option (List D)} {g : List D → Option (List D)} (h0 : FOk q0x g0) (h1 : FOk q0l g1) (h : ∀ ds outs, WfA q1w.ars ds → g ds = some outs → q41.go (tblS [(q0x, g0), (q0l, g1)]) (fun o => o = outs) ds fun _ _ => False) : FOk q1w g :=
  q09 ann_ref03_Same Try.f28 _ (.cons h0 (.cons h1 .nil)) rfl rfl enter_ref03_Same (by decide) fun ds outs hw hg => by rw [code_ref03_Same g0 g1 _ rfl]; exact h ds outs hw hg

def q1n : Ct := ⟨14, [], [(.bool, false)], [], none, []⟩
theorem enter_law30_awake (args : Array Value) (w : World) : (callFunc q1n.f args).run Try.prog w = .ok (.enter q1n.f args) w := by kernel_rfl
def ann_law30_awake : Ann := ⟨[0, 1, 2, 3, 4, 5, 6, 7, 8, 9, 10, 11, 57, 59, 75], [(6, ⟨[(0, .bool, false), (6, .int .i64, false)], [], [58, 59, 62, 63, 64, 65, 66, 67, 68, 69, 70, 71, 72, 73, 74, 75, 60, 61], []⟩)]⟩
def tree_law30_awake : Tree := (.need [(.ok 0 [(.lit (.i 10))])] (.need [(.ok 1 [(.lit (.i 0))]), (.ok 2 [(.lit (.s ⟨#[103]⟩)), (.row [(.call 1 0 [(.lit (.i 0))])])]), (.ok 1 [(.lit (.i 0))]), (.ok 2 [(.lit (.s ⟨#[102]⟩)), (.row [(.call 2 0 [(.lit (.s ⟨#[103]⟩)), (.row [(.call 1 0 [(.lit (.i 0))])])]), (.call 1 0 [(.lit (.i 0))])])]), (.ok 3 [(.call 0 0 [(.lit (.i 10))]), (.call 2 0 [(.lit (.s ⟨#[102]⟩)), (.row [(.call 2 0 [(.lit (.s ⟨#[103]⟩)), (.row [(.call 1 0 [(.lit (.i 0))])])]), (.call 1 0 [(.lit (.i 0))])])]), (.lit (.r []))])] (.need [(.imp (.not (.or (.or (.not (.eq (.call 0 1 [(.lit (.i 10))]) (.lit (.i 0)))) (.not (.eq (.call 3 2 [(.call 0 0 [(.lit (.i 10))]), (.call 2 0 [(.lit (.s ⟨#[102]⟩)), (.row [(.call 2 0 [(.lit (.s ⟨#[103]⟩)), (.row [(.call 1 0 [(.lit (.i 0))])])]), (.call 1 0 [(.lit (.i 0))])])]), (.lit (.r []))]) (.lit (.i 0))))) (.not (.eq (.call 3 0 [(.call 0 0 [(.lit (.i 10))]), (.call 2 0 [(.lit (.s ⟨#[102]⟩)), (.row [(.call 2 0 [(.lit (.s ⟨#[103]⟩)), (.row [(.call 1 0 [(.lit (.i 0))])])]), (.call 1 0 [(.lit (.i 0))])])]), (.lit (.r []))]) (.call 4 0 [(.lit (.i 0))]))))) (.ok 6 [(.call 3 1 [(.call 0 0 [(.lit (.i 10))]), (.call 2 0 [(.lit (.s ⟨#[102]⟩)), (.row [(.call 2 0 [(.lit (.s ⟨#[103]⟩)), (.row [(.call 1 0 [(.lit (.i 0))])])]), (.call 1 0 [(.lit (.i 0))])])]), (.lit (.r []))]), (.row [(.mk [(.lit (.i 0)), (.call 5 0 [(.lit (.i 4))])])])])), (.imp (.not (.or (.or (.not (.eq (.call 0 1 [(.lit (.i 10))]) (.lit (.i 0)))) (.not (.eq (.call 3 2 [(.call 0 0 [(.lit (.i 10))]), (.call 2 0 [(.lit (.s ⟨#[102]⟩)), (.row [(.call 2 0 [(.lit (.s ⟨#[103]⟩)), (.row [(.call 1 0 [(.lit (.i 0))])])]), (.call 1 0 [(.lit (.i 0))])])]), (.lit (.r []))]) (.lit (.i 0))))) (.not (.eq (.call 3 0 [(.call 0 0 [(.lit (.i 10))]), (.call 2 0 [(.lit (.s ⟨#[102]⟩)), (.row [(.call 2 0 [(.lit (.s ⟨#[103]⟩)), (.row [(.call 1 0 [(.lit (.i 0))])])]), (.call 1 0 [(.lit (.i 0))])])]), (.lit (.r []))]) (.call 4 0 [(.lit (.i 0))]))))) (.ok 5 [(.lit (.i 4))])), (.imp (.not (.or (.not (.eq (.call 0 1 [(.lit (.i 10))]) (.lit (.i 0)))) (.not (.eq (.call 3 2 [(.call 0 0 [(.lit (.i 10))]), (.call 2 0 [(.lit (.s ⟨#[102]⟩)), (.row [(.call 2 0 [(.lit (.s ⟨#[103]⟩)), (.row [(.call 1 0 [(.lit (.i 0))])])]), (.call 1 0 [(.lit (.i 0))])])]), (.lit (.r []))]) (.lit (.i 0)))))) (.ok 4 [(.lit (.i 0))]))] (.br (.or (.or (.or (.or (.or (.not (.eq (.call 0 1 [(.lit (.i 10))]) (.lit (.i 0)))) (.not (.eq (.call 3 2 [(.call 0 0 [(.lit (.i 10))]), (.call 2 0 [(.lit (.s ⟨#[102]⟩)), (.row [(.call 2 0 [(.lit (.s ⟨#[103]⟩)), (.row [(.call 1 0 [(.lit (.i 0))])])]), (.call 1 0 [(.lit (.i 0))])])]), (.lit (.r []))]) (.lit (.i 0))))) (.not (.eq (.call 3 0 [(.call 0 0 [(.lit (.i 10))]), (.call 2 0 [(.lit (.s ⟨#[102]⟩)), (.row [(.call 2 0 [(.lit (.s ⟨#[103]⟩)), (.row [(.call 1 0 [(.lit (.i 0))])])]), (.call 1 0 [(.lit (.i 0))])])]), (.lit (.r []))]) (.call 4 0 [(.lit (.i 0))])))) (.not (.call 6 0 [(.call 3 1 [(.call 0 0 [(.lit (.i 10))]), (.call 2 0 [(.lit (.s ⟨#[102]⟩)), (.row [(.call 2 0 [(.lit (.s ⟨#[103]⟩)), (.row [(.call 1 0 [(.lit (.i 0))])])]), (.call 1 0 [(.lit (.i 0))])])]), (.lit (.r []))]), (.row [(.mk [(.lit (.i 0)), (.call 5 0 [(.lit (.i 4))])])])]))) (.not (.eq (.len (.fld (.call 3 3 [(.call 0 0 [(.lit (.i 10))]), (.call 2 0 [(.lit (.s ⟨#[102]⟩)), (.row [(.call 2 0 [(.lit (.s ⟨#[103]⟩)), (.row [(.call 1 0 [(.lit (.i 0))])])]), (.call 1 0 [(.lit (.i 0))])])]), (.lit (.r []))]) 0)) (.lit (.i 5))))) (.not (.eq (.len (.fld (.call 3 3 [(.call 0 0 [(.lit (.i 10))]), (.call 2 0 [(.lit (.s ⟨#[102]⟩)), (.row [(.call 2 0 [(.lit (.s ⟨#[103]⟩)), (.row [(.call 1 0 [(.lit (.i 0))])])]), (.call 1 0 [(.lit (.i 0))])])]), (.lit (.r []))]) 1)) (.lit (.i 2))))) (.leaf [(.lit (.b .false))]) (.loop 6 0 [(.lit (.b .false)), (.lit (.i 0))] (.br (.lt (.tok 1) (.lit (.i 5))) (.need [(.le (.lit (.i 0)) (.tok 1)), (.lt (.tok 1) (.lit (.i 5))), (.ok 5 [(.lit (.i 4))]), (.ok 5 [(.lit (.i 4))]), (.ok 5 [(.lit (.i 4))]), (.ok 4 [(.lit (.i 3))]), (.ok 4 [(.lit (.i 3))]), (.le (.lit (.i 0)) (.tok 1)), (.lt (.tok 1) (.len (.fld (.call 3 3 [(.call 0 0 [(.lit (.i 10))]), (.call 2 0 [(.lit (.s ⟨#[102]⟩)), (.row [(.call 2 0 [(.lit (.s ⟨#[103]⟩)), (.row [(.call 1 0 [(.lit (.i 0))])])]), (.call 1 0 [(.lit (.i 0))])])]), (.lit (.r []))]) 0)))] (.br (.not (.eq (.get (.fld (.call 3 3 [(.call 0 0 [(.lit (.i 10))]), (.call 2 0 [(.lit (.s ⟨#[102]⟩)), (.row [(.call 2 0 [(.lit (.s ⟨#[103]⟩)), (.row [(.call 1 0 [(.lit (.i 0))])])]), (.call 1 0 [(.lit (.i 0))])])]), (.lit (.r []))]) 0) (.tok 1)) (.get (.row [(.mk [(.lit (.i 4)), (.lit (.i 0))]), (.call 4 0 [(.lit (.i 3))]), (.call 5 0 [(.lit (.i 4))]), (.mk [(.lit (.i 4)), (.lit (.i 1))]), (.call 5 0 [(.lit (.i 4))])]) (.tok 1)))) (.leaf [(.lit (.b .false))]) (.need [(.rng .i64 (.add (.tok 1) (.lit (.i 1))))] (.back 6 [(.tok 0), (.add (.tok 1) (.lit (.i 1)))])))) (.need [(.ok 1 [(.lit (.i 1))]), (.ok 3 [(.call 3 3 [(.call 0 0 [(.lit (.i 10))]), (.call 2 0 [(.lit (.s ⟨#[102]⟩)), (.row [(.call 2 0 [(.lit (.s ⟨#[103]⟩)), (.row [(.call 1 0 [(.lit (.i 0))])])]), (.call 1 0 [(.lit (.i 0))])])]), (.lit (.r []))]), (.call 1 0 [(.lit (.i 1))]), (.call 3 1 [(.call 0 0 [(.lit (.i 10))]), (.call 2 0 [(.lit (.s ⟨#[102]⟩)), (.row [(.call 2 0 [(.lit (.s ⟨#[103]⟩)), (.row [(.call 1 0 [(.lit (.i 0))])])]), (.call 1 0 [(.lit (.i 0))])])]), (.lit (.r []))])])] (.need [(.ok 7 [(.call 3 3 [(.call 3 3 [(.call 0 0 [(.lit (.i 10))]), (.call 2 0 [(.lit (.s ⟨#[102]⟩)), (.row [(.call 2 0 [(.lit (.s ⟨#[103]⟩)), (.row [(.call 1 0 [(.lit (.i 0))])])]), (.call 1 0 [(.lit (.i 0))])])]), (.lit (.r []))]), (.call 1 0 [(.lit (.i 1))]), (.call 3 1 [(.call 0 0 [(.lit (.i 10))]), (.call 2 0 [(.lit (.s ⟨#[102]⟩)), (.row [(.call 2 0 [(.lit (.s ⟨#[103]⟩)), (.row [(.call 1 0 [(.lit (.i 0))])])]), (.call 1 0 [(.lit (.i 0))])])]), (.lit (.r []))])]), (.call 4 0 [(.lit (.i 0))])]), (.ok 4 [(.lit (.i 0))]), (.ok 4 [(.lit (.i 0))])] (.need [(.imp (.and (.and (.and (.and (.and (.and (.eq (.call 3 2 [(.call 3 3 [(.call 0 0 [(.lit (.i 10))]), (.call 2 0 [(.lit (.s ⟨#[102]⟩)), (.row [(.call 2 0 [(.lit (.s ⟨#[103]⟩)), (.row [(.call 1 0 [(.lit (.i 0))])])]), (.call 1 0 [(.lit (.i 0))])])]), (.lit (.r []))]), (.call 1 0 [(.lit (.i 1))]), (.call 3 1 [(.call 0 0 [(.lit (.i 10))]), (.call 2 0 [(.lit (.s ⟨#[102]⟩)), (.row [(.call 2 0 [(.lit (.s ⟨#[103]⟩)), (.row [(.call 1 0 [(.lit (.i 0))])])]), (.call 1 0 [(.lit (.i 0))])])]), (.lit (.r []))])]) (.lit (.i 0))) (.eq (.call 3 0 [(.call 3 3 [(.call 0 0 [(.lit (.i 10))]), (.call 2 0 [(.lit (.s ⟨#[102]⟩)), (.row [(.call 2 0 [(.lit (.s ⟨#[103]⟩)), (.row [(.call 1 0 [(.lit (.i 0))])])]), (.call 1 0 [(.lit (.i 0))])])]), (.lit (.r []))]), (.call 1 0 [(.lit (.i 1))]), (.call 3 1 [(.call 0 0 [(.lit (.i 10))]), (.call 2 0 [(.lit (.s ⟨#[102]⟩)), (.row [(.call 2 0 [(.lit (.s ⟨#[103]⟩)), (.row [(.call 1 0 [(.lit (.i 0))])])]), (.call 1 0 [(.lit (.i 0))])])]), (.lit (.r []))])]) (.call 5 0 [(.lit (.i 5))]))) (.call 6 0 [(.call 3 1 [(.call 3 3 [(.call 0 0 [(.lit (.i 10))]), (.call 2 0 [(.lit (.s ⟨#[102]⟩)), (.row [(.call 2 0 [(.lit (.s ⟨#[103]⟩)), (.row [(.call 1 0 [(.lit (.i 0))])])]), (.call 1 0 [(.lit (.i 0))])])]), (.lit (.r []))]), (.call 1 0 [(.lit (.i 1))]), (.call 3 1 [(.call 0 0 [(.lit (.i 10))]), (.call 2 0 [(.lit (.s ⟨#[102]⟩)), (.row [(.call 2 0 [(.lit (.s ⟨#[103]⟩)), (.row [(.call 1 0 [(.lit (.i 0))])])]), (.call 1 0 [(.lit (.i 0))])])]), (.lit (.r []))])]), (.row [(.mk [(.lit (.i 0)), (.call 5 0 [(.lit (.i 4))])]), (.mk [(.lit (.i 1)), (.call 5 0 [(.lit (.i 5))])])])])) (.eq (.call 7 1 [(.call 3 3 [(.call 3 3 [(.call 0 0 [(.lit (.i 10))]), (.call 2 0 [(.lit (.s ⟨#[102]⟩)), (.row [(.call 2 0 [(.lit (.s ⟨#[103]⟩)), (.row [(.call 1 0 [(.lit (.i 0))])])]), (.call 1 0 [(.lit (.i 0))])])]), (.lit (.r []))]), (.call 1 0 [(.lit (.i 1))]), (.call 3 1 [(.call 0 0 [(.lit (.i 10))]), (.call 2 0 [(.lit (.s ⟨#[102]⟩)), (.row [(.call 2 0 [(.lit (.s ⟨#[103]⟩)), (.row [(.call 1 0 [(.lit (.i 0))])])]), (.call 1 0 [(.lit (.i 0))])])]), (.lit (.r []))])]), (.call 4 0 [(.lit (.i 0))])]) (.lit (.i 0)))) (.call 8 0 [(.call 7 0 [(.call 3 3 [(.call 3 3 [(.call 0 0 [(.lit (.i 10))]), (.call 2 0 [(.lit (.s ⟨#[102]⟩)), (.row [(.call 2 0 [(.lit (.s ⟨#[103]⟩)), (.row [(.call 1 0 [(.lit (.i 0))])])]), (.call 1 0 [(.lit (.i 0))])])]), (.lit (.r []))]), (.call 1 0 [(.lit (.i 1))]), (.call 3 1 [(.call 0 0 [(.lit (.i 10))]), (.call 2 0 [(.lit (.s ⟨#[102]⟩)), (.row [(.call 2 0 [(.lit (.s ⟨#[103]⟩)), (.row [(.call 1 0 [(.lit (.i 0))])])]), (.call 1 0 [(.lit (.i 0))])])]), (.lit (.r []))])]), (.call 4 0 [(.lit (.i 0))])]), (.call 2 0 [(.lit (.s ⟨#[102]⟩)), (.row [(.call 2 0 [(.lit (.s ⟨#[103]⟩)), (.row [(.call 1 0 [(.lit (.i 4))])])]), (.call 1 0 [(.lit (.i 4))])])])])) (.eq (.call 9 0 [(.call 3 3 [(.call 3 3 [(.call 0 0 [(.lit (.i 10))]), (.call 2 0 [(.lit (.s ⟨#[102]⟩)), (.row [(.call 2 0 [(.lit (.s ⟨#[103]⟩)), (.row [(.call 1 0 [(.lit (.i 0))])])]), (.call 1 0 [(.lit (.i 0))])])]), (.lit (.r []))]), (.call 1 0 [(.lit (.i 1))]), (.call 3 1 [(.call 0 0 [(.lit (.i 10))]), (.call 2 0 [(.lit (.s ⟨#[102]⟩)), (.row [(.call 2 0 [(.lit (.s ⟨#[103]⟩)), (.row [(.call 1 0 [(.lit (.i 0))])])]), (.call 1 0 [(.lit (.i 0))])])]), (.lit (.r []))])]), (.call 5 0 [(.lit (.i 2))])]) (.call 5 0 [(.lit (.i 4))]))) (.eq (.call 9 0 [(.call 3 3 [(.call 3 3 [(.call 0 0 [(.lit (.i 10))]), (.call 2 0 [(.lit (.s ⟨#[102]⟩)), (.row [(.call 2 0 [(.lit (.s ⟨#[103]⟩)), (.row [(.call 1 0 [(.lit (.i 0))])])]), (.call 1 0 [(.lit (.i 0))])])]), (.lit (.r []))]), (.call 1 0 [(.lit (.i 1))]), (.call 3 1 [(.call 0 0 [(.lit (.i 10))]), (.call 2 0 [(.lit (.s ⟨#[102]⟩)), (.row [(.call 2 0 [(.lit (.s ⟨#[103]⟩)), (.row [(.call 1 0 [(.lit (.i 0))])])]), (.call 1 0 [(.lit (.i 0))])])]), (.lit (.r []))])]), (.call 5 0 [(.lit (.i 1))])]) (.call 4 0 [(.lit (.i 3))]))) (.lit (.b .true))), (.imp (.and (.and (.and (.and (.and (.and (.eq (.call 3 2 [(.call 3 3 [(.call 0 0 [(.lit (.i 10))]), (.call 2 0 [(.lit (.s ⟨#[102]⟩)), (.row [(.call 2 0 [(.lit (.s ⟨#[103]⟩)), (.row [(.call 1 0 [(.lit (.i 0))])])]), (.call 1 0 [(.lit (.i 0))])])]), (.lit (.r []))]), (.call 1 0 [(.lit (.i 1))]), (.call 3 1 [(.call 0 0 [(.lit (.i 10))]), (.call 2 0 [(.lit (.s ⟨#[102]⟩)), (.row [(.call 2 0 [(.lit (.s ⟨#[103]⟩)), (.row [(.call 1 0 [(.lit (.i 0))])])]), (.call 1 0 [(.lit (.i 0))])])]), (.lit (.r []))])]) (.lit (.i 0))) (.eq (.call 3 0 [(.call 3 3 [(.call 0 0 [(.lit (.i 10))]), (.call 2 0 [(.lit (.s ⟨#[102]⟩)), (.row [(.call 2 0 [(.lit (.s ⟨#[103]⟩)), (.row [(.call 1 0 [(.lit (.i 0))])])]), (.call 1 0 [(.lit (.i 0))])])]), (.lit (.r []))]), (.call 1 0 [(.lit (.i 1))]), (.call 3 1 [(.call 0 0 [(.lit (.i 10))]), (.call 2 0 [(.lit (.s ⟨#[102]⟩)), (.row [(.call 2 0 [(.lit (.s ⟨#[103]⟩)), (.row [(.call 1 0 [(.lit (.i 0))])])]), (.call 1 0 [(.lit (.i 0))])])]), (.lit (.r []))])]) (.call 5 0 [(.lit (.i 5))]))) (.call 6 0 [(.call 3 1 [(.call 3 3 [(.call 0 0 [(.lit (.i 10))]), (.call 2 0 [(.lit (.s ⟨#[102]⟩)), (.row [(.call 2 0 [(.lit (.s ⟨#[103]⟩)), (.row [(.call 1 0 [(.lit (.i 0))])])]), (.call 1 0 [(.lit (.i 0))])])]), (.lit (.r []))]), (.call 1 0 [(.lit (.i 1))]), (.call 3 1 [(.call 0 0 [(.lit (.i 10))]), (.call 2 0 [(.lit (.s ⟨#[102]⟩)), (.row [(.call 2 0 [(.lit (.s ⟨#[103]⟩)), (.row [(.call 1 0 [(.lit (.i 0))])])]), (.call 1 0 [(.lit (.i 0))])])]), (.lit (.r []))])]), (.row [(.mk [(.lit (.i 0)), (.call 5 0 [(.lit (.i 4))])]), (.mk [(.lit (.i 1)), (.call 5 0 [(.lit (.i 5))])])])])) (.eq (.call 7 1 [(.call 3 3 [(.call 3 3 [(.call 0 0 [(.lit (.i 10))]), (.call 2 0 [(.lit (.s ⟨#[102]⟩)), (.row [(.call 2 0 [(.lit (.s ⟨#[103]⟩)), (.row [(.call 1 0 [(.lit (.i 0))])])]), (.call 1 0 [(.lit (.i 0))])])]), (.lit (.r []))]), (.call 1 0 [(.lit (.i 1))]), (.call 3 1 [(.call 0 0 [(.lit (.i 10))]), (.call 2 0 [(.lit (.s ⟨#[102]⟩)), (.row [(.call 2 0 [(.lit (.s ⟨#[103]⟩)), (.row [(.call 1 0 [(.lit (.i 0))])])]), (.call 1 0 [(.lit (.i 0))])])]), (.lit (.r []))])]), (.call 4 0 [(.lit (.i 0))])]) (.lit (.i 0)))) (.call 8 0 [(.call 7 0 [(.call 3 3 [(.call 3 3 [(.call 0 0 [(.lit (.i 10))]), (.call 2 0 [(.lit (.s ⟨#[102]⟩)), (.row [(.call 2 0 [(.lit (.s ⟨#[103]⟩)), (.row [(.call 1 0 [(.lit (.i 0))])])]), (.call 1 0 [(.lit (.i 0))])])]), (.lit (.r []))]), (.call 1 0 [(.lit (.i 1))]), (.call 3 1 [(.call 0 0 [(.lit (.i 10))]), (.call 2 0 [(.lit (.s ⟨#[102]⟩)), (.row [(.call 2 0 [(.lit (.s ⟨#[103]⟩)), (.row [(.call 1 0 [(.lit (.i 0))])])]), (.call 1 0 [(.lit (.i 0))])])]), (.lit (.r []))])]), (.call 4 0 [(.lit (.i 0))])]), (.call 2 0 [(.lit (.s ⟨#[102]⟩)), (.row [(.call 2 0 [(.lit (.s ⟨#[103]⟩)), (.row [(.call 1 0 [(.lit (.i 4))])])]), (.call 1 0 [(.lit (.i 4))])])])])) (.eq (.call 9 0 [(.call 3 3 [(.call 3 3 [(.call 0 0 [(.lit (.i 10))]), (.call 2 0 [(.lit (.s ⟨#[102]⟩)), (.row [(.call 2 0 [(.lit (.s ⟨#[103]⟩)), (.row [(.call 1 0 [(.lit (.i 0))])])]), (.call 1 0 [(.lit (.i 0))])])]), (.lit (.r []))]), (.call 1 0 [(.lit (.i 1))]), (.call 3 1 [(.call 0 0 [(.lit (.i 10))]), (.call 2 0 [(.lit (.s ⟨#[102]⟩)), (.row [(.call 2 0 [(.lit (.s ⟨#[103]⟩)), (.row [(.call 1 0 [(.lit (.i 0))])])]), (.call 1 0 [(.lit (.i 0))])])]), (.lit (.r []))])]), (.call 5 0 [(.lit (.i 2))])]) (.call 5 0 [(.lit (.i 4))]))) (.eq (.call 9 0 [(.call 3 3 [(.call 3 3 [(.call 0 0 [(.lit (.i 10))]), (.call 2 0 [(.lit (.s ⟨#[102]⟩)), (.row [(.call 2 0 [(.lit (.s ⟨#[103]⟩)), (.row [(.call 1 0 [(.lit (.i 0))])])]), (.call 1 0 [(.lit (.i 0))])])]), (.lit (.r []))]), (.call 1 0 [(.lit (.i 1))]), (.call 3 1 [(.call 0 0 [(.lit (.i 10))]), (.call 2 0 [(.lit (.s ⟨#[102]⟩)), (.row [(.call 2 0 [(.lit (.s ⟨#[103]⟩)), (.row [(.call 1 0 [(.lit (.i 0))])])]), (.call 1 0 [(.lit (.i 0))])])]), (.lit (.r []))])]), (.call 5 0 [(.lit (.i 1))])]) (.call 4 0 [(.lit (.i 3))]))) (.lt (.lit (.i 1)) (.len (.fld (.call 3 3 [(.call 3 3 [(.call 0 0 [(.lit (.i 10))]), (.call 2 0 [(.lit (.s ⟨#[102]⟩)), (.row [(.call 2 0 [(.lit (.s ⟨#[103]⟩)), (.row [(.call 1 0 [(.lit (.i 0))])])]), (.call 1 0 [(.lit (.i 0))])])]), (.lit (.r []))]), (.call 1 0 [(.lit (.i 1))]), (.call 3 1 [(.call 0 0 [(.lit (.i 10))]), (.call 2 0 [(.lit (.s ⟨#[102]⟩)), (.row [(.call 2 0 [(.lit (.s ⟨#[103]⟩)), (.row [(.call 1 0 [(.lit (.i 0))])])]), (.call 1 0 [(.lit (.i 0))])])]), (.lit (.r []))])]) 1)))), (.imp (.and (.and (.and (.and (.and (.and (.eq (.call 3 2 [(.call 3 3 [(.call 0 0 [(.lit (.i 10))]), (.call 2 0 [(.lit (.s ⟨#[102]⟩)), (.row [(.call 2 0 [(.lit (.s ⟨#[103]⟩)), (.row [(.call 1 0 [(.lit (.i 0))])])]), (.call 1 0 [(.lit (.i 0))])])]), (.lit (.r []))]), (.call 1 0 [(.lit (.i 1))]), (.call 3 1 [(.call 0 0 [(.lit (.i 10))]), (.call 2 0 [(.lit (.s ⟨#[102]⟩)), (.row [(.call 2 0 [(.lit (.s ⟨#[103]⟩)), (.row [(.call 1 0 [(.lit (.i 0))])])]), (.call 1 0 [(.lit (.i 0))])])]), (.lit (.r []))])]) (.lit (.i 0))) (.eq (.call 3 0 [(.call 3 3 [(.call 0 0 [(.lit (.i 10))]), (.call 2 0 [(.lit (.s ⟨#[102]⟩)), (.row [(.call 2 0 [(.lit (.s ⟨#[103]⟩)), (.row [(.call 1 0 [(.lit (.i 0))])])]), (.call 1 0 [(.lit (.i 0))])])]), (.lit (.r []))]), (.call 1 0 [(.lit (.i 1))]), (.call 3 1 [(.call 0 0 [(.lit (.i 10))]), (.call 2 0 [(.lit (.s ⟨#[102]⟩)), (.row [(.call 2 0 [(.lit (.s ⟨#[103]⟩)), (.row [(.call 1 0 [(.lit (.i 0))])])]), (.call 1 0 [(.lit (.i 0))])])]), (.lit (.r []))])]) (.call 5 0 [(.lit (.i 5))]))) (.call 6 0 [(.call 3 1 [(.call 3 3 [(.call 0 0 [(.lit (.i 10))]), (.call 2 0 [(.lit (.s ⟨#[102]⟩)), (.row [(.call 2 0 [(.lit (.s ⟨#[103]⟩)), (.row [(.call 1 0 [(.lit (.i 0))])])]), (.call 1 0 [(.lit (.i 0))])])]), (.lit (.r []))]), (.call 1 0 [(.lit (.i 1))]), (.call 3 1 [(.call 0 0 [(.lit (.i 10))]), (.call 2 0 [(.lit (.s ⟨#[102]⟩)), (.row [(.call 2 0 [(.lit (.s ⟨#[103]⟩)), (.row [(.call 1 0 [(.lit (.i 0))])])]), (.call 1 0 [(.lit (.i 0))])])]), (.lit (.r []))])]), (.row [(.mk [(.lit (.i 0)), (.call 5 0 [(.lit (.i 4))])]), (.mk [(.lit (.i 1)), (.call 5 0 [(.lit (.i 5))])])])])) (.eq (.call 7 1 [(.call 3 3 [(.call 3 3 [(.call 0 0 [(.lit (.i 10))]), (.call 2 0 [(.lit (.s ⟨#[102]⟩)), (.row [(.call 2 0 [(.lit (.s ⟨#[103]⟩)), (.row [(.call 1 0 [(.lit (.i 0))])])]), (.call 1 0 [(.lit (.i 0))])])]), (.lit (.r []))]), (.call 1 0 [(.lit (.i 1))]), (.call 3 1 [(.call 0 0 [(.lit (.i 10))]), (.call 2 0 [(.lit (.s ⟨#[102]⟩)), (.row [(.call 2 0 [(.lit (.s ⟨#[103]⟩)), (.row [(.call 1 0 [(.lit (.i 0))])])]), (.call 1 0 [(.lit (.i 0))])])]), (.lit (.r []))])]), (.call 4 0 [(.lit (.i 0))])]) (.lit (.i 0)))) (.call 8 0 [(.call 7 0 [(.call 3 3 [(.call 3 3 [(.call 0 0 [(.lit (.i 10))]), (.call 2 0 [(.lit (.s ⟨#[102]⟩)), (.row [(.call 2 0 [(.lit (.s ⟨#[103]⟩)), (.row [(.call 1 0 [(.lit (.i 0))])])]), (.call 1 0 [(.lit (.i 0))])])]), (.lit (.r []))]), (.call 1 0 [(.lit (.i 1))]), (.call 3 1 [(.call 0 0 [(.lit (.i 10))]), (.call 2 0 [(.lit (.s ⟨#[102]⟩)), (.row [(.call 2 0 [(.lit (.s ⟨#[103]⟩)), (.row [(.call 1 0 [(.lit (.i 0))])])]), (.call 1 0 [(.lit (.i 0))])])]), (.lit (.r []))])]), (.call 4 0 [(.lit (.i 0))])]), (.call 2 0 [(.lit (.s ⟨#[102]⟩)), (.row [(.call 2 0 [(.lit (.s ⟨#[103]⟩)), (.row [(.call 1 0 [(.lit (.i 4))])])]), (.call 1 0 [(.lit (.i 4))])])])])) (.eq (.call 9 0 [(.call 3 3 [(.call 3 3 [(.call 0 0 [(.lit (.i 10))]), (.call 2 0 [(.lit (.s ⟨#[102]⟩)), (.row [(.call 2 0 [(.lit (.s ⟨#[103]⟩)), (.row [(.call 1 0 [(.lit (.i 0))])])]), (.call 1 0 [(.lit (.i 0))])])]), (.lit (.r []))]), (.call 1 0 [(.lit (.i 1))]), (.call 3 1 [(.call 0 0 [(.lit (.i 10))]), (.call 2 0 [(.lit (.s ⟨#[102]⟩)), (.row [(.call 2 0 [(.lit (.s ⟨#[103]⟩)), (.row [(.call 1 0 [(.lit (.i 0))])])]), (.call 1 0 [(.lit (.i 0))])])]), (.lit (.r []))])]), (.call 5 0 [(.lit (.i 2))])]) (.call 5 0 [(.lit (.i 4))]))) (.eq (.call 9 0 [(.call 3 3 [(.call 3 3 [(.call 0 0 [(.lit (.i 10))]), (.call 2 0 [(.lit (.s ⟨#[102]⟩)), (.row [(.call 2 0 [(.lit (.s ⟨#[103]⟩)), (.row [(.call 1 0 [(.lit (.i 0))])])]), (.call 1 0 [(.lit (.i 0))])])]), (.lit (.r []))]), (.call 1 0 [(.lit (.i 1))]), (.call 3 1 [(.call 0 0 [(.lit (.i 10))]), (.call 2 0 [(.lit (.s ⟨#[102]⟩)), (.row [(.call 2 0 [(.lit (.s ⟨#[103]⟩)), (.row [(.call 1 0 [(.lit (.i 0))])])]), (.call 1 0 [(.lit (.i 0))])])]), (.lit (.r []))])]), (.call 5 0 [(.lit (.i 1))])]) (.call 4 0 [(.lit (.i 3))]))) (.lit (.b .true))), (.imp (.and (.and (.and (.and (.and (.and (.eq (.call 3 2 [(.call 3 3 [(.call 0 0 [(.lit (.i 10))]), (.call 2 0 [(.lit (.s ⟨#[102]⟩)), (.row [(.call 2 0 [(.lit (.s ⟨#[103]⟩)), (.row [(.call 1 0 [(.lit (.i 0))])])]), (.call 1 0 [(.lit (.i 0))])])]), (.lit (.r []))]), (.call 1 0 [(.lit (.i 1))]), (.call 3 1 [(.call 0 0 [(.lit (.i 10))]), (.call 2 0 [(.lit (.s ⟨#[102]⟩)), (.row [(.call 2 0 [(.lit (.s ⟨#[103]⟩)), (.row [(.call 1 0 [(.lit (.i 0))])])]), (.call 1 0 [(.lit (.i 0))])])]), (.lit (.r []))])]) (.lit (.i 0))) (.eq (.call 3 0 [(.call 3 3 [(.call 0 0 [(.lit (.i 10))]), (.call 2 0 [(.lit (.s ⟨#[102]⟩)), (.row [(.call 2 0 [(.lit (.s ⟨#[103]⟩)), (.row [(.call 1 0 [(.lit (.i 0))])])]), (.call 1 0 [(.lit (.i 0))])])]), (.lit (.r []))]), (.call 1 0 [(.lit (.i 1))]), (.call 3 1 [(.call 0 0 [(.lit (.i 10))]), (.call 2 0 [(.lit (.s ⟨#[102]⟩)), (.row [(.call 2 0 [(.lit (.s ⟨#[103]⟩)), (.row [(.call 1 0 [(.lit (.i 0))])])]), (.call 1 0 [(.lit (.i 0))])])]), (.lit (.r []))])]) (.call 5 0 [(.lit (.i 5))]))) (.call 6 0 [(.call 3 1 [(.call 3 3 [(.call 0 0 [(.lit (.i 10))]), (.call 2 0 [(.lit (.s ⟨#[102]⟩)), (.row [(.call 2 0 [(.lit (.s ⟨#[103]⟩)), (.row [(.call 1 0 [(.lit (.i 0))])])]), (.call 1 0 [(.lit (.i 0))])])]), (.lit (.r []))]), (.call 1 0 [(.lit (.i 1))]), (.call 3 1 [(.call 0 0 [(.lit (.i 10))]), (.call 2 0 [(.lit (.s ⟨#[102]⟩)), (.row [(.call 2 0 [(.lit (.s ⟨#[103]⟩)), (.row [(.call 1 0 [(.lit (.i 0))])])]), (.call 1 0 [(.lit (.i 0))])])]), (.lit (.r []))])]), (.row [(.mk [(.lit (.i 0)), (.call 5 0 [(.lit (.i 4))])]), (.mk [(.lit (.i 1)), (.call 5 0 [(.lit (.i 5))])])])])) (.eq (.call 7 1 [(.call 3 3 [(.call 3 3 [(.call 0 0 [(.lit (.i 10))]), (.call 2 0 [(.lit (.s ⟨#[102]⟩)), (.row [(.call 2 0 [(.lit (.s ⟨#[103]⟩)), (.row [(.call 1 0 [(.lit (.i 0))])])]), (.call 1 0 [(.lit (.i 0))])])]), (.lit (.r []))]), (.call 1 0 [(.lit (.i 1))]), (.call 3 1 [(.call 0 0 [(.lit (.i 10))]), (.call 2 0 [(.lit (.s ⟨#[102]⟩)), (.row [(.call 2 0 [(.lit (.s ⟨#[103]⟩)), (.row [(.call 1 0 [(.lit (.i 0))])])]), (.call 1 0 [(.lit (.i 0))])])]), (.lit (.r []))])]), (.call 4 0 [(.lit (.i 0))])]) (.lit (.i 0)))) (.call 8 0 [(.call 7 0 [(.call 3 3 [(.call 3 3 [(.call 0 0 [(.lit (.i 10))]), (.call 2 0 [(.lit (.s ⟨#[102]⟩)), (.row [(.call 2 0 [(.lit (.s ⟨#[103]⟩)), (.row [(.call 1 0 [(.lit (.i 0))])])]), (.call 1 0 [(.lit (.i 0))])])]), (.lit (.r []))]), (.call 1 0 [(.lit (.i 1))]), (.call 3 1 [(.call 0 0 [(.lit (.i 10))]), (.call 2 0 [(.lit (.s ⟨#[102]⟩)), (.row [(.call 2 0 [(.lit (.s ⟨#[103]⟩)), (.row [(.call 1 0 [(.lit (.i 0))])])]), (.call 1 0 [(.lit (.i 0))])])]), (.lit (.r []))])]), (.call 4 0 [(.lit (.i 0))])]), (.call 2 0 [(.lit (.s ⟨#[102]⟩)), (.row [(.call 2 0 [(.lit (.s ⟨#[103]⟩)), (.row [(.call 1 0 [(.lit (.i 4))])])]), (.call 1 0 [(.lit (.i 4))])])])])) (.eq (.call 9 0 [(.call 3 3 [(.call 3 3 [(.call 0 0 [(.lit (.i 10))]), (.call 2 0 [(.lit (.s ⟨#[102]⟩)), (.row [(.call 2 0 [(.lit (.s ⟨#[103]⟩)), (.row [(.call 1 0 [(.lit (.i 0))])])]), (.call 1 0 [(.lit (.i 0))])])]), (.lit (.r []))]), (.call 1 0 [(.lit (.i 1))]), (.call 3 1 [(.call 0 0 [(.lit (.i 10))]), (.call 2 0 [(.lit (.s ⟨#[102]⟩)), (.row [(.call 2 0 [(.lit (.s ⟨#[103]⟩)), (.row [(.call 1 0 [(.lit (.i 0))])])]), (.call 1 0 [(.lit (.i 0))])])]), (.lit (.r []))])]), (.call 5 0 [(.lit (.i 2))])]) (.call 5 0 [(.lit (.i 4))]))) (.eq (.call 9 0 [(.call 3 3 [(.call 3 3 [(.call 0 0 [(.lit (.i 10))]), (.call 2 0 [(.lit (.s ⟨#[102]⟩)), (.row [(.call 2 0 [(.lit (.s ⟨#[103]⟩)), (.row [(.call 1 0 [(.lit (.i 0))])])]), (.call 1 0 [(.lit (.i 0))])])]), (.lit (.r []))]), (.call 1 0 [(.lit (.i 1))]), (.call 3 1 [(.call 0 0 [(.lit (.i 10))]), (.call 2 0 [(.lit (.s ⟨#[102]⟩)), (.row [(.call 2 0 [(.lit (.s ⟨#[103]⟩)), (.row [(.call 1 0 [(.lit (.i 0))])])]), (.call 1 0 [(.lit (.i 0))])])]), (.lit (.r []))])]), (.call 5 0 [(.lit (.i 1))])]) (.call 4 0 [(.lit (.i 3))]))) (.lt (.lit (.i 1)) (.len (.fld (.call 3 3 [(.call 3 3 [(.call 0 0 [(.lit (.i 10))]), (.call 2 0 [(.lit (.s ⟨#[102]⟩)), (.row [(.call 2 0 [(.lit (.s ⟨#[103]⟩)), (.row [(.call 1 0 [(.lit (.i 0))])])]), (.call 1 0 [(.lit (.i 0))])])]), (.lit (.r []))]), (.call 1 0 [(.lit (.i 1))]), (.call 3 1 [(.call 0 0 [(.lit (.i 10))]), (.call 2 0 [(.lit (.s ⟨#[102]⟩)), (.row [(.call 2 0 [(.lit (.s ⟨#[103]⟩)), (.row [(.call 1 0 [(.lit (.i 0))])])]), (.call 1 0 [(.lit (.i 0))])])]), (.lit (.r []))])]) 1)))), (.imp (.and (.and (.and (.and (.and (.eq (.call 3 2 [(.call 3 3 [(.call 0 0 [(.lit (.i 10))]), (.call 2 0 [(.lit (.s ⟨#[102]⟩)), (.row [(.call 2 0 [(.lit (.s ⟨#[103]⟩)), (.row [(.call 1 0 [(.lit (.i 0))])])]), (.call 1 0 [(.lit (.i 0))])])]), (.lit (.r []))]), (.call 1 0 [(.lit (.i 1))]), (.call 3 1 [(.call 0 0 [(.lit (.i 10))]), (.call 2 0 [(.lit (.s ⟨#[102]⟩)), (.row [(.call 2 0 [(.lit (.s ⟨#[103]⟩)), (.row [(.call 1 0 [(.lit (.i 0))])])]), (.call 1 0 [(.lit (.i 0))])])]), (.lit (.r []))])]) (.lit (.i 0))) (.eq (.call 3 0 [(.call 3 3 [(.call 0 0 [(.lit (.i 10))]), (.call 2 0 [(.lit (.s ⟨#[102]⟩)), (.row [(.call 2 0 [(.lit (.s ⟨#[103]⟩)), (.row [(.call 1 0 [(.lit (.i 0))])])]), (.call 1 0 [(.lit (.i 0))])])]), (.lit (.r []))]), (.call 1 0 [(.lit (.i 1))]), (.call 3 1 [(.call 0 0 [(.lit (.i 10))]), (.call 2 0 [(.lit (.s ⟨#[102]⟩)), (.row [(.call 2 0 [(.lit (.s ⟨#[103]⟩)), (.row [(.call 1 0 [(.lit (.i 0))])])]), (.call 1 0 [(.lit (.i 0))])])]), (.lit (.r []))])]) (.call 5 0 [(.lit (.i 5))]))) (.call 6 0 [(.call 3 1 [(.call 3 3 [(.call 0 0 [(.lit (.i 10))]), (.call 2 0 [(.lit (.s ⟨#[102]⟩)), (.row [(.call 2 0 [(.lit (.s ⟨#[103]⟩)), (.row [(.call 1 0 [(.lit (.i 0))])])]), (.call 1 0 [(.lit (.i 0))])])]), (.lit (.r []))]), (.call 1 0 [(.lit (.i 1))]), (.call 3 1 [(.call 0 0 [(.lit (.i 10))]), (.call 2 0 [(.lit (.s ⟨#[102]⟩)), (.row [(.call 2 0 [(.lit (.s ⟨#[103]⟩)), (.row [(.call 1 0 [(.lit (.i 0))])])]), (.call 1 0 [(.lit (.i 0))])])]), (.lit (.r []))])]), (.row [(.mk [(.lit (.i 0)), (.call 5 0 [(.lit (.i 4))])]), (.mk [(.lit (.i 1)), (.call 5 0 [(.lit (.i 5))])])])])) (.eq (.call 7 1 [(.call 3 3 [(.call 3 3 [(.call 0 0 [(.lit (.i 10))]), (.call 2 0 [(.lit (.s ⟨#[102]⟩)), (.row [(.call 2 0 [(.lit (.s ⟨#[103]⟩)), (.row [(.call 1 0 [(.lit (.i 0))])])]), (.call 1 0 [(.lit (.i 0))])])]), (.lit (.r []))]), (.call 1 0 [(.lit (.i 1))]), (.call 3 1 [(.call 0 0 [(.lit (.i 10))]), (.call 2 0 [(.lit (.s ⟨#[102]⟩)), (.row [(.call 2 0 [(.lit (.s ⟨#[103]⟩)), (.row [(.call 1 0 [(.lit (.i 0))])])]), (.call 1 0 [(.lit (.i 0))])])]), (.lit (.r []))])]), (.call 4 0 [(.lit (.i 0))])]) (.lit (.i 0)))) (.call 8 0 [(.call 7 0 [(.call 3 3 [(.call 3 3 [(.call 0 0 [(.lit (.i 10))]), (.call 2 0 [(.lit (.s ⟨#[102]⟩)), (.row [(.call 2 0 [(.lit (.s ⟨#[103]⟩)), (.row [(.call 1 0 [(.lit (.i 0))])])]), (.call 1 0 [(.lit (.i 0))])])]), (.lit (.r []))]), (.call 1 0 [(.lit (.i 1))]), (.call 3 1 [(.call 0 0 [(.lit (.i 10))]), (.call 2 0 [(.lit (.s ⟨#[102]⟩)), (.row [(.call 2 0 [(.lit (.s ⟨#[103]⟩)), (.row [(.call 1 0 [(.lit (.i 0))])])]), (.call 1 0 [(.lit (.i 0))])])]), (.lit (.r []))])]), (.call 4 0 [(.lit (.i 0))])]), (.call 2 0 [(.lit (.s ⟨#[102]⟩)), (.row [(.call 2 0 [(.lit (.s ⟨#[103]⟩)), (.row [(.call 1 0 [(.lit (.i 4))])])]), (.call 1 0 [(.lit (.i 4))])])])])) (.eq (.call 9 0 [(.call 3 3 [(.call 3 3 [(.call 0 0 [(.lit (.i 10))]), (.call 2 0 [(.lit (.s ⟨#[102]⟩)), (.row [(.call 2 0 [(.lit (.s ⟨#[103]⟩)), (.row [(.call 1 0 [(.lit (.i 0))])])]), (.call 1 0 [(.lit (.i 0))])])]), (.lit (.r []))]), (.call 1 0 [(.lit (.i 1))]), (.call 3 1 [(.call 0 0 [(.lit (.i 10))]), (.call 2 0 [(.lit (.s ⟨#[102]⟩)), (.row [(.call 2 0 [(.lit (.s ⟨#[103]⟩)), (.row [(.call 1 0 [(.lit (.i 0))])])]), (.call 1 0 [(.lit (.i 0))])])]), (.lit (.r []))])]), (.call 5 0 [(.lit (.i 2))])]) (.call 5 0 [(.lit (.i 4))]))) (.ok 4 [(.lit (.i 3))])), (.imp (.and (.and (.and (.and (.and (.eq (.call 3 2 [(.call 3 3 [(.call 0 0 [(.lit (.i 10))]), (.call 2 0 [(.lit (.s ⟨#[102]⟩)), (.row [(.call 2 0 [(.lit (.s ⟨#[103]⟩)), (.row [(.call 1 0 [(.lit (.i 0))])])]), (.call 1 0 [(.lit (.i 0))])])]), (.lit (.r []))]), (.call 1 0 [(.lit (.i 1))]), (.call 3 1 [(.call 0 0 [(.lit (.i 10))]), (.call 2 0 [(.lit (.s ⟨#[102]⟩)), (.row [(.call 2 0 [(.lit (.s ⟨#[103]⟩)), (.row [(.call 1 0 [(.lit (.i 0))])])]), (.call 1 0 [(.lit (.i 0))])])]), (.lit (.r []))])]) (.lit (.i 0))) (.eq (.call 3 0 [(.call 3 3 [(.call 0 0 [(.lit (.i 10))]), (.call 2 0 [(.lit (.s ⟨#[102]⟩)), (.row [(.call 2 0 [(.lit (.s ⟨#[103]⟩)), (.row [(.call 1 0 [(.lit (.i 0))])])]), (.call 1 0 [(.lit (.i 0))])])]), (.lit (.r []))]), (.call 1 0 [(.lit (.i 1))]), (.call 3 1 [(.call 0 0 [(.lit (.i 10))]), (.call 2 0 [(.lit (.s ⟨#[102]⟩)), (.row [(.call 2 0 [(.lit (.s ⟨#[103]⟩)), (.row [(.call 1 0 [(.lit (.i 0))])])]), (.call 1 0 [(.lit (.i 0))])])]), (.lit (.r []))])]) (.call 5 0 [(.lit (.i 5))]))) (.call 6 0 [(.call 3 1 [(.call 3 3 [(.call 0 0 [(.lit (.i 10))]), (.call 2 0 [(.lit (.s ⟨#[102]⟩)), (.row [(.call 2 0 [(.lit (.s ⟨#[103]⟩)), (.row [(.call 1 0 [(.lit (.i 0))])])]), (.call 1 0 [(.lit (.i 0))])])]), (.lit (.r []))]), (.call 1 0 [(.lit (.i 1))]), (.call 3 1 [(.call 0 0 [(.lit (.i 10))]), (.call 2 0 [(.lit (.s ⟨#[102]⟩)), (.row [(.call 2 0 [(.lit (.s ⟨#[103]⟩)), (.row [(.call 1 0 [(.lit (.i 0))])])]), (.call 1 0 [(.lit (.i 0))])])]), (.lit (.r []))])]), (.row [(.mk [(.lit (.i 0)), (.call 5 0 [(.lit (.i 4))])]), (.mk [(.lit (.i 1)), (.call 5 0 [(.lit (.i 5))])])])])) (.eq (.call 7 1 [(.call 3 3 [(.call 3 3 [(.call 0 0 [(.lit (.i 10))]), (.call 2 0 [(.lit (.s ⟨#[102]⟩)), (.row [(.call 2 0 [(.lit (.s ⟨#[103]⟩)), (.row [(.call 1 0 [(.lit (.i 0))])])]), (.call 1 0 [(.lit (.i 0))])])]), (.lit (.r []))]), (.call 1 0 [(.lit (.i 1))]), (.call 3 1 [(.call 0 0 [(.lit (.i 10))]), (.call 2 0 [(.lit (.s ⟨#[102]⟩)), (.row [(.call 2 0 [(.lit (.s ⟨#[103]⟩)), (.row [(.call 1 0 [(.lit (.i 0))])])]), (.call 1 0 [(.lit (.i 0))])])]), (.lit (.r []))])]), (.call 4 0 [(.lit (.i 0))])]) (.lit (.i 0)))) (.call 8 0 [(.call 7 0 [(.call 3 3 [(.call 3 3 [(.call 0 0 [(.lit (.i 10))]), (.call 2 0 [(.lit (.s ⟨#[102]⟩)), (.row [(.call 2 0 [(.lit (.s ⟨#[103]⟩)), (.row [(.call 1 0 [(.lit (.i 0))])])]), (.call 1 0 [(.lit (.i 0))])])]), (.lit (.r []))]), (.call 1 0 [(.lit (.i 1))]), (.call 3 1 [(.call 0 0 [(.lit (.i 10))]), (.call 2 0 [(.lit (.s ⟨#[102]⟩)), (.row [(.call 2 0 [(.lit (.s ⟨#[103]⟩)), (.row [(.call 1 0 [(.lit (.i 0))])])]), (.call 1 0 [(.lit (.i 0))])])]), (.lit (.r []))])]), (.call 4 0 [(.lit (.i 0))])]), (.call 2 0 [(.lit (.s ⟨#[102]⟩)), (.row [(.call 2 0 [(.lit (.s ⟨#[103]⟩)), (.row [(.call 1 0 [(.lit (.i 4))])])]), (.call 1 0 [(.lit (.i 4))])])])])) (.eq (.call 9 0 [(.call 3 3 [(.call 3 3 [(.call 0 0 [(.lit (.i 10))]), (.call 2 0 [(.lit (.s ⟨#[102]⟩)), (.row [(.call 2 0 [(.lit (.s ⟨#[103]⟩)), (.row [(.call 1 0 [(.lit (.i 0))])])]), (.call 1 0 [(.lit (.i 0))])])]), (.lit (.r []))]), (.call 1 0 [(.lit (.i 1))]), (.call 3 1 [(.call 0 0 [(.lit (.i 10))]), (.call 2 0 [(.lit (.s ⟨#[102]⟩)), (.row [(.call 2 0 [(.lit (.s ⟨#[103]⟩)), (.row [(.call 1 0 [(.lit (.i 0))])])]), (.call 1 0 [(.lit (.i 0))])])]), (.lit (.r []))])]), (.call 5 0 [(.lit (.i 2))])]) (.call 5 0 [(.lit (.i 4))]))) (.ok 9 [(.call 3 3 [(.call 3 3 [(.call 0 0 [(.lit (.i 10))]), (.call 2 0 [(.lit (.s ⟨#[102]⟩)), (.row [(.call 2 0 [(.lit (.s ⟨#[103]⟩)), (.row [(.call 1 0 [(.lit (.i 0))])])]), (.call 1 0 [(.lit (.i 0))])])]), (.lit (.r []))]), (.call 1 0 [(.lit (.i 1))]), (.call 3 1 [(.call 0 0 [(.lit (.i 10))]), (.call 2 0 [(.lit (.s ⟨#[102]⟩)), (.row [(.call 2 0 [(.lit (.s ⟨#[103]⟩)), (.row [(.call 1 0 [(.lit (.i 0))])])]), (.call 1 0 [(.lit (.i 0))])])]), (.lit (.r []))])]), (.call 5 0 [(.lit (.i 1))])])), (.imp (.and (.and (.and (.and (.and (.eq (.call 3 2 [(.call 3 3 [(.call 0 0 [(.lit (.i 10))]), (.call 2 0 [(.lit (.s ⟨#[102]⟩)), (.row [(.call 2 0 [(.lit (.s ⟨#[103]⟩)), (.row [(.call 1 0 [(.lit (.i 0))])])]), (.call 1 0 [(.lit (.i 0))])])]), (.lit (.r []))]), (.call 1 0 [(.lit (.i 1))]), (.call 3 1 [(.call 0 0 [(.lit (.i 10))]), (.call 2 0 [(.lit (.s ⟨#[102]⟩)), (.row [(.call 2 0 [(.lit (.s ⟨#[103]⟩)), (.row [(.call 1 0 [(.lit (.i 0))])])]), (.call 1 0 [(.lit (.i 0))])])]), (.lit (.r []))])]) (.lit (.i 0))) (.eq (.call 3 0 [(.call 3 3 [(.call 0 0 [(.lit (.i 10))]), (.call 2 0 [(.lit (.s ⟨#[102]⟩)), (.row [(.call 2 0 [(.lit (.s ⟨#[103]⟩)), (.row [(.call 1 0 [(.lit (.i 0))])])]), (.call 1 0 [(.lit (.i 0))])])]), (.lit (.r []))]), (.call 1 0 [(.lit (.i 1))]), (.call 3 1 [(.call 0 0 [(.lit (.i 10))]), (.call 2 0 [(.lit (.s ⟨#[102]⟩)), (.row [(.call 2 0 [(.lit (.s ⟨#[103]⟩)), (.row [(.call 1 0 [(.lit (.i 0))])])]), (.call 1 0 [(.lit (.i 0))])])]), (.lit (.r []))])]) (.call 5 0 [(.lit (.i 5))]))) (.call 6 0 [(.call 3 1 [(.call 3 3 [(.call 0 0 [(.lit (.i 10))]), (.call 2 0 [(.lit (.s ⟨#[102]⟩)), (.row [(.call 2 0 [(.lit (.s ⟨#[103]⟩)), (.row [(.call 1 0 [(.lit (.i 0))])])]), (.call 1 0 [(.lit (.i 0))])])]), (.lit (.r []))]), (.call 1 0 [(.lit (.i 1))]), (.call 3 1 [(.call 0 0 [(.lit (.i 10))]), (.call 2 0 [(.lit (.s ⟨#[102]⟩)), (.row [(.call 2 0 [(.lit (.s ⟨#[103]⟩)), (.row [(.call 1 0 [(.lit (.i 0))])])]), (.call 1 0 [(.lit (.i 0))])])]), (.lit (.r []))])]), (.row [(.mk [(.lit (.i 0)), (.call 5 0 [(.lit (.i 4))])]), (.mk [(.lit (.i 1)), (.call 5 0 [(.lit (.i 5))])])])])) (.eq (.call 7 1 [(.call 3 3 [(.call 3 3 [(.call 0 0 [(.lit (.i 10))]), (.call 2 0 [(.lit (.s ⟨#[102]⟩)), (.row [(.call 2 0 [(.lit (.s ⟨#[103]⟩)), (.row [(.call 1 0 [(.lit (.i 0))])])]), (.call 1 0 [(.lit (.i 0))])])]), (.lit (.r []))]), (.call 1 0 [(.lit (.i 1))]), (.call 3 1 [(.call 0 0 [(.lit (.i 10))]), (.call 2 0 [(.lit (.s ⟨#[102]⟩)), (.row [(.call 2 0 [(.lit (.s ⟨#[103]⟩)), (.row [(.call 1 0 [(.lit (.i 0))])])]), (.call 1 0 [(.lit (.i 0))])])]), (.lit (.r []))])]), (.call 4 0 [(.lit (.i 0))])]) (.lit (.i 0)))) (.call 8 0 [(.call 7 0 [(.call 3 3 [(.call 3 3 [(.call 0 0 [(.lit (.i 10))]), (.call 2 0 [(.lit (.s ⟨#[102]⟩)), (.row [(.call 2 0 [(.lit (.s ⟨#[103]⟩)), (.row [(.call 1 0 [(.lit (.i 0))])])]), (.call 1 0 [(.lit (.i 0))])])]), (.lit (.r []))]), (.call 1 0 [(.lit (.i 1))]), (.call 3 1 [(.call 0 0 [(.lit (.i 10))]), (.call 2 0 [(.lit (.s ⟨#[102]⟩)), (.row [(.call 2 0 [(.lit (.s ⟨#[103]⟩)), (.row [(.call 1 0 [(.lit (.i 0))])])]), (.call 1 0 [(.lit (.i 0))])])]), (.lit (.r []))])]), (.call 4 0 [(.lit (.i 0))])]), (.call 2 0 [(.lit (.s ⟨#[102]⟩)), (.row [(.call 2 0 [(.lit (.s ⟨#[103]⟩)), (.row [(.call 1 0 [(.lit (.i 4))])])]), (.call 1 0 [(.lit (.i 4))])])])])) (.eq (.call 9 0 [(.call 3 3 [(.call 3 3 [(.call 0 0 [(.lit (.i 10))]), (.call 2 0 [(.lit (.s ⟨#[102]⟩)), (.row [(.call 2 0 [(.lit (.s ⟨#[103]⟩)), (.row [(.call 1 0 [(.lit (.i 0))])])]), (.call 1 0 [(.lit (.i 0))])])]), (.lit (.r []))]), (.call 1 0 [(.lit (.i 1))]), (.call 3 1 [(.call 0 0 [(.lit (.i 10))]), (.call 2 0 [(.lit (.s ⟨#[102]⟩)), (.row [(.call 2 0 [(.lit (.s ⟨#[103]⟩)), (.row [(.call 1 0 [(.lit (.i 0))])])]), (.call 1 0 [(.lit (.i 0))])])]), (.lit (.r []))])]), (.call 5 0 [(.lit (.i 2))])]) (.call 5 0 [(.lit (.i 4))]))) (.ok 5 [(.lit (.i 1))])), (.imp (.and (.and (.and (.and (.eq (.call 3 2 [(.call 3 3 [(.call 0 0 [(.lit (.i 10))]), (.call 2 0 [(.lit (.s ⟨#[102]⟩)), (.row [(.call 2 0 [(.lit (.s ⟨#[103]⟩)), (.row [(.call 1 0 [(.lit (.i 0))])])]), (.call 1 0 [(.lit (.i 0))])])]), (.lit (.r []))]), (.call 1 0 [(.lit (.i 1))]), (.call 3 1 [(.call 0 0 [(.lit (.i 10))]), (.call 2 0 [(.lit (.s ⟨#[102]⟩)), (.row [(.call 2 0 [(.lit (.s ⟨#[103]⟩)), (.row [(.call 1 0 [(.lit (.i 0))])])]), (.call 1 0 [(.lit (.i 0))])])]), (.lit (.r []))])]) (.lit (.i 0))) (.eq (.call 3 0 [(.call 3 3 [(.call 0 0 [(.lit (.i 10))]), (.call 2 0 [(.lit (.s ⟨#[102]⟩)), (.row [(.call 2 0 [(.lit (.s ⟨#[103]⟩)), (.row [(.call 1 0 [(.lit (.i 0))])])]), (.call 1 0 [(.lit (.i 0))])])]), (.lit (.r []))]), (.call 1 0 [(.lit (.i 1))]), (.call 3 1 [(.call 0 0 [(.lit (.i 10))]), (.call 2 0 [(.lit (.s ⟨#[102]⟩)), (.row [(.call 2 0 [(.lit (.s ⟨#[103]⟩)), (.row [(.call 1 0 [(.lit (.i 0))])])]), (.call 1 0 [(.lit (.i 0))])])]), (.lit (.r []))])]) (.call 5 0 [(.lit (.i 5))]))) (.call 6 0 [(.call 3 1 [(.call 3 3 [(.call 0 0 [(.lit (.i 10))]), (.call 2 0 [(.lit (.s ⟨#[102]⟩)), (.row [(.call 2 0 [(.lit (.s ⟨#[103]⟩)), (.row [(.call 1 0 [(.lit (.i 0))])])]), (.call 1 0 [(.lit (.i 0))])])]), (.lit (.r []))]), (.call 1 0 [(.lit (.i 1))]), (.call 3 1 [(.call 0 0 [(.lit (.i 10))]), (.call 2 0 [(.lit (.s ⟨#[102]⟩)), (.row [(.call 2 0 [(.lit (.s ⟨#[103]⟩)), (.row [(.call 1 0 [(.lit (.i 0))])])]), (.call 1 0 [(.lit (.i 0))])])]), (.lit (.r []))])]), (.row [(.mk [(.lit (.i 0)), (.call 5 0 [(.lit (.i 4))])]), (.mk [(.lit (.i 1)), (.call 5 0 [(.lit (.i 5))])])])])) (.eq (.call 7 1 [(.call 3 3 [(.call 3 3 [(.call 0 0 [(.lit (.i 10))]), (.call 2 0 [(.lit (.s ⟨#[102]⟩)), (.row [(.call 2 0 [(.lit (.s ⟨#[103]⟩)), (.row [(.call 1 0 [(.lit (.i 0))])])]), (.call 1 0 [(.lit (.i 0))])])]), (.lit (.r []))]), (.call 1 0 [(.lit (.i 1))]), (.call 3 1 [(.call 0 0 [(.lit (.i 10))]), (.call 2 0 [(.lit (.s ⟨#[102]⟩)), (.row [(.call 2 0 [(.lit (.s ⟨#[103]⟩)), (.row [(.call 1 0 [(.lit (.i 0))])])]), (.call 1 0 [(.lit (.i 0))])])]), (.lit (.r []))])]), (.call 4 0 [(.lit (.i 0))])]) (.lit (.i 0)))) (.call 8 0 [(.call 7 0 [(.call 3 3 [(.call 3 3 [(.call 0 0 [(.lit (.i 10))]), (.call 2 0 [(.lit (.s ⟨#[102]⟩)), (.row [(.call 2 0 [(.lit (.s ⟨#[103]⟩)), (.row [(.call 1 0 [(.lit (.i 0))])])]), (.call 1 0 [(.lit (.i 0))])])]), (.lit (.r []))]), (.call 1 0 [(.lit (.i 1))]), (.call 3 1 [(.call 0 0 [(.lit (.i 10))]), (.call 2 0 [(.lit (.s ⟨#[102]⟩)), (.row [(.call 2 0 [(.lit (.s ⟨#[103]⟩)), (.row [(.call 1 0 [(.lit (.i 0))])])]), (.call 1 0 [(.lit (.i 0))])])]), (.lit (.r []))])]), (.call 4 0 [(.lit (.i 0))])]), (.call 2 0 [(.lit (.s ⟨#[102]⟩)), (.row [(.call 2 0 [(.lit (.s ⟨#[103]⟩)), (.row [(.call 1 0 [(.lit (.i 4))])])]), (.call 1 0 [(.lit (.i 4))])])])])) (.ok 5 [(.lit (.i 4))])), (.imp (.and (.and (.and (.and (.eq (.call 3 2 [(.call 3 3 [(.call 0 0 [(.lit (.i 10))]), (.call 2 0 [(.lit (.s ⟨#[102]⟩)), (.row [(.call 2 0 [(.lit (.s ⟨#[103]⟩)), (.row [(.call 1 0 [(.lit (.i 0))])])]), (.call 1 0 [(.lit (.i 0))])])]), (.lit (.r []))]), (.call 1 0 [(.lit (.i 1))]), (.call 3 1 [(.call 0 0 [(.lit (.i 10))]), (.call 2 0 [(.lit (.s ⟨#[102]⟩)), (.row [(.call 2 0 [(.lit (.s ⟨#[103]⟩)), (.row [(.call 1 0 [(.lit (.i 0))])])]), (.call 1 0 [(.lit (.i 0))])])]), (.lit (.r []))])]) (.lit (.i 0))) (.eq (.call 3 0 [(.call 3 3 [(.call 0 0 [(.lit (.i 10))]), (.call 2 0 [(.lit (.s ⟨#[102]⟩)), (.row [(.call 2 0 [(.lit (.s ⟨#[103]⟩)), (.row [(.call 1 0 [(.lit (.i 0))])])]), (.call 1 0 [(.lit (.i 0))])])]), (.lit (.r []))]), (.call 1 0 [(.lit (.i 1))]), (.call 3 1 [(.call 0 0 [(.lit (.i 10))]), (.call 2 0 [(.lit (.s ⟨#[102]⟩)), (.row [(.call 2 0 [(.lit (.s ⟨#[103]⟩)), (.row [(.call 1 0 [(.lit (.i 0))])])]), (.call 1 0 [(.lit (.i 0))])])]), (.lit (.r []))])]) (.call 5 0 [(.lit (.i 5))]))) (.call 6 0 [(.call 3 1 [(.call 3 3 [(.call 0 0 [(.lit (.i 10))]), (.call 2 0 [(.lit (.s ⟨#[102]⟩)), (.row [(.call 2 0 [(.lit (.s ⟨#[103]⟩)), (.row [(.call 1 0 [(.lit (.i 0))])])]), (.call 1 0 [(.lit (.i 0))])])]), (.lit (.r []))]), (.call 1 0 [(.lit (.i 1))]), (.call 3 1 [(.call 0 0 [(.lit (.i 10))]), (.call 2 0 [(.lit (.s ⟨#[102]⟩)), (.row [(.call 2 0 [(.lit (.s ⟨#[103]⟩)), (.row [(.call 1 0 [(.lit (.i 0))])])]), (.call 1 0 [(.lit (.i 0))])])]), (.lit (.r []))])]), (.row [(.mk [(.lit (.i 0)), (.call 5 0 [(.lit (.i 4))])]), (.mk [(.lit (.i 1)), (.call 5 0 [(.lit (.i 5))])])])])) (.eq (.call 7 1 [(.call 3 3 [(.call 3 3 [(.call 0 0 [(.lit (.i 10))]), (.call 2 0 [(.lit (.s ⟨#[102]⟩)), (.row [(.call 2 0 [(.lit (.s ⟨#[103]⟩)), (.row [(.call 1 0 [(.lit (.i 0))])])]), (.call 1 0 [(.lit (.i 0))])])]), (.lit (.r []))]), (.call 1 0 [(.lit (.i 1))]), (.call 3 1 [(.call 0 0 [(.lit (.i 10))]), (.call 2 0 [(.lit (.s ⟨#[102]⟩)), (.row [(.call 2 0 [(.lit (.s ⟨#[103]⟩)), (.row [(.call 1 0 [(.lit (.i 0))])])]), (.call 1 0 [(.lit (.i 0))])])]), (.lit (.r []))])]), (.call 4 0 [(.lit (.i 0))])]) (.lit (.i 0)))) (.call 8 0 [(.call 7 0 [(.call 3 3 [(.call 3 3 [(.call 0 0 [(.lit (.i 10))]), (.call 2 0 [(.lit (.s ⟨#[102]⟩)), (.row [(.call 2 0 [(.lit (.s ⟨#[103]⟩)), (.row [(.call 1 0 [(.lit (.i 0))])])]), (.call 1 0 [(.lit (.i 0))])])]), (.lit (.r []))]), (.call 1 0 [(.lit (.i 1))]), (.call 3 1 [(.call 0 0 [(.lit (.i 10))]), (.call 2 0 [(.lit (.s ⟨#[102]⟩)), (.row [(.call 2 0 [(.lit (.s ⟨#[103]⟩)), (.row [(.call 1 0 [(.lit (.i 0))])])]), (.call 1 0 [(.lit (.i 0))])])]), (.lit (.r []))])]), (.call 4 0 [(.lit (.i 0))])]), (.call 2 0 [(.lit (.s ⟨#[102]⟩)), (.row [(.call 2 0 [(.lit (.s ⟨#[103]⟩)), (.row [(.call 1 0 [(.lit (.i 4))])])]), (.call 1 0 [(.lit (.i 4))])])])])) (.ok 9 [(.call 3 3 [(.call 3 3 [(.call 0 0 [(.lit (.i 10))]), (.call 2 0 [(.lit (.s ⟨#[102]⟩)), (.row [(.call 2 0 [(.lit (.s ⟨#[103]⟩)), (.row [(.call 1 0 [(.lit (.i 0))])])]), (.call 1 0 [(.lit (.i 0))])])]), (.lit (.r []))]), (.call 1 0 [(.lit (.i 1))]), (.call 3 1 [(.call 0 0 [(.lit (.i 10))]), (.call 2 0 [(.lit (.s ⟨#[102]⟩)), (.row [(.call 2 0 [(.lit (.s ⟨#[103]⟩)), (.row [(.call 1 0 [(.lit (.i 0))])])]), (.call 1 0 [(.lit (.i 0))])])]), (.lit (.r []))])]), (.call 5 0 [(.lit (.i 2))])])), (.imp (.and (.and (.and (.and (.eq (.call 3 2 [(.call 3 3 [(.call 0 0 [(.lit (.i 10))]), (.call 2 0 [(.lit (.s ⟨#[102]⟩)), (.row [(.call 2 0 [(.lit (.s ⟨#[103]⟩)), (.row [(.call 1 0 [(.lit (.i 0))])])]), (.call 1 0 [(.lit (.i 0))])])]), (.lit (.r []))]), (.call 1 0 [(.lit (.i 1))]), (.call 3 1 [(.call 0 0 [(.lit (.i 10))]), (.call 2 0 [(.lit (.s ⟨#[102]⟩)), (.row [(.call 2 0 [(.lit (.s ⟨#[103]⟩)), (.row [(.call 1 0 [(.lit (.i 0))])])]), (.call 1 0 [(.lit (.i 0))])])]), (.lit (.r []))])]) (.lit (.i 0))) (.eq (.call 3 0 [(.call 3 3 [(.call 0 0 [(.lit (.i 10))]), (.call 2 0 [(.lit (.s ⟨#[102]⟩)), (.row [(.call 2 0 [(.lit (.s ⟨#[103]⟩)), (.row [(.call 1 0 [(.lit (.i 0))])])]), (.call 1 0 [(.lit (.i 0))])])]), (.lit (.r []))]), (.call 1 0 [(.lit (.i 1))]), (.call 3 1 [(.call 0 0 [(.lit (.i 10))]), (.call 2 0 [(.lit (.s ⟨#[102]⟩)), (.row [(.call 2 0 [(.lit (.s ⟨#[103]⟩)), (.row [(.call 1 0 [(.lit (.i 0))])])]), (.call 1 0 [(.lit (.i 0))])])]), (.lit (.r []))])]) (.call 5 0 [(.lit (.i 5))]))) (.call 6 0 [(.call 3 1 [(.call 3 3 [(.call 0 0 [(.lit (.i 10))]), (.call 2 0 [(.lit (.s ⟨#[102]⟩)), (.row [(.call 2 0 [(.lit (.s ⟨#[103]⟩)), (.row [(.call 1 0 [(.lit (.i 0))])])]), (.call 1 0 [(.lit (.i 0))])])]), (.lit (.r []))]), (.call 1 0 [(.lit (.i 1))]), (.call 3 1 [(.call 0 0 [(.lit (.i 10))]), (.call 2 0 [(.lit (.s ⟨#[102]⟩)), (.row [(.call 2 0 [(.lit (.s ⟨#[103]⟩)), (.row [(.call 1 0 [(.lit (.i 0))])])]), (.call 1 0 [(.lit (.i 0))])])]), (.lit (.r []))])]), (.row [(.mk [(.lit (.i 0)), (.call 5 0 [(.lit (.i 4))])]), (.mk [(.lit (.i 1)), (.call 5 0 [(.lit (.i 5))])])])])) (.eq (.call 7 1 [(.call 3 3 [(.call 3 3 [(.call 0 0 [(.lit (.i 10))]), (.call 2 0 [(.lit (.s ⟨#[102]⟩)), (.row [(.call 2 0 [(.lit (.s ⟨#[103]⟩)), (.row [(.call 1 0 [(.lit (.i 0))])])]), (.call 1 0 [(.lit (.i 0))])])]), (.lit (.r []))]), (.call 1 0 [(.lit (.i 1))]), (.call 3 1 [(.call 0 0 [(.lit (.i 10))]), (.call 2 0 [(.lit (.s ⟨#[102]⟩)), (.row [(.call 2 0 [(.lit (.s ⟨#[103]⟩)), (.row [(.call 1 0 [(.lit (.i 0))])])]), (.call 1 0 [(.lit (.i 0))])])]), (.lit (.r []))])]), (.call 4 0 [(.lit (.i 0))])]) (.lit (.i 0)))) (.call 8 0 [(.call 7 0 [(.call 3 3 [(.call 3 3 [(.call 0 0 [(.lit (.i 10))]), (.call 2 0 [(.lit (.s ⟨#[102]⟩)), (.row [(.call 2 0 [(.lit (.s ⟨#[103]⟩)), (.row [(.call 1 0 [(.lit (.i 0))])])]), (.call 1 0 [(.lit (.i 0))])])]), (.lit (.r []))]), (.call 1 0 [(.lit (.i 1))]), (.call 3 1 [(.call 0 0 [(.lit (.i 10))]), (.call 2 0 [(.lit (.s ⟨#[102]⟩)), (.row [(.call 2 0 [(.lit (.s ⟨#[103]⟩)), (.row [(.call 1 0 [(.lit (.i 0))])])]), (.call 1 0 [(.lit (.i 0))])])]), (.lit (.r []))])]), (.call 4 0 [(.lit (.i 0))])]), (.call 2 0 [(.lit (.s ⟨#[102]⟩)), (.row [(.call 2 0 [(.lit (.s ⟨#[103]⟩)), (.row [(.call 1 0 [(.lit (.i 4))])])]), (.call 1 0 [(.lit (.i 4))])])])])) (.ok 5 [(.lit (.i 2))])), (.imp (.and (.and (.and (.eq (.call 3 2 [(.call 3 3 [(.call 0 0 [(.lit (.i 10))]), (.call 2 0 [(.lit (.s ⟨#[102]⟩)), (.row [(.call 2 0 [(.lit (.s ⟨#[103]⟩)), (.row [(.call 1 0 [(.lit (.i 0))])])]), (.call 1 0 [(.lit (.i 0))])])]), (.lit (.r []))]), (.call 1 0 [(.lit (.i 1))]), (.call 3 1 [(.call 0 0 [(.lit (.i 10))]), (.call 2 0 [(.lit (.s ⟨#[102]⟩)), (.row [(.call 2 0 [(.lit (.s ⟨#[103]⟩)), (.row [(.call 1 0 [(.lit (.i 0))])])]), (.call 1 0 [(.lit (.i 0))])])]), (.lit (.r []))])]) (.lit (.i 0))) (.eq (.call 3 0 [(.call 3 3 [(.call 0 0 [(.lit (.i 10))]), (.call 2 0 [(.lit (.s ⟨#[102]⟩)), (.row [(.call 2 0 [(.lit (.s ⟨#[103]⟩)), (.row [(.call 1 0 [(.lit (.i 0))])])]), (.call 1 0 [(.lit (.i 0))])])]), (.lit (.r []))]), (.call 1 0 [(.lit (.i 1))]), (.call 3 1 [(.call 0 0 [(.lit (.i 10))]), (.call 2 0 [(.lit (.s ⟨#[102]⟩)), (.row [(.call 2 0 [(.lit (.s ⟨#[103]⟩)), (.row [(.call 1 0 [(.lit (.i 0))])])]), (.call 1 0 [(.lit (.i 0))])])]), (.lit (.r []))])]) (.call 5 0 [(.lit (.i 5))]))) (.call 6 0 [(.call 3 1 [(.call 3 3 [(.call 0 0 [(.lit (.i 10))]), (.call 2 0 [(.lit (.s ⟨#[102]⟩)), (.row [(.call 2 0 [(.lit (.s ⟨#[103]⟩)), (.row [(.call 1 0 [(.lit (.i 0))])])]), (.call 1 0 [(.lit (.i 0))])])]), (.lit (.r []))]), (.call 1 0 [(.lit (.i 1))]), (.call 3 1 [(.call 0 0 [(.lit (.i 10))]), (.call 2 0 [(.lit (.s ⟨#[102]⟩)), (.row [(.call 2 0 [(.lit (.s ⟨#[103]⟩)), (.row [(.call 1 0 [(.lit (.i 0))])])]), (.call 1 0 [(.lit (.i 0))])])]), (.lit (.r []))])]), (.row [(.mk [(.lit (.i 0)), (.call 5 0 [(.lit (.i 4))])]), (.mk [(.lit (.i 1)), (.call 5 0 [(.lit (.i 5))])])])])) (.eq (.call 7 1 [(.call 3 3 [(.call 3 3 [(.call 0 0 [(.lit (.i 10))]), (.call 2 0 [(.lit (.s ⟨#[102]⟩)), (.row [(.call 2 0 [(.lit (.s ⟨#[103]⟩)), (.row [(.call 1 0 [(.lit (.i 0))])])]), (.call 1 0 [(.lit (.i 0))])])]), (.lit (.r []))]), (.call 1 0 [(.lit (.i 1))]), (.call 3 1 [(.call 0 0 [(.lit (.i 10))]), (.call 2 0 [(.lit (.s ⟨#[102]⟩)), (.row [(.call 2 0 [(.lit (.s ⟨#[103]⟩)), (.row [(.call 1 0 [(.lit (.i 0))])])]), (.call 1 0 [(.lit (.i 0))])])]), (.lit (.r []))])]), (.call 4 0 [(.lit (.i 0))])]) (.lit (.i 0)))) (.ok 8 [(.call 7 0 [(.call 3 3 [(.call 3 3 [(.call 0 0 [(.lit (.i 10))]), (.call 2 0 [(.lit (.s ⟨#[102]⟩)), (.row [(.call 2 0 [(.lit (.s ⟨#[103]⟩)), (.row [(.call 1 0 [(.lit (.i 0))])])]), (.call 1 0 [(.lit (.i 0))])])]), (.lit (.r []))]), (.call 1 0 [(.lit (.i 1))]), (.call 3 1 [(.call 0 0 [(.lit (.i 10))]), (.call 2 0 [(.lit (.s ⟨#[102]⟩)), (.row [(.call 2 0 [(.lit (.s ⟨#[103]⟩)), (.row [(.call 1 0 [(.lit (.i 0))])])]), (.call 1 0 [(.lit (.i 0))])])]), (.lit (.r []))])]), (.call 4 0 [(.lit (.i 0))])]), (.call 2 0 [(.lit (.s ⟨#[102]⟩)), (.row [(.call 2 0 [(.lit (.s ⟨#[103]⟩)), (.row [(.call 1 0 [(.lit (.i 4))])])]), (.call 1 0 [(.lit (.i 4))])])])])), (.imp (.and (.and (.and (.eq (.call 3 2 [(.call 3 3 [(.call 0 0 [(.lit (.i 10))]), (.call 2 0 [(.lit (.s ⟨#[102]⟩)), (.row [(.call 2 0 [(.lit (.s ⟨#[103]⟩)), (.row [(.call 1 0 [(.lit (.i 0))])])]), (.call 1 0 [(.lit (.i 0))])])]), (.lit (.r []))]), (.call 1 0 [(.lit (.i 1))]), (.call 3 1 [(.call 0 0 [(.lit (.i 10))]), (.call 2 0 [(.lit (.s ⟨#[102]⟩)), (.row [(.call 2 0 [(.lit (.s ⟨#[103]⟩)), (.row [(.call 1 0 [(.lit (.i 0))])])]), (.call 1 0 [(.lit (.i 0))])])]), (.lit (.r []))])]) (.lit (.i 0))) (.eq (.call 3 0 [(.call 3 3 [(.call 0 0 [(.lit (.i 10))]), (.call 2 0 [(.lit (.s ⟨#[102]⟩)), (.row [(.call 2 0 [(.lit (.s ⟨#[103]⟩)), (.row [(.call 1 0 [(.lit (.i 0))])])]), (.call 1 0 [(.lit (.i 0))])])]), (.lit (.r []))]), (.call 1 0 [(.lit (.i 1))]), (.call 3 1 [(.call 0 0 [(.lit (.i 10))]), (.call 2 0 [(.lit (.s ⟨#[102]⟩)), (.row [(.call 2 0 [(.lit (.s ⟨#[103]⟩)), (.row [(.call 1 0 [(.lit (.i 0))])])]), (.call 1 0 [(.lit (.i 0))])])]), (.lit (.r []))])]) (.call 5 0 [(.lit (.i 5))]))) (.call 6 0 [(.call 3 1 [(.call 3 3 [(.call 0 0 [(.lit (.i 10))]), (.call 2 0 [(.lit (.s ⟨#[102]⟩)), (.row [(.call 2 0 [(.lit (.s ⟨#[103]⟩)), (.row [(.call 1 0 [(.lit (.i 0))])])]), (.call 1 0 [(.lit (.i 0))])])]), (.lit (.r []))]), (.call 1 0 [(.lit (.i 1))]), (.call 3 1 [(.call 0 0 [(.lit (.i 10))]), (.call 2 0 [(.lit (.s ⟨#[102]⟩)), (.row [(.call 2 0 [(.lit (.s ⟨#[103]⟩)), (.row [(.call 1 0 [(.lit (.i 0))])])]), (.call 1 0 [(.lit (.i 0))])])]), (.lit (.r []))])]), (.row [(.mk [(.lit (.i 0)), (.call 5 0 [(.lit (.i 4))])]), (.mk [(.lit (.i 1)), (.call 5 0 [(.lit (.i 5))])])])])) (.eq (.call 7 1 [(.call 3 3 [(.call 3 3 [(.call 0 0 [(.lit (.i 10))]), (.call 2 0 [(.lit (.s ⟨#[102]⟩)), (.row [(.call 2 0 [(.lit (.s ⟨#[103]⟩)), (.row [(.call 1 0 [(.lit (.i 0))])])]), (.call 1 0 [(.lit (.i 0))])])]), (.lit (.r []))]), (.call 1 0 [(.lit (.i 1))]), (.call 3 1 [(.call 0 0 [(.lit (.i 10))]), (.call 2 0 [(.lit (.s ⟨#[102]⟩)), (.row [(.call 2 0 [(.lit (.s ⟨#[103]⟩)), (.row [(.call 1 0 [(.lit (.i 0))])])]), (.call 1 0 [(.lit (.i 0))])])]), (.lit (.r []))])]), (.call 4 0 [(.lit (.i 0))])]) (.lit (.i 0)))) (.ok 2 [(.lit (.s ⟨#[102]⟩)), (.row [(.call 2 0 [(.lit (.s ⟨#[103]⟩)), (.row [(.call 1 0 [(.lit (.i 4))])])]), (.call 1 0 [(.lit (.i 4))])])])), (.imp (.and (.and (.and (.eq (.call 3 2 [(.call 3 3 [(.call 0 0 [(.lit (.i 10))]), (.call 2 0 [(.lit (.s ⟨#[102]⟩)), (.row [(.call 2 0 [(.lit (.s ⟨#[103]⟩)), (.row [(.call 1 0 [(.lit (.i 0))])])]), (.call 1 0 [(.lit (.i 0))])])]), (.lit (.r []))]), (.call 1 0 [(.lit (.i 1))]), (.call 3 1 [(.call 0 0 [(.lit (.i 10))]), (.call 2 0 [(.lit (.s ⟨#[102]⟩)), (.row [(.call 2 0 [(.lit (.s ⟨#[103]⟩)), (.row [(.call 1 0 [(.lit (.i 0))])])]), (.call 1 0 [(.lit (.i 0))])])]), (.lit (.r []))])]) (.lit (.i 0))) (.eq (.call 3 0 [(.call 3 3 [(.call 0 0 [(.lit (.i 10))]), (.call 2 0 [(.lit (.s ⟨#[102]⟩)), (.row [(.call 2 0 [(.lit (.s ⟨#[103]⟩)), (.row [(.call 1 0 [(.lit (.i 0))])])]), (.call 1 0 [(.lit (.i 0))])])]), (.lit (.r []))]), (.call 1 0 [(.lit (.i 1))]), (.call 3 1 [(.call 0 0 [(.lit (.i 10))]), (.call 2 0 [(.lit (.s ⟨#[102]⟩)), (.row [(.call 2 0 [(.lit (.s ⟨#[103]⟩)), (.row [(.call 1 0 [(.lit (.i 0))])])]), (.call 1 0 [(.lit (.i 0))])])]), (.lit (.r []))])]) (.call 5 0 [(.lit (.i 5))]))) (.call 6 0 [(.call 3 1 [(.call 3 3 [(.call 0 0 [(.lit (.i 10))]), (.call 2 0 [(.lit (.s ⟨#[102]⟩)), (.row [(.call 2 0 [(.lit (.s ⟨#[103]⟩)), (.row [(.call 1 0 [(.lit (.i 0))])])]), (.call 1 0 [(.lit (.i 0))])])]), (.lit (.r []))]), (.call 1 0 [(.lit (.i 1))]), (.call 3 1 [(.call 0 0 [(.lit (.i 10))]), (.call 2 0 [(.lit (.s ⟨#[102]⟩)), (.row [(.call 2 0 [(.lit (.s ⟨#[103]⟩)), (.row [(.call 1 0 [(.lit (.i 0))])])]), (.call 1 0 [(.lit (.i 0))])])]), (.lit (.r []))])]), (.row [(.mk [(.lit (.i 0)), (.call 5 0 [(.lit (.i 4))])]), (.mk [(.lit (.i 1)), (.call 5 0 [(.lit (.i 5))])])])])) (.eq (.call 7 1 [(.call 3 3 [(.call 3 3 [(.call 0 0 [(.lit (.i 10))]), (.call 2 0 [(.lit (.s ⟨#[102]⟩)), (.row [(.call 2 0 [(.lit (.s ⟨#[103]⟩)), (.row [(.call 1 0 [(.lit (.i 0))])])]), (.call 1 0 [(.lit (.i 0))])])]), (.lit (.r []))]), (.call 1 0 [(.lit (.i 1))]), (.call 3 1 [(.call 0 0 [(.lit (.i 10))]), (.call 2 0 [(.lit (.s ⟨#[102]⟩)), (.row [(.call 2 0 [(.lit (.s ⟨#[103]⟩)), (.row [(.call 1 0 [(.lit (.i 0))])])]), (.call 1 0 [(.lit (.i 0))])])]), (.lit (.r []))])]), (.call 4 0 [(.lit (.i 0))])]) (.lit (.i 0)))) (.ok 1 [(.lit (.i 4))])), (.imp (.and (.and (.and (.eq (.call 3 2 [(.call 3 3 [(.call 0 0 [(.lit (.i 10))]), (.call 2 0 [(.lit (.s ⟨#[102]⟩)), (.row [(.call 2 0 [(.lit (.s ⟨#[103]⟩)), (.row [(.call 1 0 [(.lit (.i 0))])])]), (.call 1 0 [(.lit (.i 0))])])]), (.lit (.r []))]), (.call 1 0 [(.lit (.i 1))]), (.call 3 1 [(.call 0 0 [(.lit (.i 10))]), (.call 2 0 [(.lit (.s ⟨#[102]⟩)), (.row [(.call 2 0 [(.lit (.s ⟨#[103]⟩)), (.row [(.call 1 0 [(.lit (.i 0))])])]), (.call 1 0 [(.lit (.i 0))])])]), (.lit (.r []))])]) (.lit (.i 0))) (.eq (.call 3 0 [(.call 3 3 [(.call 0 0 [(.lit (.i 10))]), (.call 2 0 [(.lit (.s ⟨#[102]⟩)), (.row [(.call 2 0 [(.lit (.s ⟨#[103]⟩)), (.row [(.call 1 0 [(.lit (.i 0))])])]), (.call 1 0 [(.lit (.i 0))])])]), (.lit (.r []))]), (.call 1 0 [(.lit (.i 1))]), (.call 3 1 [(.call 0 0 [(.lit (.i 10))]), (.call 2 0 [(.lit (.s ⟨#[102]⟩)), (.row [(.call 2 0 [(.lit (.s ⟨#[103]⟩)), (.row [(.call 1 0 [(.lit (.i 0))])])]), (.call 1 0 [(.lit (.i 0))])])]), (.lit (.r []))])]) (.call 5 0 [(.lit (.i 5))]))) (.call 6 0 [(.call 3 1 [(.call 3 3 [(.call 0 0 [(.lit (.i 10))]), (.call 2 0 [(.lit (.s ⟨#[102]⟩)), (.row [(.call 2 0 [(.lit (.s ⟨#[103]⟩)), (.row [(.call 1 0 [(.lit (.i 0))])])]), (.call 1 0 [(.lit (.i 0))])])]), (.lit (.r []))]), (.call 1 0 [(.lit (.i 1))]), (.call 3 1 [(.call 0 0 [(.lit (.i 10))]), (.call 2 0 [(.lit (.s ⟨#[102]⟩)), (.row [(.call 2 0 [(.lit (.s ⟨#[103]⟩)), (.row [(.call 1 0 [(.lit (.i 0))])])]), (.call 1 0 [(.lit (.i 0))])])]), (.lit (.r []))])]), (.row [(.mk [(.lit (.i 0)), (.call 5 0 [(.lit (.i 4))])]), (.mk [(.lit (.i 1)), (.call 5 0 [(.lit (.i 5))])])])])) (.eq (.call 7 1 [(.call 3 3 [(.call 3 3 [(.call 0 0 [(.lit (.i 10))]), (.call 2 0 [(.lit (.s ⟨#[102]⟩)), (.row [(.call 2 0 [(.lit (.s ⟨#[103]⟩)), (.row [(.call 1 0 [(.lit (.i 0))])])]), (.call 1 0 [(.lit (.i 0))])])]), (.lit (.r []))]), (.call 1 0 [(.lit (.i 1))]), (.call 3 1 [(.call 0 0 [(.lit (.i 10))]), (.call 2 0 [(.lit (.s ⟨#[102]⟩)), (.row [(.call 2 0 [(.lit (.s ⟨#[103]⟩)), (.row [(.call 1 0 [(.lit (.i 0))])])]), (.call 1 0 [(.lit (.i 0))])])]), (.lit (.r []))])]), (.call 4 0 [(.lit (.i 0))])]) (.lit (.i 0)))) (.ok 2 [(.lit (.s ⟨#[103]⟩)), (.row [(.call 1 0 [(.lit (.i 4))])])])), (.imp (.and (.and (.and (.eq (.call 3 2 [(.call 3 3 [(.call 0 0 [(.lit (.i 10))]), (.call 2 0 [(.lit (.s ⟨#[102]⟩)), (.row [(.call 2 0 [(.lit (.s ⟨#[103]⟩)), (.row [(.call 1 0 [(.lit (.i 0))])])]), (.call 1 0 [(.lit (.i 0))])])]), (.lit (.r []))]), (.call 1 0 [(.lit (.i 1))]), (.call 3 1 [(.call 0 0 [(.lit (.i 10))]), (.call 2 0 [(.lit (.s ⟨#[102]⟩)), (.row [(.call 2 0 [(.lit (.s ⟨#[103]⟩)), (.row [(.call 1 0 [(.lit (.i 0))])])]), (.call 1 0 [(.lit (.i 0))])])]), (.lit (.r []))])]) (.lit (.i 0))) (.eq (.call 3 0 [(.call 3 3 [(.call 0 0 [(.lit (.i 10))]), (.call 2 0 [(.lit (.s ⟨#[102]⟩)), (.row [(.call 2 0 [(.lit (.s ⟨#[103]⟩)), (.row [(.call 1 0 [(.lit (.i 0))])])]), (.call 1 0 [(.lit (.i 0))])])]), (.lit (.r []))]), (.call 1 0 [(.lit (.i 1))]), (.call 3 1 [(.call 0 0 [(.lit (.i 10))]), (.call 2 0 [(.lit (.s ⟨#[102]⟩)), (.row [(.call 2 0 [(.lit (.s ⟨#[103]⟩)), (.row [(.call 1 0 [(.lit (.i 0))])])]), (.call 1 0 [(.lit (.i 0))])])]), (.lit (.r []))])]) (.call 5 0 [(.lit (.i 5))]))) (.call 6 0 [(.call 3 1 [(.call 3 3 [(.call 0 0 [(.lit (.i 10))]), (.call 2 0 [(.lit (.s ⟨#[102]⟩)), (.row [(.call 2 0 [(.lit (.s ⟨#[103]⟩)), (.row [(.call 1 0 [(.lit (.i 0))])])]), (.call 1 0 [(.lit (.i 0))])])]), (.lit (.r []))]), (.call 1 0 [(.lit (.i 1))]), (.call 3 1 [(.call 0 0 [(.lit (.i 10))]), (.call 2 0 [(.lit (.s ⟨#[102]⟩)), (.row [(.call 2 0 [(.lit (.s ⟨#[103]⟩)), (.row [(.call 1 0 [(.lit (.i 0))])])]), (.call 1 0 [(.lit (.i 0))])])]), (.lit (.r []))])]), (.row [(.mk [(.lit (.i 0)), (.call 5 0 [(.lit (.i 4))])]), (.mk [(.lit (.i 1)), (.call 5 0 [(.lit (.i 5))])])])])) (.eq (.call 7 1 [(.call 3 3 [(.call 3 3 [(.call 0 0 [(.lit (.i 10))]), (.call 2 0 [(.lit (.s ⟨#[102]⟩)), (.row [(.call 2 0 [(.lit (.s ⟨#[103]⟩)), (.row [(.call 1 0 [(.lit (.i 0))])])]), (.call 1 0 [(.lit (.i 0))])])]), (.lit (.r []))]), (.call 1 0 [(.lit (.i 1))]), (.call 3 1 [(.call 0 0 [(.lit (.i 10))]), (.call 2 0 [(.lit (.s ⟨#[102]⟩)), (.row [(.call 2 0 [(.lit (.s ⟨#[103]⟩)), (.row [(.call 1 0 [(.lit (.i 0))])])]), (.call 1 0 [(.lit (.i 0))])])]), (.lit (.r []))])]), (.call 4 0 [(.lit (.i 0))])]) (.lit (.i 0)))) (.ok 1 [(.lit (.i 4))])), (.imp (.and (.eq (.call 3 2 [(.call 3 3 [(.call 0 0 [(.lit (.i 10))]), (.call 2 0 [(.lit (.s ⟨#[102]⟩)), (.row [(.call 2 0 [(.lit (.s ⟨#[103]⟩)), (.row [(.call 1 0 [(.lit (.i 0))])])]), (.call 1 0 [(.lit (.i 0))])])]), (.lit (.r []))]), (.call 1 0 [(.lit (.i 1))]), (.call 3 1 [(.call 0 0 [(.lit (.i 10))]), (.call 2 0 [(.lit (.s ⟨#[102]⟩)), (.row [(.call 2 0 [(.lit (.s ⟨#[103]⟩)), (.row [(.call 1 0 [(.lit (.i 0))])])]), (.call 1 0 [(.lit (.i 0))])])]), (.lit (.r []))])]) (.lit (.i 0))) (.eq (.call 3 0 [(.call 3 3 [(.call 0 0 [(.lit (.i 10))]), (.call 2 0 [(.lit (.s ⟨#[102]⟩)), (.row [(.call 2 0 [(.lit (.s ⟨#[103]⟩)), (.row [(.call 1 0 [(.lit (.i 0))])])]), (.call 1 0 [(.lit (.i 0))])])]), (.lit (.r []))]), (.call 1 0 [(.lit (.i 1))]), (.call 3 1 [(.call 0 0 [(.lit (.i 10))]), (.call 2 0 [(.lit (.s ⟨#[102]⟩)), (.row [(.call 2 0 [(.lit (.s ⟨#[103]⟩)), (.row [(.call 1 0 [(.lit (.i 0))])])]), (.call 1 0 [(.lit (.i 0))])])]), (.lit (.r []))])]) (.call 5 0 [(.lit (.i 5))]))) (.ok 6 [(.call 3 1 [(.call 3 3 [(.call 0 0 [(.lit (.i 10))]), (.call 2 0 [(.lit (.s ⟨#[102]⟩)), (.row [(.call 2 0 [(.lit (.s ⟨#[103]⟩)), (.row [(.call 1 0 [(.lit (.i 0))])])]), (.call 1 0 [(.lit (.i 0))])])]), (.lit (.r []))]), (.call 1 0 [(.lit (.i 1))]), (.call 3 1 [(.call 0 0 [(.lit (.i 10))]), (.call 2 0 [(.lit (.s ⟨#[102]⟩)), (.row [(.call 2 0 [(.lit (.s ⟨#[103]⟩)), (.row [(.call 1 0 [(.lit (.i 0))])])]), (.call 1 0 [(.lit (.i 0))])])]), (.lit (.r []))])]), (.row [(.mk [(.lit (.i 0)), (.call 5 0 [(.lit (.i 4))])]), (.mk [(.lit (.i 1)), (.call 5 0 [(.lit (.i 5))])])])])), (.imp (.and (.eq (.call 3 2 [(.call 3 3 [(.call 0 0 [(.lit (.i 10))]), (.call 2 0 [(.lit (.s ⟨#[102]⟩)), (.row [(.call 2 0 [(.lit (.s ⟨#[103]⟩)), (.row [(.call 1 0 [(.lit (.i 0))])])]), (.call 1 0 [(.lit (.i 0))])])]), (.lit (.r []))]), (.call 1 0 [(.lit (.i 1))]), (.call 3 1 [(.call 0 0 [(.lit (.i 10))]), (.call 2 0 [(.lit (.s ⟨#[102]⟩)), (.row [(.call 2 0 [(.lit (.s ⟨#[103]⟩)), (.row [(.call 1 0 [(.lit (.i 0))])])]), (.call 1 0 [(.lit (.i 0))])])]), (.lit (.r []))])]) (.lit (.i 0))) (.eq (.call 3 0 [(.call 3 3 [(.call 0 0 [(.lit (.i 10))]), (.call 2 0 [(.lit (.s ⟨#[102]⟩)), (.row [(.call 2 0 [(.lit (.s ⟨#[103]⟩)), (.row [(.call 1 0 [(.lit (.i 0))])])]), (.call 1 0 [(.lit (.i 0))])])]), (.lit (.r []))]), (.call 1 0 [(.lit (.i 1))]), (.call 3 1 [(.call 0 0 [(.lit (.i 10))]), (.call 2 0 [(.lit (.s ⟨#[102]⟩)), (.row [(.call 2 0 [(.lit (.s ⟨#[103]⟩)), (.row [(.call 1 0 [(.lit (.i 0))])])]), (.call 1 0 [(.lit (.i 0))])])]), (.lit (.r []))])]) (.call 5 0 [(.lit (.i 5))]))) (.ok 5 [(.lit (.i 5))])), (.imp (.and (.eq (.call 3 2 [(.call 3 3 [(.call 0 0 [(.lit (.i 10))]), (.call 2 0 [(.lit (.s ⟨#[102]⟩)), (.row [(.call 2 0 [(.lit (.s ⟨#[103]⟩)), (.row [(.call 1 0 [(.lit (.i 0))])])]), (.call 1 0 [(.lit (.i 0))])])]), (.lit (.r []))]), (.call 1 0 [(.lit (.i 1))]), (.call 3 1 [(.call 0 0 [(.lit (.i 10))]), (.call 2 0 [(.lit (.s ⟨#[102]⟩)), (.row [(.call 2 0 [(.lit (.s ⟨#[103]⟩)), (.row [(.call 1 0 [(.lit (.i 0))])])]), (.call 1 0 [(.lit (.i 0))])])]), (.lit (.r []))])]) (.lit (.i 0))) (.eq (.call 3 0 [(.call 3 3 [(.call 0 0 [(.lit (.i 10))]), (.call 2 0 [(.lit (.s ⟨#[102]⟩)), (.row [(.call 2 0 [(.lit (.s ⟨#[103]⟩)), (.row [(.call 1 0 [(.lit (.i 0))])])]), (.call 1 0 [(.lit (.i 0))])])]), (.lit (.r []))]), (.call 1 0 [(.lit (.i 1))]), (.call 3 1 [(.call 0 0 [(.lit (.i 10))]), (.call 2 0 [(.lit (.s ⟨#[102]⟩)), (.row [(.call 2 0 [(.lit (.s ⟨#[103]⟩)), (.row [(.call 1 0 [(.lit (.i 0))])])]), (.call 1 0 [(.lit (.i 0))])])]), (.lit (.r []))])]) (.call 5 0 [(.lit (.i 5))]))) (.ok 5 [(.lit (.i 5))])), (.imp (.and (.eq (.call 3 2 [(.call 3 3 [(.call 0 0 [(.lit (.i 10))]), (.call 2 0 [(.lit (.s ⟨#[102]⟩)), (.row [(.call 2 0 [(.lit (.s ⟨#[103]⟩)), (.row [(.call 1 0 [(.lit (.i 0))])])]), (.call 1 0 [(.lit (.i 0))])])]), (.lit (.r []))]), (.call 1 0 [(.lit (.i 1))]), (.call 3 1 [(.call 0 0 [(.lit (.i 10))]), (.call 2 0 [(.lit (.s ⟨#[102]⟩)), (.row [(.call 2 0 [(.lit (.s ⟨#[103]⟩)), (.row [(.call 1 0 [(.lit (.i 0))])])]), (.call 1 0 [(.lit (.i 0))])])]), (.lit (.r []))])]) (.lit (.i 0))) (.eq (.call 3 0 [(.call 3 3 [(.call 0 0 [(.lit (.i 10))]), (.call 2 0 [(.lit (.s ⟨#[102]⟩)), (.row [(.call 2 0 [(.lit (.s ⟨#[103]⟩)), (.row [(.call 1 0 [(.lit (.i 0))])])]), (.call 1 0 [(.lit (.i 0))])])]), (.lit (.r []))]), (.call 1 0 [(.lit (.i 1))]), (.call 3 1 [(.call 0 0 [(.lit (.i 10))]), (.call 2 0 [(.lit (.s ⟨#[102]⟩)), (.row [(.call 2 0 [(.lit (.s ⟨#[103]⟩)), (.row [(.call 1 0 [(.lit (.i 0))])])]), (.call 1 0 [(.lit (.i 0))])])]), (.lit (.r []))])]) (.call 5 0 [(.lit (.i 5))]))) (.ok 5 [(.lit (.i 4))])), (.imp (.eq (.call 3 2 [(.call 3 3 [(.call 0 0 [(.lit (.i 10))]), (.call 2 0 [(.lit (.s ⟨#[102]⟩)), (.row [(.call 2 0 [(.lit (.s ⟨#[103]⟩)), (.row [(.call 1 0 [(.lit (.i 0))])])]), (.call 1 0 [(.lit (.i 0))])])]), (.lit (.r []))]), (.call 1 0 [(.lit (.i 1))]), (.call 3 1 [(.call 0 0 [(.lit (.i 10))]), (.call 2 0 [(.lit (.s ⟨#[102]⟩)), (.row [(.call 2 0 [(.lit (.s ⟨#[103]⟩)), (.row [(.call 1 0 [(.lit (.i 0))])])]), (.call 1 0 [(.lit (.i 0))])])]), (.lit (.r []))])]) (.lit (.i 0))) (.ok 5 [(.lit (.i 5))]))] (.leaf [(.and (.and (.and (.and (.and (.and (.and (.eq (.call 3 2 [(.call 3 3 [(.call 0 0 [(.lit (.i 10))]), (.call 2 0 [(.lit (.s ⟨#[102]⟩)), (.row [(.call 2 0 [(.lit (.s ⟨#[103]⟩)), (.row [(.call 1 0 [(.lit (.i 0))])])]), (.call 1 0 [(.lit (.i 0))])])]), (.lit (.r []))]), (.call 1 0 [(.lit (.i 1))]), (.call 3 1 [(.call 0 0 [(.lit (.i 10))]), (.call 2 0 [(.lit (.s ⟨#[102]⟩)), (.row [(.call 2 0 [(.lit (.s ⟨#[103]⟩)), (.row [(.call 1 0 [(.lit (.i 0))])])]), (.call 1 0 [(.lit (.i 0))])])]), (.lit (.r []))])]) (.lit (.i 0))) (.eq (.call 3 0 [(.call 3 3 [(.call 0 0 [(.lit (.i 10))]), (.call 2 0 [(.lit (.s ⟨#[102]⟩)), (.row [(.call 2 0 [(.lit (.s ⟨#[103]⟩)), (.row [(.call 1 0 [(.lit (.i 0))])])]), (.call 1 0 [(.lit (.i 0))])])]), (.lit (.r []))]), (.call 1 0 [(.lit (.i 1))]), (.call 3 1 [(.call 0 0 [(.lit (.i 10))]), (.call 2 0 [(.lit (.s ⟨#[102]⟩)), (.row [(.call 2 0 [(.lit (.s ⟨#[103]⟩)), (.row [(.call 1 0 [(.lit (.i 0))])])]), (.call 1 0 [(.lit (.i 0))])])]), (.lit (.r []))])]) (.call 5 0 [(.lit (.i 5))]))) (.call 6 0 [(.call 3 1 [(.call 3 3 [(.call 0 0 [(.lit (.i 10))]), (.call 2 0 [(.lit (.s ⟨#[102]⟩)), (.row [(.call 2 0 [(.lit (.s ⟨#[103]⟩)), (.row [(.call 1 0 [(.lit (.i 0))])])]), (.call 1 0 [(.lit (.i 0))])])]), (.lit (.r []))]), (.call 1 0 [(.lit (.i 1))]), (.call 3 1 [(.call 0 0 [(.lit (.i 10))]), (.call 2 0 [(.lit (.s ⟨#[102]⟩)), (.row [(.call 2 0 [(.lit (.s ⟨#[103]⟩)), (.row [(.call 1 0 [(.lit (.i 0))])])]), (.call 1 0 [(.lit (.i 0))])])]), (.lit (.r []))])]), (.row [(.mk [(.lit (.i 0)), (.call 5 0 [(.lit (.i 4))])]), (.mk [(.lit (.i 1)), (.call 5 0 [(.lit (.i 5))])])])])) (.eq (.call 7 1 [(.call 3 3 [(.call 3 3 [(.call 0 0 [(.lit (.i 10))]), (.call 2 0 [(.lit (.s ⟨#[102]⟩)), (.row [(.call 2 0 [(.lit (.s ⟨#[103]⟩)), (.row [(.call 1 0 [(.lit (.i 0))])])]), (.call 1 0 [(.lit (.i 0))])])]), (.lit (.r []))]), (.call 1 0 [(.lit (.i 1))]), (.call 3 1 [(.call 0 0 [(.lit (.i 10))]), (.call 2 0 [(.lit (.s ⟨#[102]⟩)), (.row [(.call 2 0 [(.lit (.s ⟨#[103]⟩)), (.row [(.call 1 0 [(.lit (.i 0))])])]), (.call 1 0 [(.lit (.i 0))])])]), (.lit (.r []))])]), (.call 4 0 [(.lit (.i 0))])]) (.lit (.i 0)))) (.call 8 0 [(.call 7 0 [(.call 3 3 [(.call 3 3 [(.call 0 0 [(.lit (.i 10))]), (.call 2 0 [(.lit (.s ⟨#[102]⟩)), (.row [(.call 2 0 [(.lit (.s ⟨#[103]⟩)), (.row [(.call 1 0 [(.lit (.i 0))])])]), (.call 1 0 [(.lit (.i 0))])])]), (.lit (.r []))]), (.call 1 0 [(.lit (.i 1))]), (.call 3 1 [(.call 0 0 [(.lit (.i 10))]), (.call 2 0 [(.lit (.s ⟨#[102]⟩)), (.row [(.call 2 0 [(.lit (.s ⟨#[103]⟩)), (.row [(.call 1 0 [(.lit (.i 0))])])]), (.call 1 0 [(.lit (.i 0))])])]), (.lit (.r []))])]), (.call 4 0 [(.lit (.i 0))])]), (.call 2 0 [(.lit (.s ⟨#[102]⟩)), (.row [(.call 2 0 [(.lit (.s ⟨#[103]⟩)), (.row [(.call 1 0 [(.lit (.i 4))])])]), (.call 1 0 [(.lit (.i 4))])])])])) (.eq (.call 9 0 [(.call 3 3 [(.call 3 3 [(.call 0 0 [(.lit (.i 10))]), (.call 2 0 [(.lit (.s ⟨#[102]⟩)), (.row [(.call 2 0 [(.lit (.s ⟨#[103]⟩)), (.row [(.call 1 0 [(.lit (.i 0))])])]), (.call 1 0 [(.lit (.i 0))])])]), (.lit (.r []))]), (.call 1 0 [(.lit (.i 1))]), (.call 3 1 [(.call 0 0 [(.lit (.i 10))]), (.call 2 0 [(.lit (.s ⟨#[102]⟩)), (.row [(.call 2 0 [(.lit (.s ⟨#[103]⟩)), (.row [(.call 1 0 [(.lit (.i 0))])])]), (.call 1 0 [(.lit (.i 0))])])]), (.lit (.r []))])]), (.call 5 0 [(.lit (.i 2))])]) (.call 5 0 [(.lit (.i 4))]))) (.eq (.call 9 0 [(.call 3 3 [(.call 3 3 [(.call 0 0 [(.lit (.i 10))]), (.call 2 0 [(.lit (.s ⟨#[102]⟩)), (.row [(.call 2 0 [(.lit (.s ⟨#[103]⟩)), (.row [(.call 1 0 [(.lit (.i 0))])])]), (.call 1 0 [(.lit (.i 0))])])]), (.lit (.r []))]), (.call 1 0 [(.lit (.i 1))]), (.call 3 1 [(.call 0 0 [(.lit (.i 10))]), (.call 2 0 [(.lit (.s ⟨#[102]⟩)), (.row [(.call 2 0 [(.lit (.s ⟨#[103]⟩)), (.row [(.call 1 0 [(.lit (.i 0))])])]), (.call 1 0 [(.lit (.i 0))])])]), (.lit (.r []))])]), (.call 5 0 [(.lit (.i 1))])]) (.call 4 0 [(.lit (.i 3))]))) (.eq (.get (.fld (.call 3 3 [(.call 3 3 [(.call 0 0 [(.lit (.i 10))]), (.call 2 0 [(.lit (.s ⟨#[102]⟩)), (.row [(.call 2 0 [(.lit (.s ⟨#[103]⟩)), (.row [(.call 1 0 [(.lit (.i 0))])])]), (.call 1 0 [(.lit (.i 0))])])]), (.lit (.r []))]), (.call 1 0 [(.lit (.i 1))]), (.call 3 1 [(.call 0 0 [(.lit (.i 10))]), (.call 2 0 [(.lit (.s ⟨#[102]⟩)), (.row [(.call 2 0 [(.lit (.s ⟨#[103]⟩)), (.row [(.call 1 0 [(.lit (.i 0))])])]), (.call 1 0 [(.lit (.i 0))])])]), (.lit (.r []))])]) 1) (.lit (.i 1))) (.mk [(.lit (.s ⟨#[103]⟩)), (.lit (.i 1))])))]))))))))))
set_option maxRecDepth 100000 in
theorem code_law30_awake (g0 g1 g2 g3 g4 g5 g6 g7 g8 g9 : List D → Option (List D)) : ∀ cd, Try.f14.body = some cd → treeOf Try.prog [(q22, g0), (q2h, g1), (q2g, g2), (q1c, g3), (q25, g4), (q21, g5), (q14, g6), (q24, g7), (q1w, g8), (q10, g9)] ann_law30_awake q1n Try.f14 cd = tree_law30_awake := by
  intro cd h
  injection h with h
  subst h
  kernel_rfl
theorem fok_law30_awake {g0 g1 g2 g3 g4 g5 g6 g7 g8 g9 : List D → Option (List D)} {g : List D → Option (List D)} (h0 : FOk q22 g0) (h1 : FOk q2h g1) (h2 : FOk q2g g2) (h3 : FOk q1c g3) (h4 : FOk q25 g4) (h5 : FOk q21 g5) (h6 : FOk q14 g6) (h7 : FOk q24 g7) (h8 : FOk q1w g8) (h9 : FOk q10 g9) (h : ∀ ds outs, WfA q1n.ars ds → g ds = some outs → tree_law30_awake.go (tblS [(q22, g0), (q2h, g1), (q2g, g2), (q1c, g3), (q25, g4), (q21, g5), (q14, g6), (q24, g7), (q1w, g8), (q10, g9)]) (fun o => o = outs) ds fun _ _ => False) : FOk q1n g :=
  q09 ann_law30_awake Try.f14 _ (.cons h0 (.cons h1 (.cons h2 (.cons h3 (.cons h4 (.cons h5 (.cons h6 (.cons h7 (.cons h8 (.cons h9 .nil)))))))))) rfl rfl enter_law30_awake (by decide) fun ds outs hw hg => by rw [code_law30_awake g0 g1 g2 g3 g4 g5 g6 g7 g8 g9 _ rfl]; exact h ds outs hw hg

def q19 : Ct := ⟨49, [.val (.row 72)], [(.bool, false)], [], none, []⟩
theorem enter_ref30_symbols (args : Array Value) (w : World) : (callFunc q19.f args).run Try.prog w = .ok (.enter q19.f args) w := by kernel_rfl
def ann_ref30_symbols : Ann := ⟨[0, 2, 3, 4, 7, 12, 46], [(5, ⟨[(2, .bool, false), (4, .int .i64, false), (3, .map 72 3, false)], [], [9, 10, 11, 12, 15, 16, 17, 18, 19, 20, 21, 22, 23, 24, 25, 26, 27, 28, 29, 30, 31, 32, 33, 34, 35, 36, 37, 38, 39, 40, 41, 42, 43, 44, 45, 46, 47, 48, 49, 50, 51, 13, 14, 8], []⟩)]⟩
def q3e : Tree := (.br (.lt (.lit (.i 1048576)) (.len (.tok 0))) (.leaf [(.lit (.b .false))]) (.loop 5 1 [(.lit (.b .false)), (.lit (.i 0)), (.lit (.mp []))] (.br (.lt (.tok 2) (.len (.tok 0))) (.need [(.le (.lit (.i 0)) (.tok 2)), (.lt (.tok 2) (.len (.tok 0))), (.imp (.not (.lt (.lit (.i 100)) (.slen (.fld (.get (.tok 0) (.tok 2)) 0)))) (.le (.lit (.i 0)) (.tok 2))), (.imp (.not (.lt (.lit (.i 100)) (.slen (.fld (.get (.tok 0) (.tok 2)) 0)))) (.lt (.tok 2) (.len (.tok 0)))), (.imp (.not (.or (.lt (.lit (.i 100)) (.slen (.fld (.get (.tok 0) (.tok 2)) 0))) (.lt (.fld (.get (.tok 0) (.tok 2)) 1) (.lit (.i 0))))) (.le (.lit (.i 0)) (.tok 2))), (.imp (.not (.or (.lt (.lit (.i 100)) (.slen (.fld (.get (.tok 0) (.tok 2)) 0))) (.lt (.fld (.get (.tok 0) (.tok 2)) 1) (.lit (.i 0))))) (.lt (.tok 2) (.len (.tok 0)))), (.imp (.not (.or (.or (.lt (.lit (.i 100)) (.slen (.fld (.get (.tok 0) (.tok 2)) 0))) (.lt (.fld (.get (.tok 0) (.tok 2)) 1) (.lit (.i 0)))) (.lt (.lit (.i 8)) (.fld (.get (.tok 0) (.tok 2)) 1)))) (.le (.lit (.i 0)) (.tok 2))), (.imp (.not (.or (.or (.lt (.lit (.i 100)) (.slen (.fld (.get (.tok 0) (.tok 2)) 0))) (.lt (.fld (.get (.tok 0) (.tok 2)) 1) (.lit (.i 0)))) (.lt (.lit (.i 8)) (.fld (.get (.tok 0) (.tok 2)) 1)))) (.lt (.tok 2) (.len (.tok 0))))] (.br (.or (.or (.or (.lt (.lit (.i 100)) (.slen (.fld (.get (.tok 0) (.tok 2)) 0))) (.lt (.fld (.get (.tok 0) (.tok 2)) 1) (.lit (.i 0)))) (.lt (.lit (.i 8)) (.fld (.get (.tok 0) (.tok 2)) 1))) (.eq (.fn 0 [(.tok 3), (.get (.tok 0) (.tok 2)), (.lit (.i 0))]) (.lit (.i 1)))) (.leaf [(.lit (.b .false))]) (.need [(.le (.lit (.i 0)) (.tok 2)), (.lt (.tok 2) (.len (.tok 0)))] (.need [(.rng .i64 (.add (.tok 2) (.lit (.i 1))))] (.back 5 [(.tok 1), (.add (.tok 2) (.lit (.i 1))), (.fn 2 [(.tok 3), (.get (.tok 0) (.tok 2)), (.lit (.i 1))])]))))) (.leaf [(.lit (.b .true))]))))
set_option maxRecDepth 100000 in
theorem code_ref30_symbols : ∀ cd, Try.f49.body = some cd → treeOf Try.prog [] ann_ref30_symbols q19 Try.f49 cd = q3e := by
  intro cd h
  injection h with h
  subst h
  kernel_rfl
theorem fok_ref30_symbols {g : List D → Option (List D)}  (h : ∀ ds outs, WfA q19.ars ds → g ds = some outs → q3e.go (tblS []) (fun o => o = outs) ds fun _ _ => False) : FOk q19 g :=
  q09 ann_ref30_symbols Try.f49 _ .nil rfl rfl enter_ref30_symbols (by decide) fun ds outs hw hg => by rw [code_ref30_symbols  _ rfl]; exact h ds outs hw hg

def q12 : Ct := ⟨85, [.val (.st 26), .val (.int .i64)], [(.int .i64, false)], [], none, []⟩
theorem enter_ref30_arity (args : Array Value) (w : World) : (callFunc q12.f args).run Try.prog w = .ok (.enter q12.f args) w := by kernel_rfl
def ann_ref30_arity : Ann := ⟨[0, 1, 2, 4, 13], []⟩
def q3v : Tree := (.br (.or (.lt (.tok 1) (.lit (.i 0))) (.le (.len (.fld (.tok 0) 1)) (.tok 1))) (.leaf [(.lit (.i (-1)))]) (.need [(.le (.lit (.i 0)) (.tok 1)), (.lt (.tok 1) (.len (.fld (.tok 0) 1)))] (.leaf [(.fld (.get (.fld (.tok 0) 1) (.tok 1)) 1)])))
set_option maxRecDepth 100000 in
theorem code_ref30_arity : ∀ cd, Try.f85.body = some cd → treeOf Try.prog [] ann_ref30_arity q12 Try.f85 cd = q3v := by
  intro cd h
  injection h with h
  subst h
  kernel_rfl
theorem fok_ref30_arity {g : List D → Option (List D)}  (h : ∀ ds outs, WfA q12.ars ds → g ds = some outs → q3v.go (tblS []) (fun o => o = outs) ds fun _ _ => False) : FOk q12 g :=
  q09 ann_ref30_arity Try.f85 _ .nil rfl rfl enter_ref30_arity (by decide) fun ds outs hw hg => by rw [code_ref30_arity  _ rfl]; exact h ds outs hw hg

def q0h : Ct := ⟨71, [.val (.st 26), .val (.int .i64)], [(.bool, false)], [], none, []⟩
theorem enter_ref30_ranged (args : Array Value) (w : World) : (callFunc q0h.f args).run Try.prog w = .ok (.enter q0h.f args) w := by kernel_rfl
def ann_ref30_ranged : Ann := ⟨[0, 1, 2, 4], []⟩
def q3n : Tree := (.leaf [(.and (.le (.lit (.i 0)) (.tok 1)) (.lt (.tok 1) (.len (.fld (.tok 0) 0))))])
set_option maxRecDepth 100000 in
theorem code_ref30_ranged : ∀ cd, Try.f71.body = some cd → treeOf Try.prog [] ann_ref30_ranged q0h Try.f71 cd = q3n := by
  intro cd h
  injection h with h
  subst h
  kernel_rfl
theorem fok_ref30_ranged {g : List D → Option (List D)}  (h : ∀ ds outs, WfA q0h.ars ds → g ds = some outs → q3n.go (tblS []) (fun o => o = outs) ds fun _ _ => False) : FOk q0h g :=
  q09 ann_ref30_ranged Try.f71 _ .nil rfl rfl enter_ref30_ranged (by decide) fun ds outs hw hg => by rw [code_ref30_ranged  _ rfl]; exact h ds outs hw hg

def q0m : Ct := ⟨84, [.val (.st 26), .val (.int .i64)], [(.int .i64, false)], [], none, []⟩
theorem enter_ref30_tag (args : Array Value) (w : World) : (callFunc q0m.f args).run Try.prog w = .ok (.enter q0m.f args) w := by kernel_rfl
def ann_ref30_tag : Ann := ⟨[0, 1, 2, 4, 8], []⟩
def q4p : Tree := (.need [(.ok 0 [(.tok 0), (.tok 1)])] (.br (.not (.call 0 0 [(.tok 0), (.tok 1)])) (.leaf [(.lit (.i (-1)))]) (.need [(.le (.lit (.i 0)) (.tok 1)), (.lt (.tok 1) (.len (.fld (.tok 0) 0)))] (.leaf [(.fld (.get (.fld (.tok 0) 0) (.tok 1)) 0)]))))
set_option maxRecDepth 100000 in
theorem code_ref30_tag (g0 : List D → Option (List D)) : ∀ cd, Try.f84.body = some cd → treeOf Try.prog [(q0h, g0)] ann_ref30_tag q0m Try.f84 cd = q4p := by
  intro cd h
  injection h with h
  subst h
  kernel_rfl
theorem fok_ref30_tag {g0 : List D → Option (List D)} {g : List D → Option (List D)} (h0 : FOk q0h g0) (h : ∀ ds outs, WfA q0m.ars ds → g ds = some outs → q4p.go (tblS [(q0h, g0)]) (fun o => o = outs) ds fun _ _ => False) : FOk q0m g :=
  q09 ann_ref30_tag Try.f84 _ (.cons h0 .nil) rfl rfl enter_ref30_tag (by decide) fun ds outs hw hg => by rw [code_ref30_tag g0 _ rfl]; exact h ds outs hw hg

def q0b : Ct := ⟨40, [.val (.st 26), .val (.st 36)], [(.bool, false)], [], none, []⟩
theorem enter_ref30_ValidCell (args : Array Value) (w : World) : (callFunc q0b.f args).run Try.prog w = .ok (.enter q0b.f args) w := by kernel_rfl
def q4k : Ann := ⟨[0, 1, 2, 3, 4, 6, 7, 20, 22, 29, 36], []⟩
def q2y : Tree := (.br (.eq (.fld (.tok 1) 0) (.lit (.i 0))) (.need [(.ok 0 [(.tok 0), (.fld (.tok 1) 1)]), (.imp (.call 0 0 [(.tok 0), (.fld (.tok 1) 1)]) (.ok 1 [(.tok 0), (.fld (.tok 1) 1)]))] (.leaf [(.and (.call 0 0 [(.tok 0), (.fld (.tok 1) 1)]) (.not (.eq (.call 1 0 [(.tok 0), (.fld (.tok 1) 1)]) (.lit (.i 4)))))])) (.br (.eq (.fld (.tok 1) 0) (.lit (.i 1))) (.leaf [(.lit (.b .true))]) (.br (.eq (.fld (.tok 1) 0) (.lit (.i 2))) (.need [(.ok 2 [(.tok 0), (.fld (.tok 1) 1)])] (.leaf [(.eq (.call 2 0 [(.tok 0), (.fld (.tok 1) 1)]) (.lit (.i 0)))])) (.br (.eq (.fld (.tok 1) 0) (.lit (.i 3))) (.need [(.ok 1 [(.tok 0), (.fld (.tok 1) 1)])] (.leaf [(.eq (.call 1 0 [(.tok 0), (.fld (.tok 1) 1)]) (.lit (.i 4)))])) (.br (.eq (.fld (.tok 1) 0) (.lit (.i 5))) (.need [(.ok 1 [(.tok 0), (.fld (.tok 1) 1)])] (.leaf [(.eq (.call 1 0 [(.tok 0), (.fld (.tok 1) 1)]) (.lit (.i 5)))])) (.leaf [(.lit (.b .false))]))))))
set_option maxRecDepth 100000 in
theorem code_ref30_ValidCell (g0 g1 g2 : List D → Option (List D)) : ∀ cd, Try.f40.body = some cd → treeOf Try.prog [(q0h, g0), (q0m, g1), (q12, g2)] q4k q0b Try.f40 cd = q2y := by
  intro cd h
  injection h with h
  subst h
  kernel_rfl
theorem fok_ref30_ValidCell {g0 g1 g2 : List D → Option (List D)} {g : List D → Option (List D)} (h0 : FOk q0h g0) (h1 : FOk q0m g1) (h2 : FOk q12 g2) (h : ∀ ds outs, WfA q0b.ars ds → g ds = some outs → q2y.go (tblS [(q0h, g0), (q0m, g1), (q12, g2)]) (fun o => o = outs) ds fun _ _ => False) : FOk q0b g :=
  q09 q4k Try.f40 _ (.cons h0 (.cons h1 (.cons h2 .nil))) rfl rfl enter_ref30_ValidCell (by decide) fun ds outs hw hg => by rw [code_ref30_ValidCell g0 g1 g2 _ rfl]; exact h ds outs hw hg

def q1s : Ct := ⟨93, [.val (.st 26), .val (.int .i64)], [(.bool, false)], [], none, []⟩
theorem enter_ref30_ends (args : Array Value) (w : World) : (callFunc q1s.f args).run Try.prog w = .ok (.enter q1s.f args) w := by kernel_rfl
def ann_ref30_ends : Ann := ⟨[0, 1, 2, 4, 5, 10, 26], [(2, ⟨[(4, .bool, false), (1, .int .i64, false), (5, .int .i64, false)], [], [6, 7, 8, 9, 10, 13, 14, 15, 16, 17, 18, 19, 20, 21, 22, 23, 24, 25, 26, 27, 28, 29, 30, 31, 32, 11, 12], []⟩)]⟩
def q44 : Tree := (.loop 2 2 [(.lit (.b .false)), (.tok 1), (.lit (.i 0))] (.br (.le (.tok 4) (.len (.fld (.tok 0) 0))) (.need [(.ok 0 [(.tok 0), (.tok 3)]), (.imp (.not (.not (.eq (.call 0 0 [(.tok 0), (.tok 3)]) (.lit (.i 0))))) (.le (.lit (.i 0)) (.tok 3))), (.imp (.not (.not (.eq (.call 0 0 [(.tok 0), (.tok 3)]) (.lit (.i 0))))) (.lt (.tok 3) (.len (.fld (.tok 0) 0))))] (.br (.or (.not (.eq (.call 0 0 [(.tok 0), (.tok 3)]) (.lit (.i 0)))) (.eq (.fld (.get (.fld (.tok 0) 0) (.tok 3)) 1) (.tok 3))) (.leaf [(.lit (.b .true))]) (.need [(.le (.lit (.i 0)) (.tok 3)), (.lt (.tok 3) (.len (.fld (.tok 0) 0)))] (.need [(.rng .i64 (.add (.tok 4) (.lit (.i 1))))] (.back 2 [(.tok 2), (.fld (.get (.fld (.tok 0) 0) (.tok 3)) 1), (.add (.tok 4) (.lit (.i 1)))]))))) (.leaf [(.lit (.b .false))])))
set_option maxRecDepth 100000 in
theorem code_ref30_ends (g0 : List D → Option (List D)) : ∀ cd, Try.f93.body = some cd → treeOf Try.prog [(q0m, g0)] ann_ref30_ends q1s Try.f93 cd = q44 := by
  intro cd h
  injection h with h
  subst h
  kernel_rfl
theorem fok_ref30_ends {g0 : List D → Option (List D)} {g : List D → Option (List D)} (h0 : FOk q0m g0) (h : ∀ ds outs, WfA q1s.ars ds → g ds = some outs → q44.go (tblS [(q0m, g0)]) (fun o => o = outs) ds fun _ _ => False) : FOk q1s g :=
  q09 ann_ref30_ends Try.f93 _ (.cons h0 .nil) rfl rfl enter_ref30_ends (by decide) fun ds outs hw hg => by rw [code_ref30_ends g0 _ rfl]; exact h ds outs hw hg

def q15 : Ct := ⟨94, [.val (.st 26), .val (.int .i64)], [(.bool, false)], [], none, []⟩
theorem enter_ref30_group (args : Array Value) (w : World) : (callFunc q15.f args).run Try.prog w = .ok (.enter q15.f args) w := by kernel_rfl
def ann_ref30_group : Ann := ⟨[0, 1, 2, 4, 5], []⟩
def q3x : Tree := (.need [(.rng .i64 (.add (.tok 1) (.lit (.i 2)))), (.ok 0 [(.tok 0), (.add (.tok 1) (.lit (.i 2)))])] (.need [(.imp (.and (.eq (.call 0 0 [(.tok 0), (.add (.tok 1) (.lit (.i 1)))]) (.lit (.i 1))) (.le (.lit (.i 1)) (.fld (.get (.fld (.tok 0) 0) (.add (.tok 1) (.lit (.i 1)))) 1))) (.le (.lit (.i 0)) (.add (.tok 1) (.lit (.i 1))))), (.imp (.and (.eq (.call 0 0 [(.tok 0), (.add (.tok 1) (.lit (.i 1)))]) (.lit (.i 1))) (.le (.lit (.i 1)) (.fld (.get (.fld (.tok 0) 0) (.add (.tok 1) (.lit (.i 1)))) 1))) (.lt (.add (.tok 1) (.lit (.i 1))) (.len (.fld (.tok 0) 0)))), (.imp (.and (.eq (.call 0 0 [(.tok 0), (.add (.tok 1) (.lit (.i 1)))]) (.lit (.i 1))) (.le (.lit (.i 1)) (.fld (.get (.fld (.tok 0) 0) (.add (.tok 1) (.lit (.i 1)))) 1))) (.rng .i64 (.add (.tok 1) (.lit (.i 1))))), (.imp (.and (.eq (.call 0 0 [(.tok 0), (.add (.tok 1) (.lit (.i 1)))]) (.lit (.i 1))) (.le (.lit (.i 1)) (.fld (.get (.fld (.tok 0) 0) (.add (.tok 1) (.lit (.i 1)))) 1))) (.le (.lit (.i 0)) (.add (.tok 1) (.lit (.i 1))))), (.imp (.and (.eq (.call 0 0 [(.tok 0), (.add (.tok 1) (.lit (.i 1)))]) (.lit (.i 1))) (.le (.lit (.i 1)) (.fld (.get (.fld (.tok 0) 0) (.add (.tok 1) (.lit (.i 1)))) 1))) (.lt (.add (.tok 1) (.lit (.i 1))) (.len (.fld (.tok 0) 0)))), (.imp (.and (.eq (.call 0 0 [(.tok 0), (.add (.tok 1) (.lit (.i 1)))]) (.lit (.i 1))) (.le (.lit (.i 1)) (.fld (.get (.fld (.tok 0) 0) (.add (.tok 1) (.lit (.i 1)))) 1))) (.rng .i64 (.add (.tok 1) (.lit (.i 1))))), (.imp (.and (.eq (.call 0 0 [(.tok 0), (.add (.tok 1) (.lit (.i 1)))]) (.lit (.i 1))) (.le (.lit (.i 1)) (.fld (.get (.fld (.tok 0) 0) (.add (.tok 1) (.lit (.i 1)))) 1))) (.rng .i64 (.add (.tok 1) (.lit (.i 1))))), (.imp (.and (.eq (.call 0 0 [(.tok 0), (.add (.tok 1) (.lit (.i 1)))]) (.lit (.i 1))) (.le (.lit (.i 1)) (.fld (.get (.fld (.tok 0) 0) (.add (.tok 1) (.lit (.i 1)))) 1))) (.rng .i64 (.add (.tok 1) (.lit (.i 1))))), (.imp (.eq (.call 0 0 [(.tok 0), (.add (.tok 1) (.lit (.i 1)))]) (.lit (.i 1))) (.le (.lit (.i 0)) (.add (.tok 1) (.lit (.i 1))))), (.imp (.eq (.call 0 0 [(.tok 0), (.add (.tok 1) (.lit (.i 1)))]) (.lit (.i 1))) (.lt (.add (.tok 1) (.lit (.i 1))) (.len (.fld (.tok 0) 0)))), (.imp (.eq (.call 0 0 [(.tok 0), (.add (.tok 1) (.lit (.i 1)))]) (.lit (.i 1))) (.rng .i64 (.add (.tok 1) (.lit (.i 1))))), (.ok 0 [(.tok 0), (.add (.tok 1) (.lit (.i 1)))]), (.rng .i64 (.add (.tok 1) (.lit (.i 1))))] (.leaf [(.and (.and (.and (.and (.and (.eq (.call 0 0 [(.tok 0), (.add (.tok 1) (.lit (.i 1)))]) (.lit (.i 1))) (.le (.lit (.i 1)) (.fld (.get (.fld (.tok 0) 0) (.add (.tok 1) (.lit (.i 1)))) 1))) (.le (.fld (.get (.fld (.tok 0) 0) (.add (.tok 1) (.lit (.i 1)))) 1) (.fld (.tok 0) 4))) (.le (.lit (.i 0)) (.call 0 0 [(.tok 0), (.add (.tok 1) (.lit (.i 2)))]))) (.not (.eq (.call 0 0 [(.tok 0), (.add (.tok 1) (.lit (.i 2)))]) (.lit (.i 4))))) (.not (.eq (.call 0 0 [(.tok 0), (.add (.tok 1) (.lit (.i 2)))]) (.lit (.i 5)))))])))
set_option maxRecDepth 100000 in
theorem code_ref30_group (g0 : List D → Option (List D)) : ∀ cd, Try.f94.body = some cd → treeOf Try.prog [(q0m, g0)] ann_ref30_group q15 Try.f94 cd = q3x := by
  intro cd h
  injection h with h
  subst h
  kernel_rfl
theorem fok_ref30_group {g0 : List D → Option (List D)} {g : List D → Option (List D)} (h0 : FOk q0m g0) (h : ∀ ds outs, WfA q15.ars ds → g ds = some outs → q3x.go (tblS [(q0m, g0)]) (fun o => o = outs) ds fun _ _ => False) : FOk q15 g :=
  q09 ann_ref30_group Try.f94 _ (.cons h0 .nil) rfl rfl enter_ref30_group (by decide) fun ds outs hw hg => by rw [code_ref30_group g0 _ rfl]; exact h ds outs hw hg

def q1k : Ct := ⟨50, [.val (.st 26), .val (.int .i64)], [(.bool, false)], [], none, []⟩
theorem enter_ref30_cell (args : Array Value) (w : World) : (callFunc q1k.f args).run Try.prog w = .ok (.enter q1k.f args) w := by kernel_rfl
def ann_ref30_cell : Ann := ⟨[0, 1, 2, 4, 5, 6, 7, 15, 29, 32, 40, 50], [(7, ⟨[(4, .bool, false), (7, .int .i64, false)], [], [30, 31, 32, 35, 36, 37, 38, 39, 40, 33, 34], []⟩)]⟩
def q43 : Tree := (.need [(.le (.lit (.i 0)) (.tok 1)), (.lt (.tok 1) (.len (.fld (.tok 0) 0)))] (.br (.eq (.fld (.get (.fld (.tok 0) 0) (.tok 1)) 0) (.lit (.i 4))) (.need [(.ok 0 [(.tok 0), (.fld (.get (.fld (.tok 0) 0) (.tok 1)) 1)])] (.need [(.imp (.not (.lt (.call 0 0 [(.tok 0), (.fld (.get (.fld (.tok 0) 0) (.tok 1)) 1)]) (.lit (.i 1)))) (.rng .i64 (.add (.tok 1) (.call 0 0 [(.tok 0), (.fld (.get (.fld (.tok 0) 0) (.tok 1)) 1)])))), (.imp (.not (.lt (.call 0 0 [(.tok 0), (.fld (.get (.fld (.tok 0) 0) (.tok 1)) 1)]) (.lit (.i 1)))) (.ok 1 [(.tok 0), (.add (.tok 1) (.call 0 0 [(.tok 0), (.fld (.get (.fld (.tok 0) 0) (.tok 1)) 1)]))]))] (.br (.or (.lt (.call 0 0 [(.tok 0), (.fld (.get (.fld (.tok 0) 0) (.tok 1)) 1)]) (.lit (.i 1))) (.not (.call 1 0 [(.tok 0), (.add (.tok 1) (.call 0 0 [(.tok 0), (.fld (.get (.fld (.tok 0) 0) (.tok 1)) 1)]))]))) (.leaf [(.lit (.b .false))]) (.loop 7 2 [(.lit (.b .false)), (.lit (.i 1))] (.br (.le (.tok 3) (.call 0 0 [(.tok 0), (.fld (.get (.fld (.tok 0) 0) (.tok 1)) 1)])) (.need [(.rng .i64 (.add (.tok 1) (.tok 3))), (.ok 2 [(.tok 0), (.add (.tok 1) (.tok 3))])] (.br (.eq (.call 2 0 [(.tok 0), (.add (.tok 1) (.tok 3))]) (.lit (.i 4))) (.leaf [(.lit (.b .false))]) (.need [(.rng .i64 (.add (.tok 3) (.lit (.i 1))))] (.back 7 [(.tok 2), (.add (.tok 3) (.lit (.i 1)))])))) (.leaf [(.lit (.b .true))])))))) (.need [(.ok 3 [(.tok 0), (.get (.fld (.tok 0) 0) (.tok 1))]), (.imp (.not (.not (.call 3 0 [(.tok 0), (.get (.fld (.tok 0) 0) (.tok 1))]))) (.ok 4 [(.tok 0), (.tok 1)]))] (.br (.or (.not (.call 3 0 [(.tok 0), (.get (.fld (.tok 0) 0) (.tok 1))])) (.not (.call 4 0 [(.tok 0), (.tok 1)]))) (.leaf [(.lit (.b .false))]) (.need [(.imp (.and (.not (.not (.eq (.fld (.get (.fld (.tok 0) 0) (.tok 1)) 0) (.lit (.i 5))))) (.eq (.fld (.get (.fld (.tok 0) 0) (.tok 1)) 1) (.tok 1))) (.ok 5 [(.tok 0), (.tok 1)]))] (.leaf [(.or (.not (.eq (.fld (.get (.fld (.tok 0) 0) (.tok 1)) 0) (.lit (.i 5)))) (.and (.eq (.fld (.get (.fld (.tok 0) 0) (.tok 1)) 1) (.tok 1)) (.call 5 0 [(.tok 0), (.tok 1)])))]))))))
set_option maxRecDepth 100000 in
theorem code_ref30_cell (g0 g1 g2 g3 g4 g5 : List D → Option (List D)) : ∀ cd, Try.f50.body = some cd → treeOf Try.prog [(q12, g0), (q0h, g1), (q0m, g2), (q0b, g3), (q1s, g4), (q15, g5)] ann_ref30_cell q1k Try.f50 cd = q43 := by
  intro cd h
  injection h with h
  subst h
  kernel_rfl
theorem fok_ref30_cell {g0 g1 g2 g3 g4 g5 : List D → Option (List D)} {g : List D → Option (List D)} (h0 : FOk q12 g0) (h1 : FOk q0h g1) (h2 : FOk q0m g2) (h3 : FOk q0b g3) (h4 : FOk q1s g4) (h5 : FOk q15 g5) (h : ∀ ds outs, WfA q1k.ars ds → g ds = some outs → q43.go (tblS [(q12, g0), (q0h, g1), (q0m, g2), (q0b, g3), (q1s, g4), (q15, g5)]) (fun o => o = outs) ds fun _ _ => False) : FOk q1k g :=
  q09 ann_ref30_cell Try.f50 _ (.cons h0 (.cons h1 (.cons h2 (.cons h3 (.cons h4 (.cons h5 .nil)))))) rfl rfl enter_ref30_cell (by decide) fun ds outs hw hg => by rw [code_ref30_cell g0 g1 g2 g3 g4 g5 _ rfl]; exact h ds outs hw hg

def q1q : Ct := ⟨51, [.val (.st 26), .val (.st 79)], [(.bool, false)], [], none, []⟩
theorem enter_ref30_old (args : Array Value) (w : World) : (callFunc q1q.f args).run Try.prog w = .ok (.enter q1q.f args) w := by kernel_rfl
def ann_ref30_old : Ann := ⟨[0, 1, 2, 3, 4, 5, 11, 14, 15, 22, 41], []⟩
def q4m : Tree := (.need [(.ok 0 [(.tok 0), (.fld (.tok 1) 0)])] (.br (.not (.call 0 0 [(.tok 0), (.fld (.tok 1) 0)])) (.leaf [(.lit (.b .false))]) (.br (.eq (.fld (.fld (.tok 1) 1) 0) (.lit (.i 0))) (.leaf [(.eq (.fld (.fld (.tok 1) 1) 1) (.fld (.tok 1) 0))]) (.br (.eq (.fld (.fld (.tok 1) 1) 0) (.lit (.i 5))) (.need [(.imp (.eq (.fld (.fld (.tok 1) 1) 1) (.fld (.tok 1) 0)) (.ok 1 [(.tok 0), (.fld (.tok 1) 0)])), (.imp (.and (.eq (.fld (.fld (.tok 1) 1) 1) (.fld (.tok 1) 0)) (.call 1 0 [(.tok 0), (.fld (.tok 1) 0)])) (.rng .i64 (.sub (.fld (.tok 1) 0) (.lit (.i 1))))), (.imp (.and (.eq (.fld (.fld (.tok 1) 1) 1) (.fld (.tok 1) 0)) (.call 1 0 [(.tok 0), (.fld (.tok 1) 0)])) (.ok 2 [(.tok 0), (.sub (.fld (.tok 1) 0) (.lit (.i 1)))]))] (.leaf [(.and (.and (.eq (.fld (.fld (.tok 1) 1) 1) (.fld (.tok 1) 0)) (.call 1 0 [(.tok 0), (.fld (.tok 1) 0)])) (.not (.eq (.call 2 0 [(.tok 0), (.sub (.fld (.tok 1) 0) (.lit (.i 1)))]) (.lit (.i 5)))))])) (.br (.eq (.fld (.fld (.tok 1) 1) 0) (.lit (.i 1))) (.br (.eq (.fld (.fld (.tok 1) 1) 0) (.lit (.i 1))) (.need [(.ok 3 [(.tok 0), (.fld (.tok 1) 1)])] (.leaf [(.call 3 0 [(.tok 0), (.fld (.tok 1) 1)])])) (.leaf [(.lit (.b .false))])) (.br (.eq (.fld (.fld (.tok 1) 1) 0) (.lit (.i 2))) (.br (.eq (.fld (.fld (.tok 1) 1) 0) (.lit (.i 2))) (.need [(.ok 3 [(.tok 0), (.fld (.tok 1) 1)])] (.leaf [(.call 3 0 [(.tok 0), (.fld (.tok 1) 1)])])) (.leaf [(.lit (.b .false))])) (.br (.eq (.fld (.fld (.tok 1) 1) 0) (.lit (.i 3))) (.need [(.ok 3 [(.tok 0), (.fld (.tok 1) 1)])] (.leaf [(.call 3 0 [(.tok 0), (.fld (.tok 1) 1)])])) (.leaf [(.lit (.b .false))]))))))))
set_option maxRecDepth 100000 in
theorem code_ref30_old (g0 g1 g2 g3 : List D → Option (List D)) : ∀ cd, Try.f51.body = some cd → treeOf Try.prog [(q0h, g0), (q15, g1), (q0m, g2), (q0b, g3)] ann_ref30_old q1q Try.f51 cd = q4m := by
  intro cd h
  injection h with h
  subst h
  kernel_rfl
theorem fok_ref30_old {g0 g1 g2 g3 : List D → Option (List D)} {g : List D → Option (List D)} (h0 : FOk q0h g0) (h1 : FOk q15 g1) (h2 : FOk q0m g2) (h3 : FOk q0b g3) (h : ∀ ds outs, WfA q1q.ars ds → g ds = some outs → q4m.go (tblS [(q0h, g0), (q15, g1), (q0m, g2), (q0b, g3)]) (fun o => o = outs) ds fun _ _ => False) : FOk q1q g :=
  q09 ann_ref30_old Try.f51 _ (.cons h0 (.cons h1 (.cons h2 (.cons h3 .nil)))) rfl rfl enter_ref30_old (by decide) fun ds outs hw hg => by rw [code_ref30_old g0 g1 g2 g3 _ rfl]; exact h ds outs hw hg

def q1o : Ct := ⟨13, [.val (.st 26)], [(.bool, false)], [], none, []⟩
theorem enter_ref30_Valid (args : Array Value) (w : World) : (callFunc q1o.f args).run Try.prog w = .ok (.enter q1o.f args) w := by kernel_rfl
def ann_ref30_Valid : Ann := ⟨[0, 1, 2, 3, 4, 5, 6, 33, 38, 44, 49, 59, 64, 95], [(4, ⟨[(2, .bool, false), (3, .int .i64, false)], [], [34, 35, 36, 37, 38, 41, 42, 43, 44, 39, 40], []⟩),
  (9, ⟨[(2, .bool, false), (4, .int .i64, false)], [], [45, 46, 47, 48, 49, 52, 53, 54, 55, 56, 57, 58, 59, 50, 51], []⟩),
  (14, ⟨[(2, .bool, false), (5, .int .i64, false)], [], [60, 61, 62, 63, 64, 67, 68, 69, 70, 71, 6, 72, 73, 74, 75, 76, 77, 78, 79, 80, 81, 82, 83, 84, 85, 86, 87, 88, 89, 90, 91, 92, 93, 94, 95, 65, 66], []⟩)]⟩
def q3w : Tree := (.need [(.imp (.not (.or (.or (.or (.lt (.fld (.tok 0) 5) (.lit (.i 1))) (.lt (.lit (.i 1048576)) (.fld (.tok 0) 5))) (.lt (.fld (.tok 0) 5) (.len (.fld (.tok 0) 0)))) (.lt (.fld (.tok 0) 4) (.lit (.i 0))))) (.ok 0 [(.fld (.tok 0) 1)]))] (.br (.or (.or (.or (.or (.lt (.fld (.tok 0) 5) (.lit (.i 1))) (.lt (.lit (.i 1048576)) (.fld (.tok 0) 5))) (.lt (.fld (.tok 0) 5) (.len (.fld (.tok 0) 0)))) (.lt (.fld (.tok 0) 4) (.lit (.i 0)))) (.not (.call 0 0 [(.fld (.tok 0) 1)]))) (.leaf [(.lit (.b .false))]) (.loop 4 1 [(.lit (.b .false)), (.lit (.i 0))] (.br (.lt (.tok 2) (.len (.fld (.tok 0) 0))) (.need [(.ok 1 [(.tok 0), (.tok 2)])] (.br (.not (.call 1 0 [(.tok 0), (.tok 2)])) (.leaf [(.lit (.b .false))]) (.need [(.rng .i64 (.add (.tok 2) (.lit (.i 1))))] (.back 4 [(.tok 1), (.add (.tok 2) (.lit (.i 1)))])))) (.loop 9 3 [(.tok 1), (.lit (.i 0))] (.br (.lt (.tok 4) (.len (.fld (.tok 0) 2))) (.need [(.ok 2 [(.tok 0), (.get (.fld (.tok 0) 2) (.tok 4))]), (.le (.lit (.i 0)) (.tok 4)), (.lt (.tok 4) (.len (.fld (.tok 0) 2)))] (.br (.not (.call 2 0 [(.tok 0), (.get (.fld (.tok 0) 2) (.tok 4))])) (.leaf [(.lit (.b .false))]) (.need [(.rng .i64 (.add (.tok 4) (.lit (.i 1))))] (.back 9 [(.tok 3), (.add (.tok 4) (.lit (.i 1)))])))) (.loop 14 5 [(.tok 3), (.lit (.i 0))] (.br (.lt (.tok 6) (.len (.fld (.tok 0) 3))) (.need [(.le (.lit (.i 0)) (.tok 6)), (.lt (.tok 6) (.len (.fld (.tok 0) 3)))] (.need [(.imp (.not (.or (.lt (.fld (.get (.fld (.tok 0) 3) (.tok 6)) 0) (.lit (.i 1))) (.lt (.fld (.tok 0) 4) (.fld (.get (.fld (.tok 0) 3) (.tok 6)) 0)))) (.ok 3 [(.tok 0), (.fld (.get (.fld (.tok 0) 3) (.tok 6)) 1)])), (.imp (.not (.or (.or (.lt (.fld (.get (.fld (.tok 0) 3) (.tok 6)) 0) (.lit (.i 1))) (.lt (.fld (.tok 0) 4) (.fld (.get (.fld (.tok 0) 3) (.tok 6)) 0))) (.not (.call 3 0 [(.tok 0), (.fld (.get (.fld (.tok 0) 3) (.tok 6)) 1)])))) (.ok 3 [(.tok 0), (.fld (.get (.fld (.tok 0) 3) (.tok 6)) 2)]))] (.br (.or (.or (.or (.lt (.fld (.get (.fld (.tok 0) 3) (.tok 6)) 0) (.lit (.i 1))) (.lt (.fld (.tok 0) 4) (.fld (.get (.fld (.tok 0) 3) (.tok 6)) 0))) (.not (.call 3 0 [(.tok 0), (.fld (.get (.fld (.tok 0) 3) (.tok 6)) 1)]))) (.not (.call 3 0 [(.tok 0), (.fld (.get (.fld (.tok 0) 3) (.tok 6)) 2)]))) (.leaf [(.lit (.b .false))]) (.need [(.rng .i64 (.add (.tok 6) (.lit (.i 1))))] (.back 14 [(.tok 5), (.add (.tok 6) (.lit (.i 1)))]))))) (.leaf [(.lit (.b .true))])))))))))
set_option maxRecDepth 100000 in
theorem code_ref30_Valid (g0 g1 g2 g3 : List D → Option (List D)) : ∀ cd, Try.f13.body = some cd → treeOf Try.prog [(q19, g0), (q1k, g1), (q1q, g2), (q0b, g3)] ann_ref30_Valid q1o Try.f13 cd = q3w := by
  intro cd h
  injection h with h
  subst h
  kernel_rfl
theorem fok_ref30_Valid {g0 g1 g2 g3 : List D → Option (List D)} {g : List D → Option (List D)} (h0 : FOk q19 g0) (h1 : FOk q1k g1) (h2 : FOk q1q g2) (h3 : FOk q0b g3) (h : ∀ ds outs, WfA q1o.ars ds → g ds = some outs → q3w.go (tblS [(q19, g0), (q1k, g1), (q1q, g2), (q0b, g3)]) (fun o => o = outs) ds fun _ _ => False) : FOk q1o g :=
  q09 ann_ref30_Valid Try.f13 _ (.cons h0 (.cons h1 (.cons h2 (.cons h3 .nil)))) rfl rfl enter_ref30_Valid (by decide) fun ds outs hw hg => by rw [code_ref30_Valid g0 g1 g2 g3 _ rfl]; exact h ds outs hw hg

def q13 : Ct := ⟨15, [.val (.st 26)], [(.st 26, true)], [], none, []⟩
theorem enter_ref30_Clone (args : Array Value) (w : World) : (callFunc q13.f args).run Try.prog w = .ok (.enter q13.f args) w := by kernel_rfl
def ann_ref30_Clone : Ann := ⟨[0, 1, 2, 3], []⟩
def q3u : Tree := (.need [(.le (.len (.fld (.tok 0) 0)) (.lit (.i 8796093021952)))] (.need [(.le (.len (.fld (.tok 0) 1)) (.lit (.i 5864062014634)))] (.need [(.le (.len (.fld (.tok 0) 2)) (.lit (.i 5864062014634)))] (.need [(.le (.len (.fld (.tok 0) 3)) (.lit (.i 3518437208780)))] (.leaf [(.set (.set (.set (.set (.tok 0) 0 (.app (.lit (.r [])) (.fld (.tok 0) 0))) 1 (.app (.lit (.r [])) (.fld (.tok 0) 1))) 2 (.app (.lit (.r [])) (.fld (.tok 0) 2))) 3 (.app (.lit (.r [])) (.fld (.tok 0) 3)))])))))
set_option maxRecDepth 100000 in
theorem code_ref30_Clone : ∀ cd, Try.f15.body = some cd → treeOf Try.prog [] ann_ref30_Clone q13 Try.f15 cd = q3u := by
  intro cd h
  injection h with h
  subst h
  kernel_rfl
theorem fok_ref30_Clone {g : List D → Option (List D)}  (h : ∀ ds outs, WfA q13.ars ds → g ds = some outs → q3u.go (tblS []) (fun o => o = outs) ds fun _ _ => False) : FOk q13 g :=
  q09 ann_ref30_Clone Try.f15 _ .nil rfl rfl enter_ref30_Clone (by decide) fun ds outs hw hg => by rw [code_ref30_Clone  _ rfl]; exact h ds outs hw hg

def q2m : Ct := ⟨53, [.val (.st 26), .val (.str), .val (.int .i64)], [(.int .i64, false)], [], none, []⟩
theorem enter_ref30_Find (args : Array Value) (w : World) : (callFunc q2m.f args).run Try.prog w = .ok (.enter q2m.f args) w := by kernel_rfl
def ann_ref30_Find : Ann := ⟨[0, 1, 2, 3, 6, 7, 12, 32], [(2, ⟨[(6, .int .i64, false), (7, .int .i64, false)], [], [8, 9, 10, 11, 12, 15, 16, 17, 18, 19, 20, 21, 22, 23, 24, 25, 26, 27, 28, 29, 30, 31, 32, 33, 13, 14], []⟩)]⟩
def q48 : Tree := (.loop 2 3 [(.lit (.i 0)), (.lit (.i 0))] (.br (.lt (.tok 4) (.len (.fld (.tok 0) 1))) (.need [(.le (.lit (.i 0)) (.tok 4)), (.lt (.tok 4) (.len (.fld (.tok 0) 1))), (.imp (.eq (.fld (.get (.fld (.tok 0) 1) (.tok 4)) 0) (.tok 1)) (.le (.lit (.i 0)) (.tok 4))), (.imp (.eq (.fld (.get (.fld (.tok 0) 1) (.tok 4)) 0) (.tok 1)) (.lt (.tok 4) (.len (.fld (.tok 0) 1))))] (.br (.and (.eq (.fld (.get (.fld (.tok 0) 1) (.tok 4)) 0) (.tok 1)) (.eq (.fld (.get (.fld (.tok 0) 1) (.tok 4)) 1) (.tok 2))) (.leaf [(.tok 4)]) (.need [(.rng .i64 (.add (.tok 4) (.lit (.i 1))))] (.back 2 [(.tok 3), (.add (.tok 4) (.lit (.i 1)))])))) (.leaf [(.lit (.i (-1)))])))
set_option maxRecDepth 100000 in
theorem code_ref30_Find : ∀ cd, Try.f53.body = some cd → treeOf Try.prog [] ann_ref30_Find q2m Try.f53 cd = q48 := by
  intro cd h
  injection h with h
  subst h
  kernel_rfl
theorem fok_ref30_Find {g : List D → Option (List D)}  (h : ∀ ds outs, WfA q2m.ars ds → g ds = some outs → q48.go (tblS []) (fun o => o = outs) ds fun _ _ => False) : FOk q2m g :=
  q09 ann_ref30_Find Try.f53 _ .nil rfl rfl enter_ref30_Find (by decide) fun ds outs hw hg => by rw [code_ref30_Find  _ rfl]; exact h ds outs hw hg

end Go.Proofs.Ytinclokohcommaa


namespace Go.Proofs.Ytinclokohcommaa
open Go.RowKit
set_option linter.unusedVariables false
set_option maxRecDepth 100000

def q0g : Ct := ⟨101, [.ref (.st 26), .val (.str), .val (.int .i64)], [(.int .i64, false)], [], none, [1]⟩
theorem enter_ref30_symbol (args : Array Value) (w : World) : (callFunc q0g.f args).run Try.prog w = .ok (.enter q0g.f args) w := by kernel_rfl
def q17 : Ct := ⟨63, [.val (.st 26), .val (.row 49)], [(.bool, false)], [], none, []⟩
theorem enter_ref30_ValidVars (args : Array Value) (w : World) : (callFunc q17.f args).run Try.prog w = .ok (.enter q17.f args) w := by kernel_rfl
def q4f : Ann := ⟨[0, 1, 2, 4, 5, 9, 53], [(2, ⟨[(4, .bool, false), (5, .int .i64, false)], [], [6, 7, 8, 9, 12, 13, 14, 15, 16, 17, 18, 19, 20, 21, 22, 23, 24, 25, 26, 27, 28, 29, 30, 31, 32, 33, 34, 35, 36, 37, 38, 39, 40, 41, 42, 43, 44, 45, 46, 47, 48, 49, 50, 51, 52, 53, 10, 11], []⟩)]⟩
def q31 : Tree := (.loop 2 2 [(.lit (.b .false)), (.lit (.i 0))] (.br (.lt (.tok 3) (.len (.tok 1))) (.need [(.imp (.not (.or (.or (.lt (.fld (.get (.tok 1) (.tok 3)) 0) (.lit (.i 0))) (.lt (.lit (.i 1099511627776)) (.fld (.get (.tok 1) (.tok 3)) 0))) (.and (.lt (.lit (.i 0)) (.tok 3)) (.le (.fld (.get (.tok 1) (.tok 3)) 0) (.fld (.get (.tok 1) (.sub (.tok 3) (.lit (.i 1)))) 0))))) (.ok 0 [(.tok 0), (.fld (.get (.tok 1) (.tok 3)) 1)])), (.imp (.not (.or (.or (.lt (.fld (.get (.tok 1) (.tok 3)) 0) (.lit (.i 0))) (.lt (.lit (.i 1099511627776)) (.fld (.get (.tok 1) (.tok 3)) 0))) (.and (.lt (.lit (.i 0)) (.tok 3)) (.le (.fld (.get (.tok 1) (.tok 3)) 0) (.fld (.get (.tok 1) (.sub (.tok 3) (.lit (.i 1)))) 0))))) (.le (.lit (.i 0)) (.tok 3))), (.imp (.not (.or (.or (.lt (.fld (.get (.tok 1) (.tok 3)) 0) (.lit (.i 0))) (.lt (.lit (.i 1099511627776)) (.fld (.get (.tok 1) (.tok 3)) 0))) (.and (.lt (.lit (.i 0)) (.tok 3)) (.le (.fld (.get (.tok 1) (.tok 3)) 0) (.fld (.get (.tok 1) (.sub (.tok 3) (.lit (.i 1)))) 0))))) (.lt (.tok 3) (.len (.tok 1)))), (.imp (.and (.not (.or (.lt (.fld (.get (.tok 1) (.tok 3)) 0) (.lit (.i 0))) (.lt (.lit (.i 1099511627776)) (.fld (.get (.tok 1) (.tok 3)) 0)))) (.lt (.lit (.i 0)) (.tok 3))) (.le (.lit (.i 0)) (.tok 3))), (.imp (.and (.not (.or (.lt (.fld (.get (.tok 1) (.tok 3)) 0) (.lit (.i 0))) (.lt (.lit (.i 1099511627776)) (.fld (.get (.tok 1) (.tok 3)) 0)))) (.lt (.lit (.i 0)) (.tok 3))) (.lt (.tok 3) (.len (.tok 1)))), (.imp (.and (.not (.or (.lt (.fld (.get (.tok 1) (.tok 3)) 0) (.lit (.i 0))) (.lt (.lit (.i 1099511627776)) (.fld (.get (.tok 1) (.tok 3)) 0)))) (.lt (.lit (.i 0)) (.tok 3))) (.le (.lit (.i 0)) (.sub (.tok 3) (.lit (.i 1))))), (.imp (.and (.not (.or (.lt (.fld (.get (.tok 1) (.tok 3)) 0) (.lit (.i 0))) (.lt (.lit (.i 1099511627776)) (.fld (.get (.tok 1) (.tok 3)) 0)))) (.lt (.lit (.i 0)) (.tok 3))) (.lt (.sub (.tok 3) (.lit (.i 1))) (.len (.tok 1)))), (.imp (.and (.not (.or (.lt (.fld (.get (.tok 1) (.tok 3)) 0) (.lit (.i 0))) (.lt (.lit (.i 1099511627776)) (.fld (.get (.tok 1) (.tok 3)) 0)))) (.lt (.lit (.i 0)) (.tok 3))) (.rng .i64 (.sub (.tok 3) (.lit (.i 1))))), (.imp (.and (.not (.or (.lt (.fld (.get (.tok 1) (.tok 3)) 0) (.lit (.i 0))) (.lt (.lit (.i 1099511627776)) (.fld (.get (.tok 1) (.tok 3)) 0)))) (.lt (.lit (.i 0)) (.tok 3))) (.le (.lit (.i 0)) (.tok 3))), (.imp (.and (.not (.or (.lt (.fld (.get (.tok 1) (.tok 3)) 0) (.lit (.i 0))) (.lt (.lit (.i 1099511627776)) (.fld (.get (.tok 1) (.tok 3)) 0)))) (.lt (.lit (.i 0)) (.tok 3))) (.lt (.tok 3) (.len (.tok 1)))), (.imp (.and (.not (.or (.lt (.fld (.get (.tok 1) (.tok 3)) 0) (.lit (.i 0))) (.lt (.lit (.i 1099511627776)) (.fld (.get (.tok 1) (.tok 3)) 0)))) (.lt (.lit (.i 0)) (.tok 3))) (.le (.lit (.i 0)) (.sub (.tok 3) (.lit (.i 1))))), (.imp (.and (.not (.or (.lt (.fld (.get (.tok 1) (.tok 3)) 0) (.lit (.i 0))) (.lt (.lit (.i 1099511627776)) (.fld (.get (.tok 1) (.tok 3)) 0)))) (.lt (.lit (.i 0)) (.tok 3))) (.lt (.sub (.tok 3) (.lit (.i 1))) (.len (.tok 1)))), (.imp (.and (.not (.or (.lt (.fld (.get (.tok 1) (.tok 3)) 0) (.lit (.i 0))) (.lt (.lit (.i 1099511627776)) (.fld (.get (.tok 1) (.tok 3)) 0)))) (.lt (.lit (.i 0)) (.tok 3))) (.rng .i64 (.sub (.tok 3) (.lit (.i 1))))), (.imp (.and (.not (.or (.lt (.fld (.get (.tok 1) (.tok 3)) 0) (.lit (.i 0))) (.lt (.lit (.i 1099511627776)) (.fld (.get (.tok 1) (.tok 3)) 0)))) (.lt (.lit (.i 0)) (.tok 3))) (.rng .i64 (.sub (.tok 3) (.lit (.i 1))))), (.imp (.and (.not (.or (.lt (.fld (.get (.tok 1) (.tok 3)) 0) (.lit (.i 0))) (.lt (.lit (.i 1099511627776)) (.fld (.get (.tok 1) (.tok 3)) 0)))) (.lt (.lit (.i 0)) (.tok 3))) (.le (.lit (.i 0)) (.tok 3))), (.imp (.and (.not (.or (.lt (.fld (.get (.tok 1) (.tok 3)) 0) (.lit (.i 0))) (.lt (.lit (.i 1099511627776)) (.fld (.get (.tok 1) (.tok 3)) 0)))) (.lt (.lit (.i 0)) (.tok 3))) (.lt (.tok 3) (.len (.tok 1)))), (.imp (.and (.not (.or (.lt (.fld (.get (.tok 1) (.tok 3)) 0) (.lit (.i 0))) (.lt (.lit (.i 1099511627776)) (.fld (.get (.tok 1) (.tok 3)) 0)))) (.lt (.lit (.i 0)) (.tok 3))) (.le (.lit (.i 0)) (.tok 3))), (.imp (.and (.not (.or (.lt (.fld (.get (.tok 1) (.tok 3)) 0) (.lit (.i 0))) (.lt (.lit (.i 1099511627776)) (.fld (.get (.tok 1) (.tok 3)) 0)))) (.lt (.lit (.i 0)) (.tok 3))) (.lt (.tok 3) (.len (.tok 1)))), (.imp (.and (.not (.or (.lt (.fld (.get (.tok 1) (.tok 3)) 0) (.lit (.i 0))) (.lt (.lit (.i 1099511627776)) (.fld (.get (.tok 1) (.tok 3)) 0)))) (.lt (.lit (.i 0)) (.tok 3))) (.le (.lit (.i 0)) (.sub (.tok 3) (.lit (.i 1))))), (.imp (.and (.not (.or (.lt (.fld (.get (.tok 1) (.tok 3)) 0) (.lit (.i 0))) (.lt (.lit (.i 1099511627776)) (.fld (.get (.tok 1) (.tok 3)) 0)))) (.lt (.lit (.i 0)) (.tok 3))) (.lt (.sub (.tok 3) (.lit (.i 1))) (.len (.tok 1)))), (.imp (.and (.not (.or (.lt (.fld (.get (.tok 1) (.tok 3)) 0) (.lit (.i 0))) (.lt (.lit (.i 1099511627776)) (.fld (.get (.tok 1) (.tok 3)) 0)))) (.lt (.lit (.i 0)) (.tok 3))) (.rng .i64 (.sub (.tok 3) (.lit (.i 1))))), (.imp (.and (.not (.or (.lt (.fld (.get (.tok 1) (.tok 3)) 0) (.lit (.i 0))) (.lt (.lit (.i 1099511627776)) (.fld (.get (.tok 1) (.tok 3)) 0)))) (.lt (.lit (.i 0)) (.tok 3))) (.rng .i64 (.sub (.tok 3) (.lit (.i 1))))), (.imp (.and (.not (.or (.lt (.fld (.get (.tok 1) (.tok 3)) 0) (.lit (.i 0))) (.lt (.lit (.i 1099511627776)) (.fld (.get (.tok 1) (.tok 3)) 0)))) (.lt (.lit (.i 0)) (.tok 3))) (.rng .i64 (.sub (.tok 3) (.lit (.i 1))))), (.imp (.and (.not (.or (.lt (.fld (.get (.tok 1) (.tok 3)) 0) (.lit (.i 0))) (.lt (.lit (.i 1099511627776)) (.fld (.get (.tok 1) (.tok 3)) 0)))) (.lt (.lit (.i 0)) (.tok 3))) (.le (.lit (.i 0)) (.tok 3))), (.imp (.and (.not (.or (.lt (.fld (.get (.tok 1) (.tok 3)) 0) (.lit (.i 0))) (.lt (.lit (.i 1099511627776)) (.fld (.get (.tok 1) (.tok 3)) 0)))) (.lt (.lit (.i 0)) (.tok 3))) (.lt (.tok 3) (.len (.tok 1)))), (.imp (.and (.not (.or (.lt (.fld (.get (.tok 1) (.tok 3)) 0) (.lit (.i 0))) (.lt (.lit (.i 1099511627776)) (.fld (.get (.tok 1) (.tok 3)) 0)))) (.lt (.lit (.i 0)) (.tok 3))) (.rng .i64 (.sub (.tok 3) (.lit (.i 1))))), (.imp (.not (.lt (.fld (.get (.tok 1) (.tok 3)) 0) (.lit (.i 0)))) (.le (.lit (.i 0)) (.tok 3))), (.imp (.not (.lt (.fld (.get (.tok 1) (.tok 3)) 0) (.lit (.i 0)))) (.lt (.tok 3) (.len (.tok 1)))), (.le (.lit (.i 0)) (.tok 3)), (.lt (.tok 3) (.len (.tok 1)))] (.br (.or (.or (.or (.lt (.fld (.get (.tok 1) (.tok 3)) 0) (.lit (.i 0))) (.lt (.lit (.i 1099511627776)) (.fld (.get (.tok 1) (.tok 3)) 0))) (.and (.lt (.lit (.i 0)) (.tok 3)) (.le (.fld (.get (.tok 1) (.tok 3)) 0) (.fld (.get (.tok 1) (.sub (.tok 3) (.lit (.i 1)))) 0)))) (.not (.call 0 0 [(.tok 0), (.fld (.get (.tok 1) (.tok 3)) 1)]))) (.leaf [(.lit (.b .false))]) (.need [(.rng .i64 (.add (.tok 3) (.lit (.i 1))))] (.back 2 [(.tok 2), (.add (.tok 3) (.lit (.i 1)))])))) (.leaf [(.lit (.b .true))])))
set_option maxRecDepth 100000 in
theorem code_ref30_ValidVars (g0 : List D → Option (List D)) : ∀ cd, Try.f63.body = some cd → treeOf Try.prog [(q0b, g0)] q4f q17 Try.f63 cd = q31 := by
  intro cd h
  injection h with h
  subst h
  kernel_rfl
theorem fok_ref30_ValidVars {g0 : List D → Option (List D)} {g : List D → Option (List D)} (h0 : FOk q0b g0) (h : ∀ ds outs, WfA q17.ars ds → g ds = some outs → q31.go (tblS [(q0b, g0)]) (fun o => o = outs) ds fun _ _ => False) : FOk q17 g :=
  q09 q4f Try.f63 _ (.cons h0 .nil) rfl rfl enter_ref30_ValidVars (by decide) fun ds outs hw hg => by rw [code_ref30_ValidVars g0 _ rfl]; exact h ds outs hw hg

def q28 : Ct := ⟨102, [.val (.row 49), .val (.int .i64)], [(.int .i64, false)], [], none, []⟩
theorem enter_ref30_of (args : Array Value) (w : World) : (callFunc q28.f args).run Try.prog w = .ok (.enter q28.f args) w := by kernel_rfl
def ann_ref30_of : Ann := ⟨[0, 1, 4, 5, 9, 18], [(2, ⟨[(4, .int .i64, false), (5, .int .i64, false)], [], [6, 7, 8, 9, 12, 13, 14, 15, 16, 17, 18, 19, 10, 11], []⟩)]⟩
def tree_ref30_of : Tree := (.loop 2 2 [(.lit (.i 0)), (.lit (.i 0))] (.br (.lt (.tok 3) (.len (.tok 0))) (.need [(.le (.lit (.i 0)) (.tok 3)), (.lt (.tok 3) (.len (.tok 0)))] (.br (.eq (.fld (.get (.tok 0) (.tok 3)) 0) (.tok 1)) (.leaf [(.tok 3)]) (.need [(.rng .i64 (.add (.tok 3) (.lit (.i 1))))] (.back 2 [(.tok 2), (.add (.tok 3) (.lit (.i 1)))])))) (.leaf [(.lit (.i (-1)))])))
set_option maxRecDepth 100000 in
theorem code_ref30_of : ∀ cd, Try.f102.body = some cd → treeOf Try.prog [] ann_ref30_of q28 Try.f102 cd = tree_ref30_of := by
  intro cd h
  injection h with h
  subst h
  kernel_rfl
theorem fok_ref30_of {g : List D → Option (List D)}  (h : ∀ ds outs, WfA q28.ars ds → g ds = some outs → tree_ref30_of.go (tblS []) (fun o => o = outs) ds fun _ _ => False) : FOk q28 g :=
  q09 ann_ref30_of Try.f102 _ .nil rfl rfl enter_ref30_of (by decide) fun ds outs hw hg => by rw [code_ref30_of  _ rfl]; exact h ds outs hw hg

def q1u : Ct := ⟨103, [.val (.st 36)], [(.st 36, false)], [], none, []⟩
theorem enter_ref30_Kept (args : Array Value) (w : World) : (callFunc q1u.f args).run Try.prog w = .ok (.enter q1u.f args) w := by kernel_rfl
def ann_ref30_Kept : Ann := ⟨[0, 1, 2, 5], []⟩
def q49 : Tree := (.br (.eq (.fld (.tok 0) 0) (.lit (.i 5))) (.leaf [(.mk [(.lit (.i 0)), (.fld (.tok 0) 1)])]) (.leaf [(.tok 0)]))
set_option maxRecDepth 100000 in
theorem code_ref30_Kept : ∀ cd, Try.f103.body = some cd → treeOf Try.prog [] ann_ref30_Kept q1u Try.f103 cd = q49 := by
  intro cd h
  injection h with h
  subst h
  kernel_rfl
theorem fok_ref30_Kept {g : List D → Option (List D)}  (h : ∀ ds outs, WfA q1u.ars ds → g ds = some outs → q49.go (tblS []) (fun o => o = outs) ds fun _ _ => False) : FOk q1u g :=
  q09 ann_ref30_Kept Try.f103 _ .nil rfl rfl enter_ref30_Kept (by decide) fun ds outs hw hg => by rw [code_ref30_Kept  _ rfl]; exact h ds outs hw hg

def q1t : Ct := ⟨104, [.val (.row 49), .val (.int .i64), .val (.st 36)], [(.row 49, true)], [], none, []⟩
theorem enter_ref30_More (args : Array Value) (w : World) : (callFunc q1t.f args).run Try.prog w = .ok (.enter q1t.f args) w := by kernel_rfl
def ann_ref30_More : Ann := ⟨[0, 1, 2, 5, 6, 7, 8, 9, 22], [(3, ⟨[(7, .row 49, false), (8, .int .i64, false)], [], [10, 11, 12, 13, 14, 15, 16, 17, 18, 19, 20, 21, 22, 25, 26, 27, 28, 29, 30, 31, 23, 24], []⟩)]⟩
def q42 : Tree := (.loop 3 3 [(.lit (.r [])), (.lit (.i 0))] (.need [(.imp (.lt (.tok 4) (.len (.tok 0))) (.le (.lit (.i 0)) (.tok 4))), (.imp (.lt (.tok 4) (.len (.tok 0))) (.lt (.tok 4) (.len (.tok 0))))] (.br (.and (.lt (.tok 4) (.len (.tok 0))) (.lt (.fld (.get (.tok 0) (.tok 4)) 0) (.tok 1))) (.need [(.le (.lit (.i 0)) (.tok 4)), (.lt (.tok 4) (.len (.tok 0))), (.le (.add (.len (.tok 3)) (.lit (.i 1))) (.lit (.i 5864062014634)))] (.need [(.rng .i64 (.add (.tok 4) (.lit (.i 1))))] (.back 3 [(.app (.tok 3) (.row [(.get (.tok 0) (.tok 4))])), (.add (.tok 4) (.lit (.i 1)))]))) (.need [(.le (.add (.len (.tok 3)) (.lit (.i 1))) (.lit (.i 5864062014634)))] (.need [(.le (.lit (.i 0)) (.len (.tok 3))), (.le (.len (.tok 3)) (.len (.tok 0))), (.le (.add (.len (.app (.tok 3) (.row [(.mk [(.tok 1), (.tok 2)])]))) (.len (.cut (.tok 0) (.len (.tok 3)) (.len (.tok 0))))) (.lit (.i 5864062014634)))] (.leaf [(.app (.app (.tok 3) (.row [(.mk [(.tok 1), (.tok 2)])])) (.cut (.tok 0) (.len (.tok 3)) (.len (.tok 0))))]))))))
set_option maxRecDepth 100000 in
theorem code_ref30_More : ∀ cd, Try.f104.body = some cd → treeOf Try.prog [] ann_ref30_More q1t Try.f104 cd = q42 := by
  intro cd h
  injection h with h
  subst h
  kernel_rfl
theorem fok_ref30_More {g : List D → Option (List D)}  (h : ∀ ds outs, WfA q1t.ars ds → g ds = some outs → q42.go (tblS []) (fun o => o = outs) ds fun _ _ => False) : FOk q1t g :=
  q09 ann_ref30_More Try.f104 _ .nil rfl rfl enter_ref30_More (by decide) fun ds outs hw hg => by rw [code_ref30_More  _ rfl]; exact h ds outs hw hg

def q1g : Ct := ⟨64, [.ref (.st 26), .val (.st 42), .val (.row 49)], [(.st 36, false), (.row 49, false)], [], none, []⟩
theorem enter_ref30_add (args : Array Value) (w : World) : (callFunc q1g.f args).run Try.prog w = .ok (.enter q1g.f args) w := by kernel_rfl
def ann_ref30_add : Ann := ⟨[0, 1, 2, 4, 6, 7, 8, 9, 10, 11, 12, 13, 14, 16, 17, 23, 31, 38, 105, 128], [(17, ⟨[(2, .row 49, false), (11, .int .i64, false)], [0], [101, 102, 103, 104, 105, 108, 109, 110, 111, 12, 112, 113, 114, 115, 116, 13, 117, 118, 14, 119, 120, 121, 122, 123, 124, 125, 126, 127, 128, 129, 130, 131, 132, 133, 135, 136, 137, 138, 134, 139, 140, 141, 142, 143, 144, 145, 146, 147, 106, 107], []⟩)]⟩
def q27 : Tree := (.br (.eq (.fld (.tok 1) 0) (.lit (.i 1))) (.leaf [(.mk [(.lit (.i 1)), (.fld (.tok 1) 1)]), (.tok 2), (.tok 0)]) (.br (.eq (.fld (.tok 1) 0) (.lit (.i 2))) (.need [(.ok 0 [(.tok 0), (.fld (.tok 1) 2), (.lit (.i 0))])] (.leaf [(.mk [(.lit (.i 2)), (.call 0 0 [(.tok 0), (.fld (.tok 1) 2), (.lit (.i 0))])]), (.tok 2), (.call 0 1 [(.tok 0), (.fld (.tok 1) 2), (.lit (.i 0))])])) (.br (.eq (.fld (.tok 1) 0) (.lit (.i 0))) (.need [(.ok 1 [(.tok 2), (.fld (.tok 1) 1)])] (.br (.le (.lit (.i 0)) (.call 1 0 [(.tok 2), (.fld (.tok 1) 1)])) (.need [(.le (.lit (.i 0)) (.call 1 0 [(.tok 2), (.fld (.tok 1) 1)])), (.lt (.call 1 0 [(.tok 2), (.fld (.tok 1) 1)]) (.len (.tok 2))), (.ok 2 [(.fld (.get (.tok 2) (.call 1 0 [(.tok 2), (.fld (.tok 1) 1)])) 1)])] (.leaf [(.call 2 0 [(.fld (.get (.tok 2) (.call 1 0 [(.tok 2), (.fld (.tok 1) 1)])) 1)]), (.tok 2), (.tok 0)])) (.need [(.le (.add (.len (.fld (.tok 0) 0)) (.lit (.i 1))) (.lit (.i 8796093021952)))] (.need [(.ok 3 [(.tok 2), (.fld (.tok 1) 1), (.mk [(.lit (.i 0)), (.len (.fld (.tok 0) 0))])])] (.leaf [(.mk [(.lit (.i 0)), (.len (.fld (.tok 0) 0))]), (.call 3 0 [(.tok 2), (.fld (.tok 1) 1), (.mk [(.lit (.i 0)), (.len (.fld (.tok 0) 0))])]), (.set (.tok 0) 0 (.app (.fld (.tok 0) 0) (.row [(.mk [(.lit (.i 0)), (.len (.fld (.tok 0) 0))])])))]))))) (.need [(.le (.add (.len (.fld (.call 0 1 [(.tok 0), (.fld (.tok 1) 2), (.len (.fld (.tok 1) 3))]) 0)) (.lit (.i 1))) (.lit (.i 8796093021952))), (.ok 0 [(.tok 0), (.fld (.tok 1) 2), (.len (.fld (.tok 1) 3))]), (.eq (.fld (.call 0 1 [(.tok 0), (.fld (.tok 1) 2), (.len (.fld (.tok 1) 3))]) 0) (.fld (.tok 0) 0))] (.need [(.le (.lit (.i 0)) (.len (.fld (.tok 1) 3))), (.le (.len (.fld (.tok 1) 3)) (.lit (.i 16777216))), (.le (.add (.len (.fld (.set (.call 0 1 [(.tok 0), (.fld (.tok 1) 2), (.len (.fld (.tok 1) 3))]) 0 (.app (.fld (.call 0 1 [(.tok 0), (.fld (.tok 1) 2), (.len (.fld (.tok 1) 3))]) 0) (.row [(.mk [(.lit (.i 4)), (.call 0 0 [(.tok 0), (.fld (.tok 1) 2), (.len (.fld (.tok 1) 3))])])]))) 0)) (.len (.fld (.tok 1) 3))) (.lit (.i 8796093021952)))] (.loop 17 3 [(.tok 2), (.lit (.i 0)), (.set (.set (.call 0 1 [(.tok 0), (.fld (.tok 1) 2), (.len (.fld (.tok 1) 3))]) 0 (.app (.fld (.call 0 1 [(.tok 0), (.fld (.tok 1) 2), (.len (.fld (.tok 1) 3))]) 0) (.row [(.mk [(.lit (.i 4)), (.call 0 0 [(.tok 0), (.fld (.tok 1) 2), (.len (.fld (.tok 1) 3))])])]))) 0 (.app (.fld (.set (.call 0 1 [(.tok 0), (.fld (.tok 1) 2), (.len (.fld (.tok 1) 3))]) 0 (.app (.fld (.call 0 1 [(.tok 0), (.fld (.tok 1) 2), (.len (.fld (.tok 1) 3))]) 0) (.row [(.mk [(.lit (.i 4)), (.call 0 0 [(.tok 0), (.fld (.tok 1) 2), (.len (.fld (.tok 1) 3))])])]))) 0) (.rep (.len (.fld (.tok 1) 3)) (.lit (.a [(.i 0), (.i 0)])))))] (.br (.lt (.tok 4) (.len (.fld (.tok 1) 3))) (.need [(.rng .i64 (.add (.len (.fld (.tok 0) 0)) (.lit (.i 1)))), (.rng .i64 (.add (.add (.len (.fld (.tok 0) 0)) (.lit (.i 1))) (.tok 4)))] (.need [(.le (.lit (.i 0)) (.tok 4)), (.lt (.tok 4) (.len (.fld (.tok 1) 3)))] (.need [(.imp (.eq (.fld (.get (.fld (.tok 1) 3) (.tok 4)) 0) (.lit (.i 0))) (.ok 1 [(.tok 3), (.fld (.get (.fld (.tok 1) 3) (.tok 4)) 1)]))] (.br (.and (.eq (.fld (.get (.fld (.tok 1) 3) (.tok 4)) 0) (.lit (.i 0))) (.lt (.call 1 0 [(.tok 3), (.fld (.get (.fld (.tok 1) 3) (.tok 4)) 1)]) (.lit (.i 0)))) (.need [(.ok 3 [(.tok 3), (.fld (.get (.fld (.tok 1) 3) (.tok 4)) 1), (.mk [(.lit (.i 0)), (.add (.add (.len (.fld (.tok 0) 0)) (.lit (.i 1))) (.tok 4))])])] (.need [(.le (.lit (.i 0)) (.add (.add (.len (.fld (.tok 0) 0)) (.lit (.i 1))) (.tok 4))), (.lt (.add (.add (.len (.fld (.tok 0) 0)) (.lit (.i 1))) (.tok 4)) (.len (.fld (.tok 5) 0)))] (.need [(.rng .i64 (.add (.tok 4) (.lit (.i 1))))] (.back 17 [(.call 3 0 [(.tok 3), (.fld (.get (.fld (.tok 1) 3) (.tok 4)) 1), (.mk [(.lit (.i 0)), (.add (.add (.len (.fld (.tok 0) 0)) (.lit (.i 1))) (.tok 4))])]), (.add (.tok 4) (.lit (.i 1))), (.set (.tok 5) 0 (.put (.fld (.tok 5) 0) (.add (.add (.len (.fld (.tok 0) 0)) (.lit (.i 1))) (.tok 4)) (.mk [(.lit (.i 0)), (.add (.add (.len (.fld (.tok 0) 0)) (.lit (.i 1))) (.tok 4))])))])))) (.need [(.ok 4 [(.tok 5), (.get (.fld (.tok 1) 3) (.tok 4)), (.tok 3)])] (.need [(.le (.lit (.i 0)) (.add (.add (.len (.fld (.tok 0) 0)) (.lit (.i 1))) (.tok 4))), (.lt (.add (.add (.len (.fld (.tok 0) 0)) (.lit (.i 1))) (.tok 4)) (.len (.fld (.call 4 2 [(.tok 5), (.get (.fld (.tok 1) 3) (.tok 4)), (.tok 3)]) 0)))] (.need [(.rng .i64 (.add (.tok 4) (.lit (.i 1))))] (.back 17 [(.call 4 1 [(.tok 5), (.get (.fld (.tok 1) 3) (.tok 4)), (.tok 3)]), (.add (.tok 4) (.lit (.i 1))), (.set (.call 4 2 [(.tok 5), (.get (.fld (.tok 1) 3) (.tok 4)), (.tok 3)]) 0 (.put (.fld (.call 4 2 [(.tok 5), (.get (.fld (.tok 1) 3) (.tok 4)), (.tok 3)]) 0) (.add (.add (.len (.fld (.tok 0) 0)) (.lit (.i 1))) (.tok 4)) (.call 4 0 [(.tok 5), (.get (.fld (.tok 1) 3) (.tok 4)), (.tok 3)])))])))))))) (.leaf [(.mk [(.lit (.i 3)), (.len (.fld (.tok 0) 0))]), (.tok 3), (.tok 5)]))))))))
set_option maxRecDepth 100000 in
theorem code_ref30_add (g0 g1 g2 g3 g4 : List D → Option (List D)) : ∀ cd, Try.f64.body = some cd → treeOf Try.prog [(q0g, g0), (q28, g1), (q1u, g2), (q1t, g3), (q1g, g4)] ann_ref30_add q1g Try.f64 cd = q27 := by
  intro cd h
  injection h with h
  subst h
  kernel_rfl
theorem fok_ref30_add {g0 g1 g2 g3 g4 : List D → Option (List D)} {g : List D → Option (List D)} (h0 : FOk q0g g0) (h1 : FOk q28 g1) (h2 : FOk q1u g2) (h3 : FOk q1t g3) (h4 : FOk q1g g4) (h : ∀ ds outs, WfA q1g.ars ds → g ds = some outs → q27.go (tblS [(q0g, g0), (q28, g1), (q1u, g2), (q1t, g3), (q1g, g4)]) (fun o => o = outs) ds fun _ _ => False) : FOk q1g g :=
  q09 ann_ref30_add Try.f64 _ (.cons h0 (.cons h1 (.cons h2 (.cons h3 (.cons h4 .nil))))) rfl rfl enter_ref30_add (by decide) fun ds outs hw hg => by rw [code_ref30_add g0 g1 g2 g3 g4 _ rfl]; exact h ds outs hw hg

def q23 : Ct := ⟨22, [.ref (.st 26), .val (.st 42), .val (.row 49)], [(.st 36, false), (.row 49, false), (.int .i64, false)], [], none, []⟩
theorem enter_ref30_Put (args : Array Value) (w : World) : (callFunc q23.f args).run Try.prog w = .ok (.enter q23.f args) w := by kernel_rfl
def ann_ref30_Put : Ann := ⟨[0, 1, 2, 4, 6, 7, 8, 9, 10, 11, 26, 50], []⟩
def q4o : Tree := (.need [(.ok 0 [(.tok 1)]), (.imp (.not (.not (.call 0 0 [(.tok 1)]))) (.ok 1 [(.tok 0), (.tok 2)]))] (.br (.or (.not (.call 0 0 [(.tok 1)])) (.not (.call 1 0 [(.tok 0), (.tok 2)]))) (.leaf [(.lit (.a [(.i 0), (.i 0)])), (.lit (.r [])), (.lit (.i 1)), (.tok 0)]) (.need [(.ok 2 [(.tok 0)])] (.need [(.ok 3 [(.call 2 0 [(.tok 0)]), (.tok 1), (.app (.lit (.r [])) (.tok 2))]), (.le (.len (.tok 2)) (.lit (.i 5864062014634))), (.le (.len (.tok 2)) (.lit (.i 5864062014634)))] (.br (.or (.lt (.lit (.i 1048576)) (.len (.fld (.call 3 2 [(.call 2 0 [(.tok 0)]), (.tok 1), (.app (.lit (.r [])) (.tok 2))]) 1))) (.lt (.fld (.call 3 2 [(.call 2 0 [(.tok 0)]), (.tok 1), (.app (.lit (.r [])) (.tok 2))]) 5) (.len (.fld (.call 3 2 [(.call 2 0 [(.tok 0)]), (.tok 1), (.app (.lit (.r [])) (.tok 2))]) 0)))) (.leaf [(.lit (.a [(.i 0), (.i 0)])), (.lit (.r [])), (.lit (.i 13)), (.tok 0)]) (.leaf [(.call 3 0 [(.call 2 0 [(.tok 0)]), (.tok 1), (.app (.lit (.r [])) (.tok 2))]), (.call 3 1 [(.call 2 0 [(.tok 0)]), (.tok 1), (.app (.lit (.r [])) (.tok 2))]), (.lit (.i 0)), (.call 3 2 [(.call 2 0 [(.tok 0)]), (.tok 1), (.app (.lit (.r [])) (.tok 2))])]))))))
set_option maxRecDepth 100000 in
theorem code_ref30_Put (g0 g1 g2 g3 : List D → Option (List D)) : ∀ cd, Try.f22.body = some cd → treeOf Try.prog [(q0x, g0), (q17, g1), (q13, g2), (q1g, g3)] ann_ref30_Put q23 Try.f22 cd = q4o := by
  intro cd h
  injection h with h
  subst h
  kernel_rfl
theorem fok_ref30_Put {g0 g1 g2 g3 : List D → Option (List D)} {g : List D → Option (List D)} (h0 : FOk q0x g0) (h1 : FOk q17 g1) (h2 : FOk q13 g2) (h3 : FOk q1g g3) (h : ∀ ds outs, WfA q23.ars ds → g ds = some outs → q4o.go (tblS [(q0x, g0), (q17, g1), (q13, g2), (q1g, g3)]) (fun o => o = outs) ds fun _ _ => False) : FOk q23 g :=
  q09 ann_ref30_Put Try.f22 _ (.cons h0 (.cons h1 (.cons h2 (.cons h3 .nil)))) rfl rfl enter_ref30_Put (by decide) fun ds outs hw hg => by rw [code_ref30_Put g0 g1 g2 g3 _ rfl]; exact h ds outs hw hg

def q1z : Ct := ⟨4, [.val (.st 26), .val (.st 42), .val (.row 49)], [(.bool, false)], [], none, []⟩
theorem enter_law30_CellsPuts (args : Array Value) (w : World) : (callFunc q1z.f args).run Try.prog w = .ok (.enter q1z.f args) w := by kernel_rfl
def q4b : Ann := ⟨[0, 1, 2, 3, 4, 6, 7, 8, 9, 10, 11, 12, 13, 14, 15, 16, 19, 66, 70], [(10, ⟨[(16, .int .i64, false), (11, .row 49, false)], [], [67, 68, 69, 70, 73, 74, 75, 76, 71, 72, 32, 50], []⟩)]⟩
def q2f : Tree := (.need [(.ok 0 [(.tok 0)])] (.br (.not (.call 0 0 [(.tok 0)])) (.need [(.ok 1 [])] (.leaf [(.call 1 0 [])])) (.need [(.ok 2 [(.tok 0)]), (.ok 2 [(.tok 0)]), (.ok 2 [(.tok 0)]), (.ok 2 [(.tok 0)]), (.ok 2 [(.tok 0)])] (.need [(.le (.len (.tok 2)) (.lit (.i 5864062014634)))] (.need [(.ok 3 [(.call 2 0 [(.tok 0)]), (.tok 1), (.app (.lit (.r [])) (.tok 2))])] (.need [(.ok 4 [(.call 2 0 [(.tok 0)]), (.tok 1), (.tok 2)])] (.need [(.imp (.not (.or (.not (.eq (.call 3 0 [(.call 2 0 [(.tok 0)]), (.tok 1), (.app (.lit (.r [])) (.tok 2))]) (.call 4 0 [(.call 2 0 [(.tok 0)]), (.tok 1), (.tok 2)]))) (.not (.eq (.call 3 2 [(.call 2 0 [(.tok 0)]), (.tok 1), (.app (.lit (.r [])) (.tok 2))]) (.call 4 2 [(.call 2 0 [(.tok 0)]), (.tok 1), (.tok 2)]))))) (.ok 5 [(.call 3 1 [(.call 2 0 [(.tok 0)]), (.tok 1), (.app (.lit (.r [])) (.tok 2))]), (.call 4 1 [(.call 2 0 [(.tok 0)]), (.tok 1), (.tok 2)])])), (.imp (.not (.or (.or (.not (.eq (.call 3 0 [(.call 2 0 [(.tok 0)]), (.tok 1), (.app (.lit (.r [])) (.tok 2))]) (.call 4 0 [(.call 2 0 [(.tok 0)]), (.tok 1), (.tok 2)]))) (.not (.eq (.call 3 2 [(.call 2 0 [(.tok 0)]), (.tok 1), (.app (.lit (.r [])) (.tok 2))]) (.call 4 2 [(.call 2 0 [(.tok 0)]), (.tok 1), (.tok 2)])))) (.not (.call 5 0 [(.call 3 1 [(.call 2 0 [(.tok 0)]), (.tok 1), (.app (.lit (.r [])) (.tok 2))]), (.call 4 1 [(.call 2 0 [(.tok 0)]), (.tok 1), (.tok 2)])])))) (.ok 5 [(.app (.lit (.r [])) (.tok 2)), (.tok 2)])), (.imp (.not (.or (.or (.or (.not (.eq (.call 3 0 [(.call 2 0 [(.tok 0)]), (.tok 1), (.app (.lit (.r [])) (.tok 2))]) (.call 4 0 [(.call 2 0 [(.tok 0)]), (.tok 1), (.tok 2)]))) (.not (.eq (.call 3 2 [(.call 2 0 [(.tok 0)]), (.tok 1), (.app (.lit (.r [])) (.tok 2))]) (.call 4 2 [(.call 2 0 [(.tok 0)]), (.tok 1), (.tok 2)])))) (.not (.call 5 0 [(.call 3 1 [(.call 2 0 [(.tok 0)]), (.tok 1), (.app (.lit (.r [])) (.tok 2))]), (.call 4 1 [(.call 2 0 [(.tok 0)]), (.tok 1), (.tok 2)])]))) (.not (.call 5 0 [(.app (.lit (.r [])) (.tok 2)), (.tok 2)])))) (.ok 6 [(.call 3 3 [(.call 2 0 [(.tok 0)]), (.tok 1), (.app (.lit (.r [])) (.tok 2))]), (.call 4 3 [(.call 2 0 [(.tok 0)]), (.tok 1), (.tok 2)])]))] (.br (.or (.or (.or (.or (.not (.eq (.call 3 0 [(.call 2 0 [(.tok 0)]), (.tok 1), (.app (.lit (.r [])) (.tok 2))]) (.call 4 0 [(.call 2 0 [(.tok 0)]), (.tok 1), (.tok 2)]))) (.not (.eq (.call 3 2 [(.call 2 0 [(.tok 0)]), (.tok 1), (.app (.lit (.r [])) (.tok 2))]) (.call 4 2 [(.call 2 0 [(.tok 0)]), (.tok 1), (.tok 2)])))) (.not (.call 5 0 [(.call 3 1 [(.call 2 0 [(.tok 0)]), (.tok 1), (.app (.lit (.r [])) (.tok 2))]), (.call 4 1 [(.call 2 0 [(.tok 0)]), (.tok 1), (.tok 2)])]))) (.not (.call 5 0 [(.app (.lit (.r [])) (.tok 2)), (.tok 2)]))) (.not (.call 6 0 [(.call 3 3 [(.call 2 0 [(.tok 0)]), (.tok 1), (.app (.lit (.r [])) (.tok 2))]), (.call 4 3 [(.call 2 0 [(.tok 0)]), (.tok 1), (.tok 2)])]))) (.leaf [(.lit (.b .false))]) (.loop 10 3 [(.lit (.i 0)), (.call 3 1 [(.call 2 0 [(.tok 0)]), (.tok 1), (.app (.lit (.r [])) (.tok 2))])] (.br (.lt (.tok 3) (.len (.tok 4))) (.need [(.le (.lit (.i 0)) (.tok 3)), (.lt (.tok 3) (.len (.tok 4)))] (.need [(.rng .i64 (.add (.tok 3) (.lit (.i 1))))] (.back 10 [(.add (.tok 3) (.lit (.i 1))), (.put (.tok 4) (.tok 3) (.set (.get (.tok 4) (.tok 3)) 0 (.lit (.i (-1)))))]))) (.need [(.ok 5 [(.app (.lit (.r [])) (.tok 2)), (.tok 2)]), (.imp (.call 5 0 [(.app (.lit (.r [])) (.tok 2)), (.tok 2)]) (.ok 1 []))] (.leaf [(.and (.call 5 0 [(.app (.lit (.r [])) (.tok 2)), (.tok 2)]) (.call 1 0 []))]))))))))))))
set_option maxRecDepth 100000 in
theorem code_law30_CellsPuts (g0 g1 g2 g3 g4 g5 g6 : List D → Option (List D)) : ∀ cd, Try.f4.body = some cd → treeOf Try.prog [(q1o, g0), (q1n, g1), (q13, g2), (q1c, g3), (q23, g4), (q14, g5), (q1r, g6)] q4b q1z Try.f4 cd = q2f := by
  intro cd h
  injection h with h
  subst h
  kernel_rfl
theorem fok_law30_CellsPuts {g0 g1 g2 g3 g4 g5 g6 : List D → Option (List D)} {g : List D → Option (List D)} (h0 : FOk q1o g0) (h1 : FOk q1n g1) (h2 : FOk q13 g2) (h3 : FOk q1c g3) (h4 : FOk q23 g4) (h5 : FOk q14 g5) (h6 : FOk q1r g6) (h : ∀ ds outs, WfA q1z.ars ds → g ds = some outs → q2f.go (tblS [(q1o, g0), (q1n, g1), (q13, g2), (q1c, g3), (q23, g4), (q14, g5), (q1r, g6)]) (fun o => o = outs) ds fun _ _ => False) : FOk q1z g :=
  q09 q4b Try.f4 _ (.cons h0 (.cons h1 (.cons h2 (.cons h3 (.cons h4 (.cons h5 (.cons h6 .nil))))))) rfl rfl enter_law30_CellsPuts (by decide) fun ds outs hw hg => by rw [code_law30_CellsPuts g0 g1 g2 g3 g4 g5 g6 _ rfl]; exact h ds outs hw hg

end Go.Proofs.Ytinclokohcommaa


namespace Go.Proofs.Ytinclokohcommaa
open Go.RowKit Go.Shelf
set_option linter.unusedVariables false
set_option linter.unusedSimpArgs false
set_option maxRecDepth 100000
attribute [local go_sem] Oper.semAt_some

theorem wpList_append_runK (w : World) {ops : Array Oper} {rest : List Oper} {o : Oper} {a : Act} {Q : Exit → Act → World → Prop} (hgd : o.guard = none) (s x : Operand) (t t' : TypeId)
    (ho : o.op = .call { callee := .builtin .append, args := #[s, x], argTypes := #[t, t'] }) (v u : Value) (hs : a.eval s = v) (hx : a.eval x = u) {v' : Value} {w' : World}
    (hr : (Builtin.append_ #[t, t'] o.type #[v, u]).run Try.prog w = .ok v' w') (h : wpList Try.prog ops Q rest (a.put o.dst v') w') : wpList Try.prog ops Q (o :: rest) a w :=
  wpList_plain hgd fun _ hK => by
    unfold Oper.wp execOp
    simp only [ho, resolve, invoke, builtin, Sem.run_bind, Sem.run_pure, Result.andThen_ok, List.map_toArray, List.map_cons, List.map_nil, hs, hx, hr]
    exact hK _ _ h

theorem cell6 {w : World} {k : Nat} {a b c d e f : Value} {T : TypeId} (h : w.heap[k]? = some (.cells #[a, b, c, d, e, f] T (0, 0))) :
    w.cell? ⟨k, 0, none⟩ = some a ∧ w.cell? ⟨k, 1, none⟩ = some b ∧ w.cell? ⟨k, 2, none⟩ = some c ∧ w.cell? ⟨k, 3, none⟩ = some d ∧ w.cell? ⟨k, 4, none⟩ = some e ∧ w.cell? ⟨k, 5, none⟩ = some f :=
  ⟨cell_of_row _ _ 0 _ _ _ h, cell_of_row _ _ 1 _ _ _ h, cell_of_row _ _ 2 _ _ _ h, cell_of_row _ _ 3 _ _ _ h, cell_of_row _ _ 4 _ _ _ h, cell_of_row _ _ 5 _ _ _ h⟩

set_option maxHeartbeats 4000000 in
theorem sym_any (w : World) (gv : Nat) (v0 v2 v3 n4 n5 : Value) (TS : TypeId) (A1 : Option Addr) (l c : Nat) (hl : l ≤ 9223372036854775807) (hgv : w.heap[gv]? = some (.cells #[v0, .slice A1 l c, v2, v3, n4, n5] TS (0, 0))) (nm : ByteArray) (ar n : Int)
    (hfind : Calls Try.prog 53 #[.agg #[v0, .slice A1 l c, v2, v3, n4, n5], .string nm, .int .i64 ar] w fun e w' => e = .returned (.int .i64 n) ∧ But Nil w w') {K : Value → World → Prop}
    (happ : n < 0 → ∀ w1 ty, But Nil w w1 → w1.heap[w1.heap.size - 1]? = some (.cells #[.string nm, .int .i64 ar] 72 (0, 0)) → w.heap.size ≤ w1.heap.size - 1 → ∃ A2 l2 c2 w2, (Builtin.append_ #[23, 23] ty #[.slice A1 l c, .slice (some ⟨w1.heap.size - 1, 0, none⟩) 1 1]).run Try.prog w1 = .ok (.slice A2 l2 c2) w2 ∧ K (.slice A2 l2 c2) w2 ∧ w2.heap[gv]? = w.heap[gv]?) :
    Calls Try.prog 101 #[.pointer (some ⟨gv, 0, none⟩), .string nm, .int .i64 ar] w fun e w' => (0 ≤ n ∧ e = .returned (.int .i64 n) ∧ But Nil w w') ∨ (n < 0 ∧ e = .returned (.int .i64 l) ∧ ∃ v' w2, K v' w2 ∧ w' = w2.setCell ⟨gv, 1, none⟩ v') := by
  obtain ⟨c0, c1, c2, c3, c4, c5⟩ := cell6 hgv
  go_enter Try.func101, Try.ntmps101
  go_wp2_with fail
  refine hfind.mono ?_
  rintro e w1 ⟨rfl, hb1⟩
  have hgv1 := (hb1.block gv (lt_of_heap hgv) id).trans hgv
  obtain ⟨d0, d1, d2, d3, d4, d5⟩ := cell6 hgv1
  by_cases hn : n < 0
  · obtain ⟨A2, l2, c2, w2, hr, hk, hg2⟩ := happ hn (w1.alloc (.cells #[.string nm, .int .i64 ar] 72)) 23 (hb1.alloc _) (by rw [hsize, Nat.add_sub_cancel]; exact heap_new rfl) (by rw [hsize, Nat.add_sub_cancel]; exact hb1.size)
    rw [hsize, Nat.add_sub_cancel] at hr
    have hgv2 := hg2.trans hgv
    obtain ⟨e0, e1, e2, e3, e4, e5⟩ := cell6 hgv2
    have hfz := frz hgv2 1
    go_wp2_with (at_builtin; refine wpList_append_runK _ rfl _ _ _ _ rfl _ _ rfl rfl hr ?_)
    go_ret
    exact .inr ⟨hn, rfl, _, _, hk, rfl⟩
  · go_wp2_with fail
    go_ret
    exact .inl ⟨by omega, rfl, hb1⟩
end Go.Proofs.Ytinclokohcommaa


namespace Go.Proofs.Ytinclokohcommaa
open Go.RowKit
set_option linter.unusedVariables false
set_option linter.unusedSimpArgs false

theorem int_i (n : Int) : (D.i n).int = n := rfl
theorem tt_b (x : Bool) : (D.b x).tt = x := by cases x <;> rfl
theorem rs_r (l : List D) : (D.r l).rs = l := rfl
theorem str_s (x : ByteArray) : (D.s x).str = x := rfl
theorem ms_mp (l : List D) : (D.mp l).ms = l := rfl
theorem i_inj (m n : Int) : (D.i m = D.i n) = (m = n) := by simp
theorem b_inj (m n : Bool) : (D.b m = D.b n) = (m = n) := by simp
theorem s_inj (m n : ByteArray) : (D.s m = D.s n) = (m = n) := by simp
theorem q02 {S : Nat → List D → Option (List D)} {R : List D → Prop} {ns : List X} {t : Tree} {l : List D} {B : Nat → List D → Prop} : (Tree.need ns t).go S R l B = (allSay (evl S l) ns ∧ t.go S R l B) := rfl
theorem go_br {S : Nat → List D → Option (List D)} {R : List D → Prop} {x : X} {t e : Tree} {l : List D} {B : Nat → List D → Prop} : (Tree.br x t e).go S R l B = (((x.ev (evl S l)).tt = true → t.go S R l B) ∧ ((x.ev (evl S l)).tt = false → e.go S R l B)) := rfl
theorem q01 {S : Nat → List D → Option (List D)} {R : List D → Prop} {xs : List X} {l : List D} {B : Nat → List D → Prop} : (Tree.leaf xs).go S R l B = R (X.evs (evl S l) xs) := rfl
theorem q03 {S : Nat → List D → Option (List D)} {R : List D → Prop} {id : Nat} {xs : List X} {l : List D} {B : Nat → List D → Prop} : (Tree.back id xs).go S R l B = B id (X.evs (evl S l) xs) := rfl
theorem q1y {S : Nat → List D → Option (List D)} {R : List D → Prop} {id n : Nat} {init : List X} {body : Tree} {l : List D} {B : Nat → List D → Prop} : (Tree.loop id n init body).go S R l B = ∃ (I : List D → Prop) (μ : List D → Nat), I (X.evs (evl S l) init) ∧
      ∀ st, st.length = init.length → I st → body.go S R (l.take n ++ st) (updB B id fun st' => I st' ∧ μ st' < μ st) := rfl
theorem rng64 {n : Int} : rngB .i64 n = true ↔ -9223372036854775808 ≤ n ∧ n ≤ 9223372036854775807 := by simp [rngB]

section
variable {α : Type} [Inhabited α]
theorem get_map (e : α → D) {l : List α} {i : Nat} (h : i < l.length) : (l.map e).getD i .u = e (l.getD i default) := by
  simp [List.getD_eq_getElem?_getD, h]
theorem get_r (e : α → D) {l : List α} {i : Int} (h0 : 0 ≤ i) (h : i < l.length) : (D.r (l.map e)).get i = e (l.getD i.toNat default) := get_map e (by omega)
theorem get_n (e : α → D) {l : List α} {i : Nat} (h : i < l.length) : (D.r (l.map e)).get (i : Int) = e (l.getD i default) := get_map e (by simpa using h)
omit [Inhabited α] in
theorem map_inj {e : α → D} (he : ∀ a b, e a = e b → a = b) : ∀ {l m : List α}, l.map e = m.map e → l = m
  | [], [], _ => rfl
  | a :: l, b :: m, h => by
    simp only [List.map_cons, List.cons.injEq] at h
    rw [he a b h.1, map_inj he h.2]
  | [], _ :: _, h => by simp at h
  | _ :: _, [], h => by simp at h
omit [Inhabited α] in
theorem of_all {e : α → D} {P : α → Prop} {l : List D} (h : ∀ x ∈ l, ∃ a, x = e a ∧ P a) : ∃ m : List α, l = m.map e ∧ ∀ a ∈ m, P a := by
  induction l with
  | nil => exact ⟨[], rfl, fun a ha => by cases ha⟩
  | cons x l ih =>
    obtain ⟨a, rfl, ha⟩ := h x List.mem_cons_self
    obtain ⟨m, rfl, hm⟩ := ih fun y hy => h y (List.mem_cons_of_mem _ hy)
    refine ⟨a :: m, rfl, fun b hb => ?_⟩
    rcases List.mem_cons.1 hb with rfl | hb
    · exact ha
    · exact hm b hb
theorem getD_mem {l : List α} {i : Nat} (h : i < l.length) : l.getD i default ∈ l := by
  rw [List.getD_eq_getElem?_getD, List.getElem?_eq_getElem h]
  exact List.getElem_mem h
theorem take_snoc {l : List α} {k : Nat} (h : k < l.length) : l.take (k + 1) = l.take k ++ [l.getD k default] := by
  rw [List.take_add_one, List.getElem?_eq_getElem h]
  simp [List.getD_eq_getElem?_getD, h]
end

theorem all_yes {n : Nat} {P : Nat → Bool} (h : ∀ j, j < n → P j = true) : (List.range n).all P = true := by
  rw [List.all_eq_true]
  exact fun j hj => h j (List.mem_range.1 hj)
theorem all_not {n k : Nat} {P : Nat → Bool} (hk : k < n) (h : P k = false) : (List.range n).all P = false := by
  cases ha : (List.range n).all P with
  | false => rfl
  | true => rw [List.all_eq_true.1 ha k (List.mem_range.2 hk)] at h; cases h
theorem all_of {n k : Nat} {P : Nat → Bool} (h : (List.range n).all P = true) (hk : k < n) : P k = true := List.all_eq_true.1 h k (List.mem_range.2 hk)
theorem upto_succ {P : Nat → Prop} {k : Nat} (h : ∀ j, j < k → P j) (hk : P k) : ∀ j, j < k + 1 → P j := fun j hj => by
  rcases Nat.lt_succ_iff_lt_or_eq.1 hj with h1 | h1
  · exact h j h1
  · exact h1 ▸ hk

theorem wfL2 {ds : List D} {t u : Ty} (h : WfL ds [t, u]) : ∃ a b, ds = [a, b] ∧ Wf a t ∧ Wf b u := by
  match ds, h with
  | [], h => cases h
  | [a], h => obtain ⟨t, ts, e, h1, h2⟩ := h; rw [h2] at e; cases e
  | [a, b], h =>
    obtain ⟨t, ts, e, h1, t2, ts2, e2, h2, -⟩ := h
    injection e with e e'
    subst e e'
    injection e2 with e2 e2'
    subst e2
    exact ⟨a, b, rfl, h1, h2⟩
  | a :: b :: c :: l, h => obtain ⟨t, ts, e, h1, t2, ts2, e2, h2, t3, ts3, e3, -⟩ := h; subst e2 e3; cases e
theorem wfL_cons {ds : List D} {t : Ty} {ts : List Ty} (h : WfL ds (t :: ts)) : ∃ a r, ds = a :: r ∧ Wf a t ∧ WfL r ts := by
  match ds, h with
  | [], h => cases h
  | a :: r, h =>
    obtain ⟨t, ts, e, h1, h2⟩ := h
    injection e with e e'
    subst e e'
    exact ⟨a, r, rfl, h1, h2⟩
theorem Wf.st_of {d : D} {S : TypeId} {fs : List Ty} (h : Wf d (.st S)) (hf : flds S = some fs) : ∃ ds, d = .a ds ∧ WfL ds fs := by
  obtain ⟨ds, fs', rfl, hf', hl⟩ := h.st
  rw [hf] at hf'
  injection hf' with hf'
  subst hf'
  exact ⟨ds, rfl, hl⟩
theorem Wf.row_of {d : D} {E : TypeId} {te : Ty} (h : Wf d (.row E)) (hE : tyOf E = some te) : ∃ l, d = .r l ∧ l.length ≤ LM te ∧ ∀ x ∈ l, Wf x te := by
  obtain ⟨l, te', rfl, hE', h1, h2⟩ := h.row
  rw [hE] at hE'
  injection hE' with hE'
  subst hE'
  exact ⟨l, rfl, h1, h2⟩
end Go.Proofs.Ytinclokohcommaa


namespace Go.Proofs.Ytinclokohcommaa
open Go.RowKit
set_option linter.unusedVariables false
set_option linter.unusedSimpArgs false

structure Ce where
  t : Int
  n : Int
structure Un where
  at' : Int
  old : Ce
structure Wk where
  ser : Int
  att : Ce
  val : Ce
structure Sy where
  name : ByteArray
  ar : Int
structure So where
  cs : List Ce
  ys : List Sy
  tr : List Un
  wk : List Wk
  ser : Int
  mx : Int

instance : Inhabited Ce := ⟨⟨0, 0⟩⟩
instance : Inhabited Un := ⟨⟨0, default⟩⟩
instance : Inhabited Wk := ⟨⟨0, default, default⟩⟩
instance : Inhabited Sy := ⟨⟨⟨#[]⟩, 0⟩⟩

def eC (c : Ce) : D := .a [.i c.t, .i c.n]
def eU (u : Un) : D := .a [.i u.at', eC u.old]
def eW (w : Wk) : D := .a [.i w.ser, eC w.att, eC w.val]
def eY (y : Sy) : D := .a [.s y.name, .i y.ar]
def eS (s : So) : D := .a [.r (s.cs.map eC), .r (s.ys.map eY), .r (s.tr.map eU), .r (s.wk.map eW), .i s.ser, .i s.mx]
def dC (d : D) : Ce := ⟨(d.fld 0).int, (d.fld 1).int⟩
def dU (d : D) : Un := ⟨(d.fld 0).int, dC (d.fld 1)⟩
def dW (d : D) : Wk := ⟨(d.fld 0).int, dC (d.fld 1), dC (d.fld 2)⟩
def dY (d : D) : Sy := ⟨(d.fld 0).str, (d.fld 1).int⟩
def dS (d : D) : So := ⟨(d.fld 0).rs.map dC, (d.fld 1).rs.map dY, (d.fld 2).rs.map dU, (d.fld 3).rs.map dW, (d.fld 4).int, (d.fld 5).int⟩

theorem dC_eC (c : Ce) : dC (eC c) = c := rfl
theorem dU_eU (c : Un) : dU (eU c) = c := rfl
theorem dW_eW (c : Wk) : dW (eW c) = c := rfl
theorem dY_eY (c : Sy) : dY (eY c) = c := rfl
theorem map_id' {α : Type} {e : α → D} {d : D → α} (h : ∀ a, d (e a) = a) (l : List α) : (l.map e).map d = l := by
  rw [List.map_map]
  have : d ∘ e = id := funext h
  rw [this, List.map_id]
theorem dS_eS (s : So) : dS (eS s) = s := by
  show So.mk ((s.cs.map eC).map dC) ((s.ys.map eY).map dY) ((s.tr.map eU).map dU) ((s.wk.map eW).map dW) s.ser s.mx = s
  rw [map_id' dC_eC, map_id' dY_eY, map_id' dU_eU, map_id' dW_eW]
theorem eC_inj {a b : Ce} (h : eC a = eC b) : a = b := by rw [← dC_eC a, h, dC_eC b]
theorem eU_inj {a b : Un} (h : eU a = eU b) : a = b := by rw [← dU_eU a, h, dU_eU b]
theorem eW_inj {a b : Wk} (h : eW a = eW b) : a = b := by rw [← dW_eW a, h, dW_eW b]
theorem eY_inj {a b : Sy} (h : eY a = eY b) : a = b := by rw [← dY_eY a, h, dY_eY b]
theorem eS_inj {a b : So} (h : eS a = eS b) : a = b := by rw [← dS_eS a, h, dS_eS b]
theorem eC_eq (a b : Ce) : (eC a = eC b) = (a = b) := propext ⟨eC_inj, fun h => h ▸ rfl⟩
theorem eU_eq (a b : Un) : (eU a = eU b) = (a = b) := propext ⟨eU_inj, fun h => h ▸ rfl⟩
theorem eW_eq (a b : Wk) : (eW a = eW b) = (a = b) := propext ⟨eW_inj, fun h => h ▸ rfl⟩
theorem eY_eq (a b : Sy) : (eY a = eY b) = (a = b) := propext ⟨eY_inj, fun h => h ▸ rfl⟩
theorem eS_eq (a b : So) : (eS a = eS b) = (a = b) := propext ⟨eS_inj, fun h => h ▸ rfl⟩
instance : DecidableEq Ce := fun a b => if h : eC a = eC b then .isTrue (eC_inj h) else .isFalse fun e => h (e ▸ rfl)
instance : DecidableEq Un := fun a b => if h : eU a = eU b then .isTrue (eU_inj h) else .isFalse fun e => h (e ▸ rfl)
instance : DecidableEq Wk := fun a b => if h : eW a = eW b then .isTrue (eW_inj h) else .isFalse fun e => h (e ▸ rfl)
instance : DecidableEq Sy := fun a b => if h : eY a = eY b then .isTrue (eY_inj h) else .isFalse fun e => h (e ▸ rfl)
instance : DecidableEq So := fun a b => if h : eS a = eS b then .isTrue (eS_inj h) else .isFalse fun e => h (e ▸ rfl)
theorem Ce.ext' {a b : Ce} (h1 : a.t = b.t) (h2 : a.n = b.n) : a = b := by
  cases a; cases b; cases h1; cases h2; rfl

theorem eC_0 (c : Ce) : (eC c).fld 0 = .i c.t := rfl
theorem eC_1 (c : Ce) : (eC c).fld 1 = .i c.n := rfl
theorem eU_0 (c : Un) : (eU c).fld 0 = .i c.at' := rfl
theorem eU_1 (c : Un) : (eU c).fld 1 = eC c.old := rfl
theorem eW_0 (c : Wk) : (eW c).fld 0 = .i c.ser := rfl
theorem eW_1 (c : Wk) : (eW c).fld 1 = eC c.att := rfl
theorem eW_2 (c : Wk) : (eW c).fld 2 = eC c.val := rfl
theorem eY_0 (c : Sy) : (eY c).fld 0 = .s c.name := rfl
theorem eY_1 (c : Sy) : (eY c).fld 1 = .i c.ar := rfl
theorem eS_0 (s : So) : (eS s).fld 0 = .r (s.cs.map eC) := rfl
theorem eS_1 (s : So) : (eS s).fld 1 = .r (s.ys.map eY) := rfl
theorem eS_2 (s : So) : (eS s).fld 2 = .r (s.tr.map eU) := rfl
theorem eS_3 (s : So) : (eS s).fld 3 = .r (s.wk.map eW) := rfl
theorem eS_4 (s : So) : (eS s).fld 4 = .i s.ser := rfl
theorem eS_5 (s : So) : (eS s).fld 5 = .i s.mx := rfl
theorem eC_mk (t n : Int) : D.a [.i t, .i n] = eC ⟨t, n⟩ := rfl
abbrev i64 (n : Int) : Prop := -9223372036854775808 ≤ n ∧ n ≤ 9223372036854775807
def Ce.ok (c : Ce) : Prop := i64 c.t ∧ i64 c.n
def Un.ok (c : Un) : Prop := i64 c.at' ∧ c.old.ok
def Wk.ok (c : Wk) : Prop := i64 c.ser ∧ c.att.ok ∧ c.val.ok
def Sy.ok (c : Sy) : Prop := c.name.size ≤ LIM ∧ i64 c.ar
structure So.ok (s : So) : Prop where
  cs : s.cs.length ≤ 8796093021952 ∧ ∀ c ∈ s.cs, c.ok
  ys : s.ys.length ≤ 5864062014634 ∧ ∀ c ∈ s.ys, c.ok
  tr : s.tr.length ≤ 5864062014634 ∧ ∀ c ∈ s.tr, c.ok
  wk : s.wk.length ≤ 3518437208780 ∧ ∀ c ∈ s.wk, c.ok
  ser : i64 s.ser
  mx : i64 s.mx

theorem wfI {d : D} (h : Wf d (.int .i64)) : ∃ n, d = .i n ∧ i64 n := by
  obtain ⟨n, rfl, hn⟩ := h.int
  exact ⟨n, rfl, rng64.1 hn⟩
theorem wfC {d : D} (h : Wf d T_Cell) : ∃ c, d = eC c ∧ c.ok := by
  obtain ⟨ds, rfl, hl⟩ := h.st_of (fs := [.int .i64, .int .i64]) rfl
  obtain ⟨a, b, rfl, ha, hb⟩ := wfL2 hl
  obtain ⟨x, rfl, hx⟩ := wfI ha
  obtain ⟨y, rfl, hy⟩ := wfI hb
  exact ⟨⟨x, y⟩, rfl, hx, hy⟩
theorem wfU {d : D} (h : Wf d T_Undo) : ∃ c, d = eU c ∧ c.ok := by
  obtain ⟨ds, rfl, hl⟩ := h.st_of (fs := [.int .i64, T_Cell]) rfl
  obtain ⟨a, b, rfl, ha, hb⟩ := wfL2 hl
  obtain ⟨x, rfl, hx⟩ := wfI ha
  obtain ⟨y, rfl, hy⟩ := wfC hb
  exact ⟨⟨x, y⟩, rfl, hx, hy⟩
theorem wfW {d : D} (h : Wf d T_Wake) : ∃ c, d = eW c ∧ c.ok := by
  obtain ⟨ds, rfl, hl⟩ := h.st_of (fs := [.int .i64, T_Cell, T_Cell]) rfl
  obtain ⟨a, r, rfl, ha, hr⟩ := wfL_cons hl
  obtain ⟨b, c, rfl, hb, hc⟩ := wfL2 hr
  obtain ⟨x, rfl, hx⟩ := wfI ha
  obtain ⟨y, rfl, hy⟩ := wfC hb
  obtain ⟨z, rfl, hz⟩ := wfC hc
  exact ⟨⟨x, y, z⟩, rfl, hx, hy, hz⟩
theorem wfY {d : D} (h : Wf d T_Symbol) : ∃ c, d = eY c ∧ c.ok := by
  obtain ⟨ds, rfl, hl⟩ := h.st_of (fs := [.str, .int .i64]) rfl
  obtain ⟨a, b, rfl, ha, hb⟩ := wfL2 hl
  obtain ⟨x, rfl, hx⟩ := ha.str
  obtain ⟨y, rfl, hy⟩ := wfI hb
  exact ⟨⟨x, y⟩, rfl, hx, hy⟩
theorem wfCs {d : D} (h : Wf d T_Cells) : ∃ l : List Ce, d = .r (l.map eC) ∧ l.length ≤ 8796093021952 ∧ ∀ c ∈ l, c.ok := by
  obtain ⟨l, rfl, h1, h2⟩ := h.row_of (te := T_Cell) rfl
  obtain ⟨m, rfl, h3⟩ := of_all (e := eC) (P := Ce.ok) fun x hx => wfC (h2 x hx)
  have e : LM T_Cell = 8796093021952 := by kernel_rfl
  rw [e, List.length_map] at h1
  exact ⟨m, rfl, h1, h3⟩
theorem wfUs {d : D} (h : Wf d T_Undos) : ∃ l : List Un, d = .r (l.map eU) ∧ l.length ≤ 5864062014634 ∧ ∀ c ∈ l, c.ok := by
  obtain ⟨l, rfl, h1, h2⟩ := h.row_of (te := T_Undo) rfl
  obtain ⟨m, rfl, h3⟩ := of_all (e := eU) (P := Un.ok) fun x hx => wfU (h2 x hx)
  have e : LM T_Undo = 5864062014634 := by kernel_rfl
  rw [e, List.length_map] at h1
  exact ⟨m, rfl, h1, h3⟩
theorem wfWs {d : D} (h : Wf d T_Wakes) : ∃ l : List Wk, d = .r (l.map eW) ∧ l.length ≤ 3518437208780 ∧ ∀ c ∈ l, c.ok := by
  obtain ⟨l, rfl, h1, h2⟩ := h.row_of (te := T_Wake) rfl
  obtain ⟨m, rfl, h3⟩ := of_all (e := eW) (P := Wk.ok) fun x hx => wfW (h2 x hx)
  have e : LM T_Wake = 3518437208780 := by kernel_rfl
  rw [e, List.length_map] at h1
  exact ⟨m, rfl, h1, h3⟩
theorem wfYs {d : D} (h : Wf d T_Symbols) : ∃ l : List Sy, d = .r (l.map eY) ∧ l.length ≤ 5864062014634 ∧ ∀ c ∈ l, c.ok := by
  obtain ⟨l, rfl, h1, h2⟩ := h.row_of (te := T_Symbol) rfl
  obtain ⟨m, rfl, h3⟩ := of_all (e := eY) (P := Sy.ok) fun x hx => wfY (h2 x hx)
  have e : LM T_Symbol = 5864062014634 := by kernel_rfl
  rw [e, List.length_map] at h1
  exact ⟨m, rfl, h1, h3⟩
theorem wfS {d : D} (h : Wf d T_Store) : ∃ s, d = eS s ∧ s.ok := by
  obtain ⟨ds, rfl, hl⟩ := h.st_of (fs := [T_Cells, T_Symbols, T_Undos, T_Wakes, .int .i64, .int .i64]) rfl
  obtain ⟨d0, r, rfl, h0, hl⟩ := wfL_cons hl
  obtain ⟨d1, r, rfl, h1, hl⟩ := wfL_cons hl
  obtain ⟨d2, r, rfl, h2, hl⟩ := wfL_cons hl
  obtain ⟨d3, r, rfl, h3, hl⟩ := wfL_cons hl
  obtain ⟨d4, d5, rfl, h4, h5⟩ := wfL2 hl
  obtain ⟨cs, rfl, q0⟩ := wfCs h0
  obtain ⟨ys, rfl, q1⟩ := wfYs h1
  obtain ⟨tr, rfl, q2⟩ := wfUs h2
  obtain ⟨wk, rfl, q3⟩ := wfWs h3
  obtain ⟨x, rfl, q4⟩ := wfI h4
  obtain ⟨y, rfl, q5⟩ := wfI h5
  exact ⟨⟨cs, ys, tr, wk, x, y⟩, rfl, q0, q1, q2, q3, q4, q5⟩
end Go.Proofs.Ytinclokohcommaa


namespace Go.Proofs.Ytinclokohcommaa
open Go.RowKit
set_option linter.unusedVariables false
set_option maxRecDepth 100000

end Go.Proofs.Ytinclokohcommaa

