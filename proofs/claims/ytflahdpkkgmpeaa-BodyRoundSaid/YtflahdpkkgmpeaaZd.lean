/-
  Lemmas of the walk and plain laws, put together. No condition.
-/
import Derived.Test.YtflahdpkkgmpeaaZc
namespace Go.Proofs.Ytflahdpkkgmpeaa
open Go.RowKit
set_option linter.unusedVariables false
set_option maxRecDepth 100000

def allB (e : Ev) : List X → Bool
  | [] => true
  | x :: l => (x.ev e).tt && allB e l
theorem allB_ok {e : Ev} : ∀ {l : List X}, allB e l = true → allSay e l
  | [], _ => trivial
  | x :: l, h => by
    simp only [allB, Bool.and_eq_true] at h
    exact ⟨h.1, allB_ok h.2⟩

/-- Rounds of a loop: what ends with a back to the loop goes on. -/
def itf (f : List D → Option (Nat × List D)) (id : Nat) : Nat → List D → Option (Nat × List D)
  | 0, _ => none
  | k + 1, st => match f st with
    | some (j, st') => if Nat.beq j (id + 1) then itf f id k st' else some (j, st')
    | none => none

def sameOut : Nat × List D → Nat × List D → Bool := fun a b => Nat.beq a.1 b.1 && D.beqs a.2 b.2

/-- What a tree computes: 0 with the results, or a back's number and 1 with the values. -/
def Tree.den (S : Nat → List D → Option (List D)) (fuel : Nat) : Tree → List D → Option (Nat × List D)
  | .bad _, _ => none
  | .need ns t, l => if allB (evl S l) ns then t.den S fuel l else none
  | .br x t e, l => if (x.ev (evl S l)).tt then t.den S fuel l else e.den S fuel l
  | .amb x neg t e, l => if (x.ev (evl S l)).rs.isEmpty then (match t.den S fuel l, e.den S fuel l with
      | some a, some b => if sameOut a b then some a else none
      | _, _ => none) else if neg then t.den S fuel l else e.den S fuel l
  | .leaf xs, l => some (0, X.evs (evl S l) xs)
  | .back id xs, l => some (id + 1, X.evs (evl S l) xs)
  | .loop id n init body, l => itf (fun st => body.den S fuel (l.take n ++ st)) id fuel (X.evs (evl S l) init)

def outOk (R : List D → Prop) (B : Nat → List D → Prop) : Nat × List D → Prop
  | (0, xs) => R xs
  | (id + 1, xs) => B id xs

theorem beqs_eq : ∀ {l m : List D}, D.beqs l m = true → l = m
  | [], [], _ => rfl
  | x :: l, y :: m, h => by
    simp only [D.beqs, Bool.and_eq_true] at h
    rw [(D.beq_iff _ _).1 h.1, beqs_eq h.2]
  | [], _ :: _, h => by simp [D.beqs] at h
  | _ :: _, [], h => by simp [D.beqs] at h

theorem sameOut_ok {a b : Nat × List D} (h : sameOut a b = true) : a = b := by
  obtain ⟨i, l⟩ := a
  obtain ⟨j, m⟩ := b
  simp only [sameOut, Bool.and_eq_true] at h
  rw [Nat.eq_of_beq_eq_true h.1, beqs_eq h.2]

theorem least_of {P : Nat → Prop} (h : ∃ k, P k) : ∃ m, P m ∧ ∀ k, P k → m ≤ k := by
  obtain ⟨k, hk⟩ := h
  induction k using Nat.strongRecOn with
  | _ k ih =>
    by_cases hl : ∃ j, j < k ∧ P j
    · obtain ⟨j, hj, hp⟩ := hl
      exact ih j hj hp
    · exact ⟨k, hk, fun j hj => Nat.le_of_not_lt fun hlt => hl ⟨j, hlt, hj⟩⟩
open Classical in
noncomputable def leastN (P : Nat → Prop) : Nat := if h : ∃ k, P k then (least_of h).choose else 0
theorem leastN_ok {P : Nat → Prop} (h : ∃ k, P k) : P (leastN P) ∧ ∀ k, P k → leastN P ≤ k := by
  unfold leastN
  rw [dif_pos h]
  exact (least_of h).choose_spec

theorem go_of_den {S : Nat → List D → Option (List D)} {fuel : Nat} {R : List D → Prop} : ∀ (t : Tree) {l : List D} {B : Nat → List D → Prop} {out : Nat × List D}, t.den S fuel l = some out → outOk R B out → t.go S R l B := by
  intro t
  induction t with
  | bad n => intro l B out h; cases h
  | need ns t ih =>
    intro l B out h ho
    unfold Tree.den at h
    split at h
    · rename_i hs
      exact ⟨allB_ok hs, ih h ho⟩
    · cases h
  | br x t e iht ihe =>
    intro l B out h ho
    unfold Tree.den at h
    refine ⟨fun hx => ?_, fun hx => ?_⟩
    · rw [if_pos hx] at h
      exact iht h ho
    · rw [if_neg (by rw [hx]; decide)] at h
      exact ihe h ho
  | amb x neg t e iht ihe =>
    intro l B out h ho
    unfold Tree.den at h
    split at h
    · split at h
      · rename_i a b ha hb
        split at h
        · rename_i hs
          injection h with h
          subst h
          have := sameOut_ok hs
          subst this
          exact ⟨fun _ => iht ha ho, fun _ => ihe hb ho⟩
        · cases h
      · cases h
    · rename_i hne
      have hne' : ¬ (x.ev (evl S l)).rs = [] := fun e => hne (by rw [e]; rfl)
      split at h
      · rename_i hn
        exact ⟨fun _ => iht h ho, fun hc => absurd (hc hn) hne'⟩
      · rename_i hn
        exact ⟨fun hc => absurd (hc (by simpa using hn)) hne', fun _ => ihe h ho⟩
  | leaf xs =>
    intro l B out h ho
    simp only [Tree.den, Option.some.injEq] at h
    subst h
    exact ho
  | back id xs =>
    intro l B out h ho
    simp only [Tree.den, Option.some.injEq] at h
    subst h
    exact ho
  | loop id n init body ih =>
    intro l B out h ho
    unfold Tree.den at h
    generalize hf : (fun st => body.den S fuel (l.take n ++ st)) = f at h
    have hfe : ∀ st, body.den S fuel (l.take n ++ st) = f st := fun st => by rw [← hf]
    -- more rounds answer alike
    have mono : ∀ k st o, itf f id k st = some o → itf f id (k + 1) st = some o := by
      intro k
      induction k with
      | zero => intro st o h; cases h
      | succ k ihk =>
        intro st o h
        unfold itf at h ⊢
        split at h
        · rename_i j st' hj
          split at h
          · rename_i hb
            rw [if_pos hb]
            exact ihk _ _ h
          · rename_i hb
            rw [if_neg hb]
            exact h
        · cases h
    refine ⟨fun st => ∃ k o, itf f id k st = some o ∧ outOk R B o, fun st => leastN fun k => (itf f id k st).isSome = true, ⟨fuel, out, h, ho⟩, ?_⟩
    rintro st - ⟨k, o, hk, hoo⟩
    have hex : ∃ k, (itf f id k st).isSome = true := ⟨k, by rw [hk]; rfl⟩
    obtain ⟨hmin, -⟩ := leastN_ok hex
    obtain ⟨o', ho'⟩ := Option.isSome_iff_exists.1 hmin
    have up : ∀ a b st o, itf f id a st = some o → itf f id (a + b) st = some o := by
      intro a b
      induction b with
      | zero => intro st o h; exact h
      | succ b ihb => intro st o h; exact mono _ _ _ (ihb st o h)
    have hoo' : o' = o := by
      have h1 := up _ k st o' ho'
      have h2 := up k (leastN fun k => (itf f id k st).isSome = true) st o hk
      rw [Nat.add_comm] at h2
      exact Option.some.inj (h1.symm.trans h2)
    rw [hoo'] at ho'
    cases hm : leastN (fun k => (itf f id k st).isSome = true) with
    | zero => rw [hm] at ho'; cases ho'
    | succ m =>
      rw [hm] at ho'
      unfold itf at ho'
      split at ho'
      · rename_i j st' hj
        refine ih ((hfe st).trans hj) ?_
        split at ho'
        · rename_i hb
          obtain rfl := Nat.eq_of_beq_eq_true hb
          show updB B id _ id st'
          unfold updB
          rw [if_pos rfl]
          refine ⟨⟨m, o, ho', hoo⟩, ?_⟩
          have hex' : ∃ k, (itf f id k st').isSome = true := ⟨m, by rw [ho']; rfl⟩
          show _ < leastN (fun k => (itf f id k st).isSome = true)
          rw [hm]
          exact Nat.lt_succ_of_le ((leastN_ok hex').2 m (by rw [ho']; rfl))
        · rename_i hb
          injection ho' with ho'
          subst ho'
          cases j with
          | zero => exact hoo
          | succ j =>
            show updB B id _ j st'
            unfold updB
            rw [if_neg]
            · exact hoo
            · intro e
              subst e
              exact hb (Nat.beq_refl _)
      · cases ho'

def outs0 : Option (Nat × List D) → Option (List D)
  | some (0, xs) => some xs
  | _ => none
theorem outs0_ok {o : Option (Nat × List D)} {xs : List D} (h : outs0 o = some xs) : o = some (0, xs) := by
  unfold outs0 at h
  split at h
  · injection h with h; rw [h]
  · cases h

/-- What a function computes, by its tree. -/
def denF (tbl : Tbl) (fuel : Nat) (t : Tree) : List D → Option (List D) := fun ds => outs0 (t.den (tblS tbl) fuel ds)
theorem go_denF {tbl : Tbl} {fuel : Nat} {t : Tree} {ds outs : List D} (h : denF tbl fuel t ds = some outs) : t.go (tblS tbl) (fun o => o = outs) ds fun _ _ => False :=
  go_of_den t (outs0_ok h) rfl

/-- A function that calls itself: its contract, as far down as n. -/
def upN (G : (List D → Option (List D)) → List D → Option (List D)) : Nat → List D → Option (List D)
  | 0 => fun _ => none
  | n + 1 => G (upN G n)
theorem FOk.none {ct : Ct} (hen : ∀ args w, (callFunc ct.f args).run Try.prog w = .ok (.enter ct.f args) w) : FOk ct fun _ => Option.none := ⟨hen, fun A p w vs us ds outs h => by cases h⟩
theorem fok_up {ct : Ct} {G : (List D → Option (List D)) → List D → Option (List D)} (hen : ∀ args w, (callFunc ct.f args).run Try.prog w = .ok (.enter ct.f args) w) (h : ∀ g, FOk ct g → FOk ct (G g)) : ∀ n, FOk ct (upN G n)
  | 0 => FOk.none hen
  | n + 1 => h _ (fok_up hen h n)
/-- A contract cut at a measure. -/
def cutM (m : List D → Nat) (n : Nat) (g : List D → Option (List D)) : List D → Option (List D) := fun ds => if m ds < n then g ds else none
theorem fok_cut {ct : Ct} {m : List D → Nat} {g : List D → Option (List D)} (hen : ∀ args w, (callFunc ct.f args).run Try.prog w = .ok (.enter ct.f args) w) (h : ∀ n, FOk ct (cutM m n g) → FOk ct (cutM m (n + 1) g)) : FOk ct g := by
  have key : ∀ n, FOk ct (cutM m n g) := by
    intro n
    induction n with
    | zero => exact ⟨hen, fun A p w vs us ds outs h => by simp [cutM] at h⟩
    | succ n ih => exact h n ih
  refine ⟨hen, fun A p w vs us ds outs hg hp hl ha => (key (m ds + 1)).call A p w vs us ds outs ?_ hp hl ha⟩
  simp only [cutM, if_pos (Nat.lt_succ_self _)]
  exact hg
/-- A contract may say less. -/
theorem FOk.sub {ct : Ct} {g g' : List D → Option (List D)} (h : FOk ct g) (hs : ∀ ds outs, g' ds = some outs → g ds = some outs) : FOk ct g' := ⟨h.enter, fun A p w vs us ds outs hg hp hl ha => h.call A p w vs us ds outs (hs ds outs hg) hp hl ha⟩
/-- .. and so on data of the arguments' types alone. -/
theorem FOk.subW {ct : Ct} {g g' : List D → Option (List D)} (h : FOk ct g) (hs : ∀ ds outs, WfA ct.ars ds → g' ds = some outs → g ds = some outs) : FOk ct g' := ⟨h.enter, fun A p w vs us ds outs hg hp hl ha => h.call A p w vs us ds outs (hs ds outs (by rw [← all_map]; exact ha.wf.1) hg) hp hl ha⟩
end Go.Proofs.Ytflahdpkkgmpeaa

namespace Go.Proofs.Ytflahdpkkgmpeaa
open Go.RowKit
set_option linter.unusedVariables false
set_option maxRecDepth 100000

section
variable {A A' : Nat → Prop} {p : Pins} {w : World} (hA : ∀ b, b < w.heap.size → A b → A' b)
include hA

theorem FFD.chA {dep : List Nat} {b : Nat} (hb : b < w.heap.size) (h : FFD A p dep b) : FFD A' p dep b := by
  rcases h with ⟨h1, h2⟩ | h
  · exact .inl ⟨hA b hb h1, h2⟩
  · exact .inr h

theorem Rd.chA {dep : List Nat} {d : D} {t : Ty} {cs : List Value} (h : Rd w (FFD A p dep) d t cs) : Rd w (FFD A' p dep) d t cs := Rd.mono (fun b hb hf => hf.chA hA hb) h

theorem Fl.chA {dep : List Nat} {o : Option Nat} {d : D} {t : Ty} {cs : List Value} (h : Fl A p w dep o d t cs) : Fl A' p w dep o d t cs := by
  cases o with
  | none => exact Rd.chA hA h
  | some pin =>
    rcases h with ⟨E, te, l, v, e1, hte, e2, e3, hv⟩ | h
    · refine .inl ⟨E, te, l, v, e1, hte, e2, e3, ?_⟩
      rcases hv with hv | ⟨g, cap, cur, e4, hg, hh, q1, q2, q3, q4, q5⟩
      · exact .inl hv
      · refine .inr ⟨g, cap, cur, e4, hg, hh, q1, q2, q3, q4, fun i hi => ?_⟩
        obtain ⟨vs, hr1, hd⟩ := q5 i hi
        exact ⟨vs, hr1, Rd.chA hA hd⟩
    · exact .inr h

theorem Fls.chA {dep : List Nat} {own : List (Nat × Nat)} : ∀ {ds : List D} {j : Nat} {fs : List Ty} {cs : List Value}, Fls A p w dep own j ds fs cs → Fls A' p w dep own j ds fs cs
  | [], _, _, _, h => h
  | d :: ds, j, fs, cs, ⟨t, ts, c1, c2, e1, e2, h1, h2⟩ => ⟨t, ts, c1, c2, e1, e2, Fl.chA hA h1, Fls.chA h2⟩

theorem Con.chA {dep : List Nat} {own : List (Nat × Nat)} {d : D} {t : Ty} {cs : List Value} (h : Con A p w d t own dep cs) : Con A' p w d t own dep cs := by
  unfold Con at h ⊢
  split
  · obtain ⟨fs, ds, hf, e, h⟩ := h
    exact ⟨fs, ds, hf, e, Fls.chA hA h⟩
  · rename_i hne
    split at h
    · rename_i T; exact absurd rfl (hne T)
    · exact Fl.chA hA h
end

mutual
/-- No word of a snapshot within. -/
def AV.plain : AV → Bool
  | .sn _ _ => false
  | .pt _ _ _ _ => false
  | .ar _ _ _ => false
  | .lv _ _ => false
  | .ax _ _ _ _ => false
  | .tup l => avsPlain l
  | .gd _ a => AV.plain a
  | .fn _ l => avsPlain l
  | .bx _ _ a => AV.plain a
  | .fr _ a => AV.plain a
  | _ => true
def avsPlain : List AV → Bool
  | [] => true
  | a :: l => AV.plain a && avsPlain l
end

section
variable {c c' : Cx} {p : Pins} {w : World}
mutual
theorem AV.chA (hA : ∀ b, b < w.heap.size → c.A b → c'.A b) (hv : c.v = c'.v) (hT : c.At = c'.At) : ∀ (x : AV) (v : Value), x.plain = true → x.pd c p w v → x.pd c' p w v
  | .any, v, _, h => h
  | .undef, v, _, h => h
  | .nilS, v, _, h => h
  | .nb x neg, v, _, ⟨b, e, h⟩ => ⟨b, e, by rw [← hv]; exact h⟩
  | .nilP, v, _, h => h
  | .ref k q o t, v, _, ⟨g, hg, e, ha⟩ => ⟨g, hg, e, by rw [← hT]; exact ha⟩
  | .v x t own dep, v, _, ⟨cs, hp, hc⟩ => ⟨cs, hp, by rw [← hv]; exact hc.chA hA⟩
  | .rd x t dep wr, v, _, ⟨b, o, cs, e, hf, hr, h0, hd, hw⟩ => by
    refine ⟨b, o, cs, e, hf.chA hA (rangeAt_lt hr h0), hr, h0, by rw [← hv]; exact Rd.chA hA hd, ?_⟩
    match wr, hw with
    | none, _ => trivial
    | some (pin, i, pt, q, te), hw =>
      refine ⟨hw.1, ?_⟩
      rw [← hv]
      exact hw.2
  | .tup l, v, hb, ⟨vs, e, h⟩ => ⟨vs, e, pds_chA hA hv hT l vs (by simpa [AV.plain] using hb) h⟩
  | .gd cs a, v, hb, h => by
    rw [show AV.pd c' p w (.gd cs a) v = ((hold c'.v cs = true → AV.pd c' p w a v) ∧ (hold c'.v cs = false → v = Go.undef)) from rfl, ← hv]
    exact ⟨fun hc => AV.chA hA hv hT a v (by simpa [AV.plain] using hb) (h.1 hc), h.2⟩
  | .fn f l, v, hb, ⟨vs, e, h⟩ => ⟨vs, e, pds_chA hA hv hT l vs (by simpa [AV.plain] using hb) h⟩
  | .bx k T a, v, hb, ⟨g, u, hg, e, hh, h⟩ => ⟨g, u, ⟨hg.1, by rw [← hT]; exact hg.2⟩, e, hh, AV.chA hA hv hT a u (by simpa [AV.plain] using hb) h⟩
  | .sn t a, v, hb, h => by simp [AV.plain] at hb
  | .pt _ _ _ _, v, hb, h => by simp [AV.plain] at hb
  | .ar _ _ _, v, hb, h => by simp [AV.plain] at hb
  | .lv _ _, v, hb, h => by simp [AV.plain] at hb
  | .ax _ _ _ _, v, hb, h => by simp [AV.plain] at hb
  | .fr T a, v, hb, ⟨g, u, ha, hf, e, hh, h⟩ => ⟨g, u, hA g (Array.getElem?_eq_some_iff.1 hh).1 ha, hf, e, hh, AV.chA hA hv hT a u (by simpa [AV.plain] using hb) h⟩
theorem pds_chA (hA : ∀ b, b < w.heap.size → c.A b → c'.A b) (hv : c.v = c'.v) (hT : c.At = c'.At) : ∀ (l : List AV) (vs : List Value), avsPlain l = true → pds c p w l vs → pds c' p w l vs
  | [], vs, _, h => h
  | a :: l, vs, hb, ⟨v, r, e, ha, hl⟩ => by
    simp only [avsPlain, Bool.and_eq_true] at hb
    exact ⟨v, r, e, AV.chA hA hv hT a v hb.1 ha, pds_chA hA hv hT l r hb.2 hl⟩
end

theorem EntOk.chA (hA : ∀ b, b < w.heap.size → c.A b → c'.A b) (hv : c.v = c'.v) {k : Nat} {e : Ent} (h : EntOk c p w k e) : EntOk c' p w k e := by
  obtain ⟨g, cs, T, hg, hh, hc⟩ := h
  exact ⟨g, cs, T, hg, hh, by rw [← hv]; exact hc.chA hA⟩

/-- Every value as the snapshot has it. -/
def snT (l : List (Nat × AV)) : List (Nat × AV) := l.map fun e => (e.1, .sn e.1 e.2)
def unsn : AV → AV
  | .sn _ a => a
  | a => a
def unT (l : List (Nat × AV)) : List (Nat × AV) := l.map fun e => (e.1, unsn e.2)
def plainT (l : List (Nat × AV)) : Bool := l.all fun e => e.2.plain

theorem lkA_mapK {α β : Type} {f : Nat → α → β} {l : List (Nat × α)} {k : Nat} {y : β} (h : lkA (l.map fun e => (e.1, f e.1 e.2)) k = some y) : ∃ x, lkA l k = some x ∧ y = f k x := by
  induction l with
  | nil => cases h
  | cons e l ih =>
    obtain ⟨m, x⟩ := e
    by_cases hm : m = k
    · subst hm
      rw [List.map_cons, lkA_cons_self] at h
      injection h with h
      exact ⟨x, lkA_cons_self, h.symm⟩
    · rw [List.map_cons, lkA_cons_ne hm] at h
      rw [lkA_cons_ne hm]
      exact ih h

/-- Into a snapshot. -/
theorem SF.snap (hA : ∀ b, b < w.heap.size → c.A b → c'.A b) (hv : c.v = c'.v) (hT : c.At = c'.At) {σ : St} {a : Act} (hs : ∀ t v, a.tmps[t]? = some v → c'.snap t = v) (hp : plainT σ.t = true) (h : SF c σ p w a) : SF c' ⟨snT σ.t, σ.m⟩ p w a := by
  refine ⟨fun t x hx => ?_, fun k e he => (h.m k e he).chA hA hv⟩
  obtain ⟨y, hy, rfl⟩ := lkA_mapK (f := fun t x => AV.sn t x) hx
  obtain ⟨v, h1, h2⟩ := h.t t y hy
  exact ⟨v, h1, (hs t v h1).symm, AV.chA hA hv hT y v (List.all_eq_true.1 hp _ (lkA_mem hy)) h2⟩
/-- Out of it. -/
theorem SF.unsnap (hA : ∀ b, b < w.heap.size → c.A b → c'.A b) (hv : c.v = c'.v) (hT : c.At = c'.At) {σ : St} {a : Act} (hp : plainT (unT σ.t) = true) (h : SF c σ p w a) : SF c' ⟨unT σ.t, σ.m⟩ p w a := by
  refine ⟨fun t x hx => ?_, fun k e he => (h.m k e he).chA hA hv⟩
  have hpl := List.all_eq_true.1 hp _ (lkA_mem hx)
  obtain ⟨y, hy, rfl⟩ := lkA_map (f := unsn) hx
  obtain ⟨v, h1, h2⟩ := h.t t y hy
  refine ⟨v, h1, AV.chA hA hv hT _ v hpl ?_⟩
  unfold unsn
  split
  · exact h2.2
  · exact h2

/-- The facts on temporaries, of another run whose temporaries have the snapshot's values. -/
theorem SF.other {σ : St} {a b : Act} (hs : ∀ t, a.tmps[t]? = some (c.snap t) ∨ a.tmps[t]? = none) (hsz : b.tmps.size ≤ a.tmps.size) (hall : ∀ t x, lkA σ.t t = some x → ∃ y, x = .sn t y) (h : SF c σ p w b) : SF c σ p w a := by
  refine ⟨fun t x hx => ?_, h.m⟩
  obtain ⟨y, rfl⟩ := hall t x hx
  obtain ⟨v, h1, h2, h3⟩ := h.t t _ hx
  have hlt := (Array.getElem?_eq_some_iff.1 h1).1
  rcases hs t with h4 | h4
  · exact ⟨v, by rw [h4, h2], h2, h3⟩
  · rw [Array.getElem?_eq_none_iff] at h4
    omega
end

section
variable {A : Nat → Prop} {p p' : Pins} {w w' w0 : World} {S0 : Nat → Prop}

/-- The run begins anew: what was pinned is its own. -/
theorem Bs.anew (h : Bs A w0 S0 p w) : Bs A w (pinned p) p w :=
  ⟨h.inj, h.bd, But.refl _ _, fun x b hx => .inl ⟨x, hx⟩, fun b hb => h.new b (Nat.le_trans h.but.size hb), h.pa, h.obj⟩

/-- What a later part of the run brings, seen from the beginning. -/
theorem Bs.comp (h : Bs A w0 S0 p w) (h' : Bs A w (pinned p) p' w') : Bs A w0 S0 p' w' := by
  refine ⟨h'.inj, h'.bd, ⟨h'.but.os.trans h.but.os, h'.but.tape.trans h.but.tape, h'.but.output.trans h.but.output, Nat.le_trans h.but.size h'.but.size, fun k hk hn => ?_⟩, fun x b hx => ?_, h.new, h'.pa, h'.obj⟩
  · have hkw : k < w.heap.size := Nat.lt_of_lt_of_le hk h.but.size
    refine (h'.but.block k hkw fun ⟨x, hx⟩ => ?_).trans (h.but.block k hk hn)
    rcases h.pin x k hx with h1 | h1
    · exact hn h1
    · omega
  · rcases h'.pin x b hx with ⟨y, hy⟩ | h1
    · exact h.pin y b hy
    · exact .inr (Nat.le_trans h.but.size h1)

/-- A block that nobody has stays. -/
theorem Bs.stays (h' : Bs A w (pinned p) p' w') {b : Nat} (hb : b < w.heap.size) (hf : Free p b) : w'.heap[b]? = w.heap[b]? ∧ Free p' b := by
  refine ⟨h'.but.block b hb fun ⟨x, hx⟩ => hf x hx, fun x hx => ?_⟩
  rcases h'.pin x b hx with ⟨y, hy⟩ | h1
  · exact hf y hy
  · omega
end
end Go.Proofs.Ytflahdpkkgmpeaa

namespace Go.Proofs.Ytflahdpkkgmpeaa
open Go.RowKit
set_option linter.unusedVariables false
set_option maxRecDepth 100000

/-- A later world keeps a block. -/
def Keep2 (l D : Nat) (w w' : World) : Prop := w'.heap[l]? = w.heap[l]? ∧ w'.heap[D]? = w.heap[D]?

theorem bw_law {gf : FuncId} {te : Ty} (hin : BwIn gf te) (hen : ∀ (args : Array Value) (w : World), (callFunc gf args).run Try.prog w = .ok (.enter gf args) w)
    {g : Operand} {ti tx : Tmp} {assign body : Code} {Q : Exit → Act → World → Prop} {a : Act} {w : World} {nn : Nat} (hn : 3 ≤ nn)
    {gc len cap : Nat} (hg : a.eval g = .func (.func gf) #[] #[.pointer (some ⟨gc, 0, none⟩)]) {A : Option Addr} {els : Nat → List Value} {ev : Nat → Value} (hlen : len < 1152921504606846976) (hels : ∀ i, i < len → Pack te (els i) (ev i) ∧ (els i).length = te.w)
    (I : Nat → World → Prop) (M : Nat → Act → World → Prop)
    (hIr : ∀ k W, I k W → W.cell? ⟨gc, 0, none⟩ = some (.slice A len cap) ∧ ∀ i, i < len → ∃ b off, A = some ⟨b, off, none⟩ ∧ W.rangeAt b (off + i * te.w) (els i))
    (hIw : ∀ k W o, I k W → w.heap.size + 1 < W.heap.size → I k (W.putObj (w.heap.size + 1) o))
    (hMw : ∀ k a W o, M k a W → w.heap.size + 1 < W.heap.size → M k a (W.putObj (w.heap.size + 1) o))
    (h0 : ∀ o, I 0 ((w.alloc (.deferred (some []))).alloc o))
    (hassign : ∀ k W, I k W → k < len → assign.wpIn (FR (some (w.heap.size + 1))) (nn - 1 - 1) Try.prog (Exit.then (fun a1 W1 => M k a1 W1 ∧ Keep2 (w.heap.size + 1) w.heap.size W W1) (fun _ _ _ => False))
      { tmps := (a.tmps.setIfInBounds ti (.int .i64 ((len : Int) - 1 - k))).setIfInBounds tx (ev (len - 1 - k)), defers := [] } W)
    (hbody : ∀ k a1 W1, M k a1 W1 → k < len → body.wpIn (FR (some (w.heap.size + 1))) (nn - 1 - 1) Try.prog (fun e a2 W2 => e = .normal ∧ I (k + 1) W2 ∧ Keep2 (w.heap.size + 1) w.heap.size W1 W2) a1 W1)
    (hdone : ∀ W, I len W → W.heap[w.heap.size]? = some (.deferred (some [])) → Q .normal { a with defers := { target := .collected w.heap.size, args := #[] } :: a.defers } W) :
    (Code.rangeFunc g #[ti, tx] assign body).wpIn (FR none) nn Try.prog Q a w := by
  refine wpIn_rangeFunc ?_
  intro fn hfn
  obtain ⟨rec, hrec⟩ : ∃ rec : LoopState → Option Code → Loop, rec = fun st pe => { state := st, pending := pe, fn, tmps := a.tmps, params := #[ti, tx], assign, body, defers := w.heap.size } := ⟨_, rfl⟩
  have hD : ∀ o, (((w.alloc (.deferred (some []))).alloc o).heap[w.heap.size]? = some (.deferred (some []))) := fun o => by
    rw [hget, if_neg (by simp), hget, if_pos rfl]
  have hL : ∀ o, (((w.alloc (.deferred (some []))).alloc o).heap[w.heap.size + 1]? = some o) := fun o => by
    rw [hget, if_pos (by simp)]
  refine ⟨w.heap.size + 1, [{ target := .collected w.heap.size, args := #[] }], (w.alloc (.deferred (some []))).alloc (.loop (rec .ready none)), { target := .fn (.func gf) #[.pointer (some ⟨gc, 0, none⟩)], args := #[.func (.yield (w.heap.size + 1)) #[] #[]] }, (w.alloc (.deferred (some []))).alloc (.loop (rec .ready none)), gf,
    #[.func (.yield (w.heap.size + 1)) #[] #[]] ++ #[.pointer (some ⟨gc, 0, none⟩)], (w.alloc (.deferred (some []))).alloc (.loop (rec .ready none)), ?_, ?_, ?_, ?_, fun _ => by omega, ?_⟩
  · rw [hrec]; exact run_enterLoop_outer _ _ _ _ _
  · simp only [resolve, hg]
    simp [go_sem]
  · intro f' hf'; trivial
  · simp [invoke, go_sem, hen]
  · refine (hin (FR none) (nn - 1) (w.heap.size + 1) gc len cap A els ev
      (fun k W => I k W ∧ W.heap[w.heap.size + 1]? = some (.loop (rec .ready none)) ∧ W.heap[w.heap.size]? = some (.deferred (some [])))
      (fun _ _ => False) _ trivial rfl (by omega) hlen hels (fun k W hj => hIr k W hj.1) ?_ ⟨h0 _, hL _, hD _⟩).mono ?_
    · -- one round
      rintro k W ⟨hi, hl, hk⟩ hlt
      have hsz : w.heap.size + 1 < W.heap.size := (Array.getElem?_eq_some_iff.1 hl).1
      have hy := run_yield (P := Try.prog) (args := #[.int .i64 ((len : Int) - 1 - k), ev (len - 1 - k)]) hl (by rw [hrec]; rfl)
      rw [hrec] at hy
      have hz : ((#[ti, tx] : Array Tmp).zip #[Value.int .i64 ((len : Int) - 1 - k), ev (len - 1 - k)]).foldl (fun tmps (x : Tmp × Value) => tmps.setIfInBounds x.1 x.2) a.tmps = (a.tmps.setIfInBounds ti (.int .i64 ((len : Int) - 1 - k))).setIfInBounds tx (ev (len - 1 - k)) := by
        simp
      have ha := hassign k W hi hlt
      rw [← hz] at ha
      refine ⟨fn, _, assign, body, hy, roundIn_of_wpIn hfn (wpIn_mono ha ?_)⟩
      rintro e a1 W1 h1
      cases e with
      | normal =>
        obtain ⟨hm, hk1, hk2⟩ := h1
        have hl1 : W1.heap[w.heap.size + 1]? = some (.loop (rec .ready none)) := hk1.trans hl
        have hsz1 : w.heap.size + 1 < W1.heap.size := (Array.getElem?_eq_some_iff.1 hl1).1
        have hlb : (W1.putObj (w.heap.size + 1) (.loop { rec .ready none with state := .busy })).heap[w.heap.size + 1]? = some (.loop { rec .ready none with state := .busy }) := World.putObj_heap_same hsz1
        have hkb : (W1.putObj (w.heap.size + 1) (.loop { rec .ready none with state := .busy })).heap[w.heap.size]? = some (.deferred (some [])) := (World.putObj_heap_other (by omega)).trans (hk2.trans hk)
        refine ⟨_, run_beginRound hl1 (by rw [hrec]), ?_⟩
        refine wpIn_mono (hbody k a1 _ (hMw _ _ _ _ hm hsz1) hlt) ?_
        rintro e a3 W3 ⟨rfl, hi3, hk3, hk4⟩
        have hl3 := hk3.trans hlb
        have hsz3 : w.heap.size + 1 < W3.heap.size := (Array.getElem?_eq_some_iff.1 hl3).1
        have hr := run_endRound (P := Try.prog) none hl3
        refine ⟨_, _, hr, .inl ⟨rfl, hIw _ _ _ hi3 hsz3, ?_, (World.putObj_heap_other (by omega)).trans (hk4.trans hkb)⟩⟩
        have := World.putObj_heap_same (w := W3) (o := .loop { rec .ready none with state := .ready, pending := none }) hsz3
        rw [hrec] at this ⊢
        exact this
      | _ => exact h1.elim
    · -- behind the iterator
      rintro e W2 ⟨⟨v, rfl⟩, ⟨hi, hl, hk⟩ | ⟨k, hf⟩⟩
      · have hsz2 : w.heap.size + 1 < W2.heap.size := (Array.getElem?_eq_some_iff.1 hl).1
        exact ⟨none, _, by have := run_endLoop (P := Try.prog) hl (by rw [hrec]; simp); rw [hrec] at this; exact this, hdone _ (hIw _ _ _ hi hsz2) ((World.putObj_heap_other (by omega)).trans hk)⟩
      · exact hf.elim
end Go.Proofs.Ytflahdpkkgmpeaa

namespace Go.Proofs.Ytflahdpkkgmpeaa
open Go.RowKit
set_option linter.unusedVariables false
set_option maxRecDepth 100000

def bwG (g : FuncId) : List (FuncId × FuncId × TypeId × TypeId) → Option (FuncId × FuncId × TypeId × TypeId)
  | [] => none
  | e :: l => if Nat.beq e.2.1 g then some e else bwG g l
theorem bwG_ok {g : FuncId} {e : FuncId × FuncId × TypeId × TypeId} : ∀ {l : List (FuncId × FuncId × TypeId × TypeId)}, bwG g l = some e → e ∈ l ∧ e.2.1 = g
  | [], h => by cases h
  | x :: l, h => by
    unfold bwG at h
    split at h
    · rename_i hx
      injection h with h
      subst h
      exact ⟨List.mem_cons_self, Nat.eq_of_beq_eq_true hx⟩
    · obtain ⟨h1, h2⟩ := bwG_ok h
      exact ⟨List.mem_cons_of_mem _ h1, h2⟩

def bwFact (σ : St) (g : Operand) : Option (X × FuncId × TypeId) := match opd σ [] g with
  | some (.fn f [.fr _ (.v x (.row E) _ _)]) => some (x, f, E)
  | _ => none

/-- A round's beginning. -/
def roundS (σh : St) (ti tx i : Nat) (x : X) (te : Ty) : St := ⟨putA (putA σh.t ti (.v (.tok i) (.int .i64) [] [])) tx (.v (.get x (.tok i)) te [] []), σh.m⟩

/-- A round's end. -/
def roundE (id : Nat) (ms : List Item) (kill : List Nat) (σk : St) (i : Nat) : ResD → St → Tree := fun r σb => match r with
  | .normal => (match conv [] ms (σb.drop kill) with
    | some (σc, _, vb) => if covers σc σk then .back id (vb ++ [subX (.tok i) (.lit (.i 1))]) else .bad (3000000 + id)
    | none => .bad (4000000 + id))
  | _ => .bad (10000000 + id)

def rangeB (P : Program) (tbl : Tbl) (ann : Ann) (lo z : Nat) (id : Nat) (ms : List Item) (kill : List Nat) (g : Operand) (ti tx : Nat) (assign body : Code) (n : Nat) (σ : St) (k : Nat → St → Tree) : Tree := match conv [] ms σ with
  | some (σ1, _, vb) => (match bwFact (keptS [] ms kill n ⟨snT σ1.t, σ1.m⟩) g with
    | some (x, f, E) => (match bwG f bwTab, tyOf E with
      | some e, some te => if Nat.beq e.2.2.2 E && (flatB 8 te && (X.upto n x && (plainT σ1.t && (plainT (unT (keptS [] ms kill n ⟨snT σ1.t, σ1.m⟩).t) && (Nat.blt ti z && Nat.blt tx z))))) then
          .loop id n (vb ++ [subX (lenX x) (.lit (.i 1))])
            (.br (leX (.lit (.i 0)) (.tok (n + vb.length)))
              (toT P tbl ann lo z assign [id] (n + (vb.length + 1)) (roundS (headS [] ms n (keptS [] ms kill n ⟨snT σ1.t, σ1.m⟩)) ti tx (n + vb.length) x te) fun n1 r1 σa => match r1 with
                | .normal => toT P tbl ann lo z body [id] n1 σa fun n2 r2 σb => roundE id ms kill (keptS [] ms kill n ⟨snT σ1.t, σ1.m⟩) (n + vb.length) r2 σb
                | _ => .bad (11000000 + id))
              (k (n + (vb.length + 1)) ⟨unT (headS [] ms n (keptS [] ms kill n ⟨snT σ1.t, σ1.m⟩)).t, (headS [] ms n (keptS [] ms kill n ⟨snT σ1.t, σ1.m⟩)).m⟩))
        else .bad (12000000 + id)
      | _, _ => .bad (13000000 + id))
    | none => .bad (14000000 + id))
  | none => .need (infoS σ [] ms) (.bad (5000000 + id))

section
variable {c : Cx} {p : Pins} {w w' w0 : World} {S0 : Nat → Prop} {a : Act} {σ σ' : St} {d : List Deferred} {z : Nat} {tbl : Tbl} {A : Nat → Prop}

theorem turn_stab {l : Nat} (hA : ¬ A l) (pa : ∀ x b, p x = some b → A b) (o : Obj) : Stab A no no p w p (w.putObj l o) := by
  refine ⟨by simp, fun b hb ha hf => ⟨World.putObj_heap_other (fun e => hA (e ▸ ha)), hf⟩, fun x b _ hx => hx, fun x b _ hx => World.putObj_heap_other (fun e => hA (e ▸ pa x b hx))⟩
theorem turn_bs {l : Nat} (h : Bs A w0 S0 p w) (hA : ¬ A l) (hS : S0 l) (o : Obj) : Bs A w0 S0 p (w.putObj l o) := by
  refine ⟨h.inj, fun x b hx => by simpa using h.bd x b hx, ⟨h.but.os, h.but.tape, h.but.output, by simpa using h.but.size, fun k hk hn => (World.putObj_heap_other (fun e => hn (by rw [e]; exact hS))).trans (h.but.block k hk hn)⟩, h.pin, h.new, h.pa, fun x b hx => (h.obj x b hx).same (World.putObj_heap_other (fun e => hA (e ▸ h.pa x b hx)))⟩
theorem SF.same (hs : Stab c.A no no p w p w') (h : SF c σ p w a) : SF c σ p w' a := by
  refine ⟨fun t x hx => ?_, fun k e he => (h.m k e he).kept hs (fun _ _ => ⟨rfl, rfl⟩) ⟨rfl, rfl⟩⟩
  obtain ⟨v, h1, h2⟩ := h.t t x hx
  exact ⟨v, h1, AV.kept hs x v (fun _ _ => ⟨rfl, rfl⟩) (fun _ _ => rfl) h2⟩

theorem bwFact_ok (hf : SF c σ p w a) {g : Operand} {x : X} {f : FuncId} {E : TypeId} (h : bwFact σ g = some (x, f, E)) :
    ∃ gc T A1 cap te, a.eval g = .func (.func f) #[] #[.pointer (some ⟨gc, 0, none⟩)] ∧ c.A gc ∧ Free p gc ∧ w.heap[gc]? = some (.cells #[.slice A1 (x.ev c.v).rs.length cap] T (0, 0)) ∧ tyOf E = some te ∧ x.ev c.v = .r (x.ev c.v).rs ∧ (x.ev c.v).rs.length ≤ LM te ∧ ∃ F : Nat → Prop, RdE w F (x.ev c.v).rs te A1 0 := by
  unfold bwFact at h
  split at h
  · rename_i f' T x' E' own dep hg
    simp only [Option.some.injEq, Prod.mk.injEq] at h
    obtain ⟨rfl, rfl, rfl⟩ := h
    obtain ⟨vs, hev, v1, r, rfl, ⟨gc, u, hA, hfr, rfl, hh, cs, hp, hc⟩, hr⟩ := opd_ok hf rfl hg
    have hr : r = [] := hr
    subst hr
    obtain ⟨v2, rfl⟩ : ∃ v2, cs = [v2] := by
      have := hc.len.1
      match cs, this with
      | [v2], _ => exact ⟨v2, rfl⟩
    have hp : [v2] = [u] := hp
    injection hp with hp
    subst hp
    obtain ⟨te, A1, cap, hte, e1, e2, h1, h2, h3, h4⟩ := hc.row
    subst e2
    exact ⟨gc, T, A1, cap, te, hev, hA, hfr, hh, hte, e1, h2, _, h4⟩
  · cases h

/-- The elements of a flat slice: their cells, their values. -/
theorem flat_els {te : Ty} (hb : flatB 8 te = true) {F : Nat → Prop} {l : List D} {A1 : Option Addr} (h : RdE w F l te A1 0) : ∃ (els : Nat → List Value) (ev : Nat → Value), ∀ i (hi : i < l.length), (Pack te (els i) (ev i) ∧ (els i).length = te.w) ∧ (∃ b off, A1 = some ⟨b, off, none⟩ ∧ w.rangeAt b (off + i * te.w) (els i)) ∧ ∀ (w' : World) (F' : Nat → Prop), Rd w' F' l[i] te (els i) := by
  refine ⟨fun i => (encC 8 te (l.getD i .u)).getD [], fun i => (packV te ((encC 8 te (l.getD i .u)).getD [])).getD undef, fun i hi => ?_⟩
  obtain ⟨b, o, cs, e, -, hr, hd⟩ := rdE_iff.1 h i hi
  have henc := rd_encC 8 hb hd
  have hget : l.getD i .u = l[i] := by simp [List.getD_eq_getElem?_getD, List.getElem?_eq_getElem hi]
  simp only [hget, henc, Option.getD_some]
  refine ⟨⟨?_, (Rd.len _ hd).1⟩, ⟨b, o, e, by simpa using hr⟩, fun w' F' => enc_rdC 8 henc⟩
  cases hs : isSt te with
  | true =>
    obtain ⟨S, rfl⟩ : ∃ S, te = .st S := by cases te <;> first | exact ⟨_, rfl⟩ | (cases hs; done)
    rfl
  | false =>
    obtain ⟨v, rfl⟩ := hd.single hs
    have : Pack te [v] v := one_pack hs
    rw [packV_iff.2 this]
    exact this

set_option maxHeartbeats 1000000 in
theorem rangeB_ok {nn : Nat} (hnn : 3 ≤ nn) (htb : TblOk tbl) (hnp : noPan tbl = true) {ann : Ann} {R : List D → Prop} {id : Nat} {ms : List Item} {kill : List Nat} {g : Operand} {ti tx : Nat} {assign body : Code} {n : Nat} {k : Nat → St → Tree} {l : List D} {B : Nat → List D → Prop} {Q : Exit → Act → World → Prop}
    (h : (rangeB Try.prog tbl ann c.lo z id ms kill g ti tx assign body n σ k).go (tblS tbl) R l B) (hl : l.length = n) (hb : Bs c.A w0 S0 p w) (hf : SF (c.at (tblS tbl) l) σ p w a) (hz : a.tmps.size = z)
    (hen : ∀ e ∈ bwTab, ∀ (args : Array Value) (w : World), (callFunc e.2.1 args).run Try.prog w = .ok (.enter e.2.1 args) w)
    (hk : ∀ n' σ' l' B' p' w' (c2 : Cx), l'.length = n' → l'.take n = l → (∀ j, j ≠ id → B' j = B j) → (k n' σ').go (tblS tbl) R l' B' → Bs c.A w0 S0 p' w' → c2.lo = c.lo → c2.At = c.At → (∀ b, c2.A b → c.A b) → (∀ b, w'.heap.size ≤ b → c2.A b) → (∀ x b, p' x = some b → c2.A b) → ¬ c2.A w.heap.size →
      SF (c2.at (tblS tbl) l') σ' p' w' { a with defers := { target := .collected w.heap.size, args := #[] } :: a.defers } → w'.heap[w.heap.size]? = some (.deferred (some [])) →
      Q .normal { a with defers := { target := .collected w.heap.size, args := #[] } :: a.defers } w') :
    (Code.rangeFunc g #[ti, tx] assign body).wpIn (FR none) nn Try.prog Q a w := by
  unfold rangeB at h
  split at h
  · rename_i σ1 va vb hcv
    split at h
    · rename_i x f E hbf
      split at h
      · rename_i e te hbw hte
        split at h
        · rename_i hok
          simp only [Bool.and_eq_true, Nat.blt_eq] at hok
          obtain ⟨hE, hflat, hux, hp1, hp2, hti, htx⟩ := hok
          obtain ⟨hmem, hef⟩ := bwG_ok hbw
          have hE' := Nat.eq_of_beq_eq_true hE
          subst hef
          obtain ⟨IT, μ, hI0, hgo⟩ := h
          -- the change of names
          unfold conv at hcv
          split at hcv
          · rename_i hrb
            split at hcv
            · rename_i va' vb' hva hvb
              simp only [Option.some.injEq, Prod.mk.injEq] at hcv
              obtain ⟨rfl, rfl, rfl⟩ := hcv
              obtain ⟨p1, hb1, hf1⟩ := ren_ok (c := c.at (tblS tbl) l) hrb hb hf
              have hlt : l.take n = l := by rw [← hl]; exact List.take_length
              obtain ⟨A', hA'⟩ : ∃ A' : Nat → Prop, A' = fun b => c.A b ∧ b ≠ w.heap.size ∧ b ≠ w.heap.size + 1 := ⟨_, rfl⟩
              have hAn : ∀ b, w.heap.size + 2 ≤ b → A' b := fun b hb' => by
                rw [hA']
                exact ⟨hb.new b (by have := hb.but.size; omega), by omega, by omega⟩
              have hAc : ∀ b, A' b → c.A b := fun b h => by rw [hA'] at h; exact h.1
              have hAD : ¬ A' w.heap.size := fun h => by rw [hA'] at h; exact h.2.1 rfl
              have hAL : ¬ A' (w.heap.size + 1) := fun h => by rw [hA'] at h; exact h.2.2 rfl
              have hAw : ∀ b, b < w.heap.size → c.A b → A' b := fun b hlt ha => by rw [hA']; exact ⟨ha, by omega, by omega⟩
              clear hA'
              obtain ⟨c', hcv', hcA', hclo', hcT', hcs'⟩ : ∃ c' : Cx, c'.v = c.v ∧ c'.A = A' ∧ c'.lo = c.lo ∧ c'.At = c.At ∧ c'.snap = fun t => a.tmps.getD t undef := ⟨⟨c.v, A', c.lo, c.At, c.new, fun t => a.tmps.getD t undef⟩, rfl, rfl, rfl, rfl, rfl⟩
              have hsn : ∀ t v, a.tmps[t]? = some v → c'.snap t = v := fun t v hv => by
                rw [hcs']
                show a.tmps.getD t undef = v
                rw [Array.getD_eq_getD_getElem?, hv]
                rfl
              have hs1 : SF (c'.at (tblS tbl) l) ⟨snT (σ.ren (renOf σ [] ms)).t, (σ.ren (renOf σ [] ms)).m⟩ p1 w a :=
                SF.snap (c := c.at (tblS tbl) l) (c' := c'.at (tblS tbl) l) (fun b hlt ha => by show c'.A b; rw [hcA']; exact hAw b hlt ha) rfl hcT'.symm hsn hp1 hf1
              have hsk := keptS_ok (ts := []) (ms := ms) (kill := kill) (n := n) hs1
              obtain ⟨gc, T, A1, cap, te', hev, hgA, hgF, hgh, hte', hxr, hxl, F0, hRd⟩ := bwFact_ok hsk hbf
              obtain rfl := Option.some.inj (hte'.symm.trans hte)
              obtain ⟨els, ev, hels⟩ := flat_els hflat hRd
              have hgA : A' gc := by have : c'.A gc := hgA; rwa [hcA'] at this
              obtain ⟨xs, hxs⟩ : ∃ xs, (x.ev (evl (tblS tbl) l)).rs = xs := ⟨_, rfl⟩
              have hxs' : (x.ev (c'.at (tblS tbl) l).v).rs = xs := hxs
              rw [hxs'] at hgh hxl hRd
              simp only [hxs'] at hels
              obtain ⟨w1, hw1⟩ : ∃ w1 : World, w1 = (w.alloc (.deferred (some []))).alloc (.deferred none) := ⟨_, rfl⟩
              obtain ⟨S1, hS1⟩ : ∃ S1 : Nat → Prop, S1 = fun b => pinned p1 b ∨ b = w.heap.size ∨ b = w.heap.size + 1 := ⟨_, rfl⟩
              have hw1s : w1.heap.size = w.heap.size + 2 := by rw [hw1]; simp
              have hBs0 : ∀ o, Bs A' w1 S1 p1 ((w.alloc (.deferred (some []))).alloc o) := fun o => by
                refine ⟨hb1.inj, fun y b hy => by have := hb1.bd y b hy; simp; omega, ⟨by rw [hw1]; rfl, by rw [hw1]; rfl, by rw [hw1]; rfl, by rw [hw1s]; simp, fun k hk hn => ?_⟩, fun y b hy => .inl (by rw [hS1]; exact .inl ⟨y, hy⟩), fun b hb' => hAn b (by omega), fun y b hy => hAw b (hb1.bd y b hy) (hb1.pa y b hy), fun y b hy => ?_⟩
                · rw [hS1] at hn
                  have h1 : k ≠ w.heap.size := fun e => hn (.inr (.inl e))
                  have h2 : k ≠ w.heap.size + 1 := fun e => hn (.inr (.inr e))
                  have out : ∀ o, ((w.alloc (.deferred (some []))).alloc o).heap[k]? = w.heap[k]? := fun o => by rw [hget, if_neg (by simpa using h2), hget, if_neg h1]
                  rw [out, hw1, out]
                · rcases hb1.obj y b hy with ⟨cs', T', h2⟩ | ⟨es, clock, h2⟩
                  · exact .inl ⟨cs', T', heap_old (heap_old h2)⟩
                  · exact .inr ⟨es, clock, heap_old (heap_old h2)⟩
              have hSL : S1 (w.heap.size + 1) := by rw [hS1]; exact .inr (.inr rfl)
              have hlenv : ∀ {db : List D} {i : D}, db.length = vb'.length → (db ++ [i]).length = (vb' ++ [subX (lenX x) (.lit (.i 1))]).length := fun {db i} h => by simp [h]
              have htok : ∀ {db : List D} {i : D}, db.length = vb'.length → (l.take n ++ (db ++ [i])).getD (n + vb'.length) .u = i := fun {db i} h => by
                rw [hlt, List.getD_eq_getElem?_getD, List.getElem?_append_right (by omega), List.getElem?_append_right (by omega)]
                simp [hl, h]
              have hidx : ∀ {db : List D} {i : D} {l1 : List D}, db.length = vb'.length → l1.take (n + (vb'.length + 1)) = l.take n ++ (db ++ [i]) → (X.tok (n + vb'.length)).ev (evl (tblS tbl) l1) = i := fun {db i l1} h h1 => by
                show l1.getD (n + vb'.length) .u = i
                rw [← htok (i := i) h, ← h1]
                simp only [List.getD_eq_getElem?_getD]
                rw [List.getElem?_take_of_lt (by omega)]
              have hread : ∀ {db : List D} {i : D} {p : Pins} {W : World}, SF (c'.at (tblS tbl) (l.take n ++ (db ++ [i]))) (headS [] ms n (keptS [] ms kill n ⟨snT (σ.ren (renOf σ [] ms)).t, (σ.ren (renOf σ [] ms)).m⟩)) p W a → W.heap[gc]? = some (.cells #[.slice A1 xs.length cap] T (0, 0)) →
                  W.cell? ⟨gc, 0, none⟩ = some (.slice A1 xs.length cap) ∧ ∀ i, i < xs.length → ∃ b off, A1 = some ⟨b, off, none⟩ ∧ W.rangeAt b (off + i * te'.w) (els i) := fun {db i p W} hf hg => by
                obtain ⟨gc2, T2, A2, cap2, te2, hev2, -, -, hgh2, hte2, -, -, F2, hRd2⟩ := bwFact_ok (x := x) (f := e.2.1) (E := E) hf hbf
                rw [hev] at hev2
                obtain rfl : gc = gc2 := by
                  injection hev2 with _ _ h3
                  injection h3 with h3
                  injection h3 with h3
                  injection h3 with h3
                  injection h3 with h3
                  injection h3
                rw [hg] at hgh2
                have hx2 : (x.ev (c'.at (tblS tbl) (l.take n ++ (db ++ [i]))).v).rs = xs := by
                  rw [← hxs]
                  congr 1
                  refine X.ev_upto (n := n) (e := evl (tblS tbl) (l.take n ++ (db ++ [i]))) (e' := evl (tblS tbl) l) (fun k hk => ?_) rfl x hux
                  show (l.take n ++ (db ++ [i])).getD k .u = l.getD k .u
                  exact getD_take hk _ (by omega)
                rw [hx2] at hgh2 hRd2
                injection hgh2 with hgh2
                injection hgh2 with hgh2
                injection hgh2 with hgh2
                injection hgh2 with hgh2
                injection hgh2 with e1 e2 e3
                subst e1 e3
                obtain rfl := Option.some.inj (hte2.symm.trans hte)
                refine ⟨by rw [cell_of_row W gc 0 _ T (0, 0) hg]; rfl, fun j hj => ?_⟩
                obtain ⟨b, o, cs, e1, -, hr, hd⟩ := rdE_iff.1 hRd2 j hj
                have q1 := rd_encC 8 hflat hd
                have q2 := rd_encC 8 hflat ((hels j hj).2.2 W F2)
                rw [q1] at q2
                injection q2 with q2
                subst q2
                exact ⟨b, o, e1, by simpa using hr⟩
              have hhead : ∀ {db : List D} {i : D} {l2 : List D} {p : Pins} {W : World}, db.length = vb'.length → n ≤ l2.length → l2.take n = l → SF (c'.at (tblS tbl) l2) (keptS [] ms kill n ⟨snT (σ.ren (renOf σ [] ms)).t, (σ.ren (renOf σ [] ms)).m⟩) p W a → ItM c'.A p W ms db → SF (c'.at (tblS tbl) (l.take n ++ (db ++ [i]))) (headS [] ms n (keptS [] ms kill n ⟨snT (σ.ren (renOf σ [] ms)).t, (σ.ren (renOf σ [] ms)).m⟩)) p W a := fun {db i l2 p W} h1 h2 h3 h4 h5 =>
                head_ok (c := c'.at (tblS tbl) l2) (c' := c'.at (tblS tbl) (l.take n ++ (db ++ [i]))) (da := []) (db := db) rfl rfl ⟨rfl, rfl⟩ (fun k hk => by
                  show l2.getD k .u = (l.take n ++ (db ++ [i])).getD k .u
                  rw [getD_take hk _ (by omega), ← h3]
                  simp only [List.getD_eq_getElem?_getD]
                  rw [List.getElem?_take_of_lt hk]) (fun j hj => by
                  have hj : j < db.length := by simpa using hj
                  show (l.take n ++ (db ++ [i])).getD (n + j) .u = _
                  simp only [List.getD_eq_getElem?_getD]
                  rw [List.getElem?_append_right (by simp; omega)]
                  have e1 : n + j - (l.take n).length = j := by simp; omega
                  rw [e1, List.getElem?_append_left hj]
                  rfl) h4 rfl h5
              have hgcL : gc ≠ w.heap.size + 1 := fun e => hAL (by rw [← e]; exact hgA)
              refine bw_law (bw_in e hmem te' (by rw [hE']; exact hte)) (hen e hmem) hnn (gc := gc) (len := xs.length) (cap := cap) (A := A1) (els := els) (ev := ev) hev (by have hxl := Nat.le_trans hxl (LM_le _); unfold LIM at hxl; omega) (fun i hi => (hels i hi).1)
                (fun k W => ∃ (p : Pins) (db : List D), db.length = vb'.length ∧ IT (db ++ [.i ((xs.length : Int) - 1 - k)]) ∧ Bs A' w1 S1 p W ∧ SF (c'.at (tblS tbl) (l.take n ++ (db ++ [.i ((xs.length : Int) - 1 - k)]))) (headS [] ms n (keptS [] ms kill n ⟨snT (σ.ren (renOf σ [] ms)).t, (σ.ren (renOf σ [] ms)).m⟩)) p W a ∧ W.heap[gc]? = some (.cells #[.slice A1 xs.length cap] T (0, 0)) ∧ Free p gc)
                (fun k a1 W => ∃ (p : Pins) (db : List D) (n1 : Nat) (σa : St) (l1 : List D) (B1 : Nat → List D → Prop), db.length = vb'.length ∧ l1.length = n1 ∧ l1.take (n + (vb'.length + 1)) = l.take n ++ (db ++ [.i ((xs.length : Int) - 1 - k)]) ∧ B1 id = (fun st' => IT st' ∧ μ st' < μ (db ++ [.i ((xs.length : Int) - 1 - k)])) ∧
                  (toT Try.prog tbl ann c.lo z body [id] n1 σa (fun n2 r2 σb => roundE id ms kill (keptS [] ms kill n ⟨snT (σ.ren (renOf σ [] ms)).t, (σ.ren (renOf σ [] ms)).m⟩) (n + vb'.length) r2 σb)).go (tblS tbl) R l1 B1 ∧ Bs A' w1 S1 p W ∧ SF (c'.at (tblS tbl) l1) σa p W a1 ∧ a1.defers = [] ∧ a1.tmps.size = z ∧ W.heap[gc]? = some (.cells #[.slice A1 xs.length cap] T (0, 0)) ∧ Free p gc)
                (fun k W ⟨p, db, h1, h2, h3, h4, h5, h6⟩ => hread h4 h5) ?_ ?_ ?_ ?_ ?_ ?_
              · rintro k W o ⟨p, db, h1, h2, h3, h4, h5, h6⟩ -
                exact ⟨p, db, h1, h2, turn_bs h3 hAL hSL o, SF.same (by show Stab c'.A no no p W p _; rw [hcA']; exact turn_stab hAL h3.pa o) h4, (World.putObj_heap_other hgcL).trans h5, h6⟩
              · rintro k a1 W o ⟨p, db, n1, σa, l1, B1, h1, h2, h3, h4, h5, h6, h7, h8, h9, h10, h11⟩ -
                exact ⟨p, db, n1, σa, l1, B1, h1, h2, h3, h4, h5, turn_bs h6 hAL hSL o, SF.same (by show Stab c'.A no no p W p _; rw [hcA']; exact turn_stab hAL h6.pa o) h7, h8, h9, (World.putObj_heap_other hgcL).trans h10, h11⟩
              · intro o
                have hit := its_M hs1 hvb
                have hst : Stab c'.A no no p1 w p1 ((w.alloc (.deferred (some []))).alloc o) := by
                  refine ⟨by simp; omega, fun b hb ha hf => ⟨by rw [hget, if_neg (by simp; omega), hget, if_neg (by omega)], hf⟩, fun y b _ hy => hy, fun y b _ hy => ?_⟩
                  have := hb1.bd y b hy
                  rw [hget, if_neg (by simp; omega), hget, if_neg (by omega)]
                refine ⟨p1, _, evs_len _, ?_, hBs0 o, SF.same hst (hhead (evs_len _) (by omega) hlt hsk hit), heap_old (heap_old hgh), hgF⟩
                rw [evs_app] at hI0
                have e1 : X.evs (evl (tblS tbl) l) [subX (lenX x) (.lit (.i 1))] = [.i ((xs.length : Int) - 1 - (0 : Nat))] := by
                  show [(subX (lenX x) (.lit (.i 1))).ev (evl (tblS tbl) l)] = _
                  rw [subX_ev]
                  show [D.i (((lenX x).ev (evl (tblS tbl) l)).int - 1)] = _
                  rw [lenX_ev]
                  show [D.i (((x.ev (evl (tblS tbl) l)).rs.length : Int) - 1)] = _
                  rw [hxs]
                  simp
                rw [e1] at hI0
                exact hI0
              · rintro k W ⟨p, db, h1, h2, h3, h4, h5, h6⟩ hk1
                have hcond : ((leX (.lit (.i 0)) (.tok (n + vb'.length))).ev (evl (tblS tbl) (l.take n ++ (db ++ [D.i ((xs.length : Int) - 1 - k)])))).tt = true := by
                  rw [leX_ev, hidx (db := db) (i := .i ((xs.length : Int) - 1 - k)) h1 (by rw [List.take_of_length_le (by simp [h1]; omega)])]
                  show decide ((0 : Int) ≤ (xs.length : Int) - 1 - k) = true
                  simp
                  omega
                have hgk := (hgo _ (hlenv h1) h2).1 hcond
                have hli : (l.take n ++ (db ++ [D.i ((xs.length : Int) - 1 - k)])).length = n + (vb'.length + 1) := by simp [h1]; omega
                have htk : (X.tok (n + vb'.length)).ev (c'.at (tblS tbl) (l.take n ++ (db ++ [D.i ((xs.length : Int) - 1 - k)]))).v = .i ((xs.length : Int) - 1 - k) := htok h1
                have hx2 : (x.ev (c'.at (tblS tbl) (l.take n ++ (db ++ [D.i ((xs.length : Int) - 1 - k)]))).v).rs = xs := by
                  refine Eq.trans (congrArg D.rs ?_) hxs
                  refine X.ev_upto (n := n) (e := evl (tblS tbl) (l.take n ++ (db ++ [D.i ((xs.length : Int) - 1 - k)]))) (e' := evl (tblS tbl) l) (fun k hk => ?_) rfl x hux
                  exact getD_take hk _ (by omega)
                have hr0 : SF (c'.at (tblS tbl) (l.take n ++ (db ++ [D.i ((xs.length : Int) - 1 - k)]))) (headS [] ms n (keptS [] ms kill n ⟨snT (σ.ren (renOf σ [] ms)).t, (σ.ren (renOf σ [] ms)).m⟩)) p W { tmps := a.tmps, defers := [] } := ⟨h4.t, h4.m⟩
                have hr1 := hr0.put (t := ti) (x := .v (.tok (n + vb'.length)) (.int .i64) [] []) (v := .int .i64 ((xs.length : Int) - 1 - k)) (by show ti < a.tmps.size; omega) (mk_int htk (by have hxl := Nat.le_trans hxl (LM_le _); unfold LIM at hxl; simp [rngB]; omega))
                have hel := hels (xs.length - 1 - k) (by omega)
                have hr2 := hr1.put (t := tx) (x := .v (.get x (.tok (n + vb'.length))) te' [] []) (v := ev (xs.length - 1 - k)) (by show tx < (a.tmps.setIfInBounds ti _).size; simp; omega) ⟨els (xs.length - 1 - k), hel.1.1, Con.of_rd (by
                  have e1 : (X.get x (.tok (n + vb'.length))).ev (c'.at (tblS tbl) (l.take n ++ (db ++ [D.i ((xs.length : Int) - 1 - k)]))).v = xs[xs.length - 1 - k]'(by omega) := by
                    show (x.ev (c'.at (tblS tbl) (l.take n ++ (db ++ [D.i ((xs.length : Int) - 1 - k)]))).v).get ((X.tok (n + vb'.length)).ev (c'.at (tblS tbl) (l.take n ++ (db ++ [D.i ((xs.length : Int) - 1 - k)]))).v).int = _
                    rw [htk]
                    show (x.ev (c'.at (tblS tbl) (l.take n ++ (db ++ [D.i ((xs.length : Int) - 1 - k)]))).v).rs.getD ((xs.length : Int) - 1 - k).toNat .u = _
                    rw [hx2]
                    have e2 : ((xs.length : Int) - 1 - k).toNat = xs.length - 1 - k := by omega
                    rw [e2]
                    simp [List.getD_eq_getElem?_getD, List.getElem?_eq_getElem (show xs.length - 1 - k < xs.length by omega)]
                  rw [e1]
                  exact hel.2.2 W _)⟩
                have h3' : Bs c'.A W (pinned p) p W := by rw [hcA']; exact h3.anew
                rw [← hclo'] at hgk
                refine toT_ok (some (w.heap.size + 1)) (nn - 1 - 1) (c := c') (w0 := W) (S0 := pinned p) (d := []) (z := z) htb assign hgk hli h3' hr2 rfl (by simp; exact hz) (noPan_q hnp) (noPan_r hnp) fun n1 r1 σa l1 B1 p2 W2 a2 q1 q2 q3 q4 q5 q6 q7 q8 => ?_
                cases r1 with
                | normal =>
                  have q5' : Bs A' W (pinned p) p2 W2 := by rw [← hcA']; exact q5
                  have hfl : ∀ b, ¬ A' b → Free p b := fun b hb x hx => hb (h3.pa x b hx)
                  have hWs : w.heap.size + 2 ≤ W.heap.size := by have := h3.but.size; omega
                  have hgs := q5'.stays (b := gc) (Array.getElem?_eq_some_iff.1 h5).1 h6
                  rw [hclo'] at q4
                  exact ⟨⟨p2, db, n1, σa, l1, B1, h1, q1, q2, (q3 id List.mem_cons_self).trans (by unfold updB; rw [if_pos rfl]), q4, h3.comp q5', q6, q7, q8, hgs.1.trans h5, hgs.2⟩, (q5'.stays (by omega) (hfl _ hAL)).1, (q5'.stays (by omega) (hfl _ hAD)).1⟩
                | ret => exact q4.elim
                | exit i => exact q4.elim
              · rintro k a1 W ⟨p, db, n1, σa, l1, B1, h1, h2, h3, h4, h5, h6, h7, h8, h9, h10, h11⟩ hk1
                rw [← hclo'] at h5
                have h6' : Bs c'.A W (pinned p) p W := by rw [hcA']; exact h6.anew
                refine toT_ok (some (w.heap.size + 1)) (nn - 1 - 1) (c := c') (w0 := W) (S0 := pinned p) (d := []) (z := z) htb body h5 h2 h6' h7 h8 h9 (noPan_q hnp) (noPan_r hnp) fun n2 r2 σb l2 B2 p2 W2 a2 q1 q2 q3 q4 q5 q6 q7 q8 => ?_
                cases r2 with
                | normal =>
                  have q5' : Bs A' W (pinned p) p2 W2 := by rw [← hcA']; exact q5
                  unfold roundE at q4
                  simp only at q4
                  have hf2 := SF.un (c := c'.at (tblS tbl) l2) (q := dropQ kill σb) q5.inj q5.pa q6
                  have hb2 := q5.un (dropQ kill σb)
                  change SF _ (σb.drop kill) _ _ _ at hf2
                  split at q4
                  · rename_i σc va2 vb2 hcv2
                    split at q4
                    · rename_i hcov
                      unfold conv at hcv2
                      split at hcv2
                      · rename_i hrb2
                        split at hcv2
                        · rename_i wa wb hwa hwb
                          simp only [Option.some.injEq, Prod.mk.injEq] at hcv2
                          obtain ⟨rfl, rfl, rfl⟩ := hcv2
                          obtain ⟨p3, hb3, hf3⟩ := ren_ok (c := c'.at (tblS tbl) l2) hrb2 hb2 hf2
                          have hb3' : Bs A' W (pinned p) p3 W2 := by rw [← hcA']; exact hb3
                          have hit := its_M hf3 hwb
                          have hlen1 : n + (vb'.length + 1) ≤ n1 := by
                            have := congrArg List.length h3
                            simp [h1, h2] at this
                            omega
                          have hl2 : l2.take (n + (vb'.length + 1)) = l.take n ++ (db ++ [D.i ((xs.length : Int) - 1 - k)]) := by
                            rw [← h3, ← q2, List.take_take, Nat.min_eq_left hlen1]
                          have hl2n : l2.take n = l := by
                            have h1 : (l2.take (n + (vb'.length + 1))).take n = (l.take n ++ (db ++ [D.i ((xs.length : Int) - 1 - k)])).take n := by rw [hl2]
                            rw [List.take_take, Nat.min_eq_left (by omega)] at h1
                            rw [h1, List.take_append_of_le_length (by simp; omega), List.take_take, Nat.min_self, hlt]
                          have hnl : n ≤ l2.length := by
                            have := congrArg List.length hl2n
                            simp at this
                            omega
                          have hbk : B2 id (X.evs (evl (tblS tbl) l2) (wb ++ [subX (.tok (n + vb'.length)) (.lit (.i 1))])) := q4
                          rw [q3 id List.mem_cons_self, h4, evs_app] at hbk
                          have e1 : X.evs (evl (tblS tbl) l2) [subX (.tok (n + vb'.length)) (.lit (.i 1))] = [.i ((xs.length : Int) - 1 - (k + 1 : Nat))] := by
                            show [(subX (.tok (n + vb'.length)) (.lit (.i 1))).ev (evl (tblS tbl) l2)] = _
                            rw [subX_ev, hidx h1 hl2]
                            show [D.i (((xs.length : Int) - 1 - k) - 1)] = _
                            congr 2
                            omega
                          rw [e1] at hbk
                          have hcvr := covers_ok hcov hf3
                          have hoth := SF.other (a := a) (b := a2) (fun t => by
                            show a.tmps[t]? = some (c'.snap t) ∨ _
                            cases hv : a.tmps[t]? with
                            | none => exact .inr rfl
                            | some v => exact .inl (by rw [hsn t v hv])) (by omega) (fun t y hy => by
                            obtain ⟨u, -, e⟩ := lkA_mapK (f := fun t x => AV.sn t x) (sel_lk hy).1
                            exact ⟨u, e⟩) hcvr
                          have hgs := hb3'.stays (b := gc) (Array.getElem?_eq_some_iff.1 h10).1 h11
                          have hfl : ∀ b, ¬ A' b → Free p b := fun b hb x hx => hb (h6.pa x b hx)
                          have hWs : w.heap.size + 2 ≤ W.heap.size := by have := h6.but.size; omega
                          exact ⟨rfl, ⟨p3, _, by rw [evs_len, its_len hwb, its_len hvb], hbk.1, h6.comp hb3', hhead (by rw [evs_len, its_len hwb, its_len hvb]) hnl hl2n hoth hit, hgs.1.trans h10, hgs.2⟩, (hb3'.stays (by omega) (hfl _ hAL)).1, (hb3'.stays (by omega) (hfl _ hAD)).1⟩
                        · cases hcv2
                      · cases hcv2
                    · exact q4.elim
                  · exact q4.elim
                | ret => exact q4.elim
                | exit i => exact q4.elim
              · rintro W ⟨p, db, h1, h2, h3, h4, h5, h6⟩ hD
                have hcond : ((leX (.lit (.i 0)) (.tok (n + vb'.length))).ev (evl (tblS tbl) (l.take n ++ (db ++ [D.i ((xs.length : Int) - 1 - (xs.length : Nat))])))).tt = false := by
                  rw [leX_ev, hidx (db := db) (i := .i ((xs.length : Int) - 1 - (xs.length : Nat))) h1 (by rw [List.take_of_length_le (by simp [h1]; omega)])]
                  show decide ((0 : Int) ≤ (xs.length : Int) - 1 - (xs.length : Nat)) = false
                  simp
                  omega
                have hgk := (hgo _ (hlenv h1) h2).2 hcond
                have hun := SF.unsnap (σ := headS [] ms n (keptS [] ms kill n ⟨snT (σ.ren (renOf σ [] ms)).t, (σ.ren (renOf σ [] ms)).m⟩)) (c := c'.at (tblS tbl) (l.take n ++ (db ++ [D.i ((xs.length : Int) - 1 - (xs.length : Nat))]))) (c' := c'.at (tblS tbl) (l.take n ++ (db ++ [D.i ((xs.length : Int) - 1 - (xs.length : Nat))]))) (fun b _ ha => ha) rfl rfl hp2 h4
                have hWs : w.heap.size + 2 ≤ W.heap.size := by have := h3.but.size; omega
                refine hk _ _ _ _ p W c' (by simp [h1]; omega) (by rw [List.take_append_of_le_length (by simp; omega), List.take_take, Nat.min_self, hlt]) (fun j hj => by unfold updB; rw [if_neg hj]) hgk ?_ hclo' hcT' (fun b hb' => hAc b (by rwa [hcA'] at hb')) (fun b hb' => by rw [hcA']; exact hAn b (by omega)) (fun x b hx => by rw [hcA']; exact h3.pa x b hx) (fun h => hAD (by rwa [hcA'] at h)) ⟨hun.t, hun.m⟩ hD
                have hws : w0.heap.size ≤ w.heap.size := hb1.but.size
                have hSn : ∀ b, S1 b → S0 b ∨ w0.heap.size ≤ b := fun b hb' => by
                  rw [hS1] at hb'
                  rcases hb' with ⟨x, hx⟩ | e | e
                  · exact hb1.pin x b hx
                  · exact .inr (by omega)
                  · exact .inr (by omega)
                refine ⟨h3.inj, h3.bd, ⟨?_, ?_, ?_, by have := h3.but.size; omega, fun j hj hn => ?_⟩, fun x b hx => ?_, hb.new, fun x b hx => hAc b (h3.pa x b hx), h3.obj⟩
                · exact (h3.but.os.trans (by rw [hw1]; rfl)).trans hb1.but.os
                · exact (h3.but.tape.trans (by rw [hw1]; rfl)).trans hb1.but.tape
                · exact (h3.but.output.trans (by rw [hw1]; rfl)).trans hb1.but.output
                · refine (h3.but.block j (by omega) fun hs => ?_).trans ?_
                  · rcases hSn j hs with h | h
                    · exact hn h
                    · omega
                  · rw [hw1, hget, if_neg (by simp; omega), hget, if_neg (by omega)]
                    exact hb1.but.block j hj hn
                · rcases h3.pin x b hx with h | h
                  · exact hSn b h
                  · exact .inr (by omega)
            · cases hcv
          · cases hcv
        · exact h.elim
      · exact h.elim
    · exact h.elim
  · exact h.2.elim
end
end Go.Proofs.Ytflahdpkkgmpeaa

namespace Go.Proofs.Ytflahdpkkgmpeaa
open Go.RowKit
set_option linter.unusedVariables false
set_option maxRecDepth 100000

def markD (D : Nat) : Deferred := { target := .collected D, args := #[] }
/-- The deferred calls: those from before, behind the marks of ranges that are over. -/
def Dfs (A : Nat → Prop) (lb : Nat) (d : List Deferred) (w : World) (ds : List Deferred) : Prop := ∃ Ds : List Nat, ds = Ds.map markD ++ d ∧ Ds.Nodup ∧ ∀ D ∈ Ds, lb ≤ D ∧ w.heap[D]? = some (.deferred (some [])) ∧ ¬ A D

def toU (P : Program) (tbl : Tbl) (ann : Ann) (lo z : Nat) : Code → Nat → St → (Nat → ResD → St → Tree) → Tree
  | .seq x y, n, σ, k => toU P tbl ann lo z x n σ fun n' r σ' => match r with
    | .normal => toU P tbl ann lo z y n' σ' k
    | .ret => k n' .ret σ'
    | .exit i => k n' (.exit i) σ'
  | .cond c x y, n, σ, k => (match opd σ [] c with
    | some (.v b .bool _ _) => .br b (toU P tbl ann lo z x n σ k) (toU P tbl ann lo z y n σ k)
    | _ => .bad (1000000 + firstId x))
  | .block id c, n, σ, k => toU P tbl ann lo z c n σ fun n' r σ' => match r with
    | .exit i => if Nat.beq i id then k n' .normal σ' else k n' (.exit i) σ'
    | .ret => k n' .ret σ'
    | .normal => k n' .normal σ'
  | .rangeFunc g ps assign body, n, σ, k => (match lkA ann.heads (firstId assign - 1), ps.toList with
    | some h, [ti, tx] => rangeB P tbl ann lo z (firstId assign - 1) (heads h (σ.drop h.kill)).2 h.kill g ti tx assign body n (σ.drop h.kill) fun n' σ' => k n' .normal σ'
    | _, _ => .bad (15000000 + firstId assign))
  | cd, n, σ, k => toT P tbl ann lo z cd [] n σ k

theorem Bs.up {A A' : Nat → Prop} {p p' : Pins} {w w' w0 : World} {S0 : Nat → Prop} (h : Bs A w0 S0 p w) (h' : Bs A' w (pinned p) p' w') (hA : ∀ b, A' b → A b) : Bs A w0 S0 p' w' :=
  h.comp ⟨h'.inj, h'.bd, h'.but, h'.pin, fun b hb => h.new b (Nat.le_trans h.but.size hb), fun x b hx => hA b (h'.pa x b hx), h'.obj⟩

section
variable {lo z : Nat} {tbl : Tbl}

theorem toU_ok {nn : Nat} (hnn : 3 ≤ nn) (htb : TblOk tbl) (hnp : noPan tbl = true) {ann : Ann} {R : List D → Prop} (hen : ∀ e ∈ bwTab, ∀ (args : Array Value) (w : World), (callFunc e.2.1 args).run Try.prog w = .ok (.enter e.2.1 args) w) :
    ∀ (cd : Code) {c : Cx} {n : Nat} {σ : St} {k : Nat → ResD → St → Tree} {l : List D} {B : Nat → List D → Prop} {p : Pins} {w : World} {a : Act} {Q : Exit → Act → World → Prop},
    (toU Try.prog tbl ann lo z cd n σ k).go (tblS tbl) R l B → c.lo = lo → l.length = n → Bs c.A w (pinned p) p w → SF (c.at (tblS tbl) l) σ p w a → a.tmps.size = z →
    (∀ n' r σ' l' B' p' w' a' (c2 : Cx), l'.length = n' → l'.take n = l → (k n' r σ').go (tblS tbl) R l' B' → c2.lo = lo → c2.At = c.At → (∀ b, c2.A b → c.A b) → Bs c.A w (pinned p) p' w' → Bs c2.A w' (pinned p') p' w' → SF (c2.at (tblS tbl) l') σ' p' w' a' → Dfs c2.A w.heap.size a.defers w' a'.defers → a'.tmps.size = z → Q r.exit' a' w') → cd.wpIn (FR none) nn Try.prog Q a w := by
  intro cd
  induction cd with
  | seq x y ihx ihy =>
    intro c n σ k l B p w a Q h hlo hl hb hf hz hk
    simp only [toU] at h
    refine wpIn_seq (ihx h hlo hl hb hf hz fun n' r σ' l' B' p' w' a' c1 hl' hpre hgo hlo1 hT1 hA1 hb' hbn hf' hd' hz' => ?_)
    cases r with
    | normal =>
      refine ihy hgo hlo1 hl' hbn hf' hz' fun n2 r2 σ2 l2 B2 p2 w2 a2 c2 hl2 hpre2 hgo2 hlo2 hT2 hA2 hb2 hbn2 hf2 hd2 hz2 => hk n2 r2 σ2 l2 B2 p2 w2 a2 c2 hl2 ?_ hgo2 hlo2 (hT2.trans hT1) (fun b h => hA1 b (hA2 b h)) (hb'.up hb2 hA1) hbn2 hf2 ?_ hz2
      · have hnn : n ≤ n' := by
          have := congrArg List.length hpre
          simp at this
          omega
        rw [← hpre, ← hpre2, List.take_take, Nat.min_eq_left hnn]
      · obtain ⟨D1, e1, n1, g1⟩ := hd'
        obtain ⟨D2, e2, n2, g2⟩ := hd2
        have hlt : ∀ D ∈ D1, D < w'.heap.size := fun D hD => (Array.getElem?_eq_some_iff.1 (g1 D hD).2.1).1
        refine ⟨D2 ++ D1, by rw [e2, e1]; simp, List.nodup_append.2 ⟨n2, n1, fun x hx y hy e => ?_⟩, fun D hD => ?_⟩
        · have h1 := (g2 x hx).1
          have h2 := hlt y hy
          omega
        · rcases List.mem_append.1 hD with h1 | h1
          · exact ⟨Nat.le_trans hb'.but.size (g2 D h1).1, (g2 D h1).2⟩
          · have hs := hb2.stays (hlt D h1) (fun x hx => (g1 D h1).2.2 (hbn.pa x D hx))
            exact ⟨(g1 D h1).1, hs.1.trans (g1 D h1).2.1, fun h => (g1 D h1).2.2 (hA2 D h)⟩
    | ret => exact hk n' .ret σ' l' B' p' w' a' c1 hl' hpre hgo hlo1 hT1 hA1 hb' hbn hf' hd' hz'
    | exit i => exact hk n' (.exit i) σ' l' B' p' w' a' c1 hl' hpre hgo hlo1 hT1 hA1 hb' hbn hf' hd' hz'
  | cond b x y ihx ihy =>
    intro c n σ k l B p w a Q h hlo hl hb hf hz hk
    simp only [toU] at h
    split at h
    · rename_i q _ _ hc
      obtain ⟨u, e1, e2⟩ := pd_bool (opd_ok hf rfl hc)
      have e1' : (q.ev (evl (tblS tbl) l)) = .b u := e1
      cases u with
      | true => exact wpIn_cond_true e2 (ihx (h.1 (by rw [e1']; rfl)) hlo hl hb hf hz hk)
      | false => exact wpIn_cond_false e2 (ihy (h.2 (by rw [e1']; rfl)) hlo hl hb hf hz hk)
    · exact h.elim
  | block id cd ih =>
    intro c n σ k l B p w a Q h hlo hl hb hf hz hk
    simp only [toU] at h
    refine wpIn_block (ih h hlo hl hb hf hz fun n' r σ' l' B' p' w' a' c1 hl' hpre hgo hlo1 hT1 hA1 hb' hbn hf' hd' hz' => ?_)
    cases r with
    | normal => exact hk n' .normal σ' l' B' p' w' a' c1 hl' hpre hgo hlo1 hT1 hA1 hb' hbn hf' hd' hz'
    | ret => exact hk n' .ret σ' l' B' p' w' a' c1 hl' hpre hgo hlo1 hT1 hA1 hb' hbn hf' hd' hz'
    | exit i =>
      show Exit.inBlock id Q (.exit i) a' w'
      simp only at hgo
      by_cases hi : i = id
      · rw [if_pos (by rw [hi]; exact Nat.beq_refl id)] at hgo
        simp only [Exit.inBlock, if_pos hi]
        exact hk n' .normal σ' l' B' p' w' a' c1 hl' hpre hgo hlo1 hT1 hA1 hb' hbn hf' hd' hz'
      · rw [if_neg (fun e => hi (Nat.eq_of_beq_eq_true e))] at hgo
        simp only [Exit.inBlock, if_neg hi]
        exact hk n' (.exit i) σ' l' B' p' w' a' c1 hl' hpre hgo hlo1 hT1 hA1 hb' hbn hf' hd' hz'
  | rangeFunc g ps assign body iha ihb =>
    intro c n σ k l B p w a Q h hlo hl hb hf hz hk
    simp only [toU] at h
    split at h
    · rename_i hh ti tx hann hps
      have hps' : ps = #[ti, tx] := by
        apply Array.ext'
        exact hps
      subst hps'
      have hb1 := hb.un (dropQ hh.kill σ)
      have hf1 := SF.un (c := c.at (tblS tbl) l) (q := dropQ hh.kill σ) hb.inj hb.pa hf
      rw [← hlo] at h
      refine rangeB_ok (c := c) (σ := σ.drop hh.kill) hnn htb hnp h hl hb1 hf1 hz hen fun n' σ' l' B' p' w' c2 hl' hpre _ hgo hb' hlo2 hT2 hA2 hnew hpa hnD hf' hD => ?_
      exact hk n' .normal σ' l' B' p' w' _ c2 hl' hpre hgo (hlo2.trans hlo) hT2 hA2 hb' ⟨hb'.inj, hb'.bd, But.refl _ _, fun x b hx => .inl ⟨x, hx⟩, hnew, hpa, hb'.obj⟩ hf' ⟨[w.heap.size], rfl, by simp, fun D hD' => by
        obtain rfl : D = w.heap.size := by simpa using hD'
        exact ⟨Nat.le_refl _, hD, hnD⟩⟩ hz
    · exact h.elim
  | _ =>
    intro c n σ k l B p w a Q h hlo hl hb hf hz hk
    subst hlo
    exact toT_ok none nn (c := c) (w0 := w) (S0 := pinned p) (d := a.defers) (z := z) htb _ h hl hb hf rfl hz (noPan_q hnp) (noPan_r hnp) fun n' r σ' l' B' p' w' a' hl' hpre _ hgo hb' hf' hd' hz' => hk n' r σ' l' B' p' w' a' c hl' hpre hgo rfl rfl (fun b h => h) hb' hb'.anew hf' ⟨[], by rw [hd']; rfl, by simp, fun D hD => by cases hD⟩ hz'
end
end Go.Proofs.Ytflahdpkkgmpeaa

namespace Go.Proofs.Ytflahdpkkgmpeaa
open Go.RowKit
set_option linter.unusedVariables false
set_option maxRecDepth 100000

/-- The tree of a function with a range over slices.Backward. -/
def treeU (P : Program) (tbl : Tbl) (ann : Ann) (ct : Ct) (fn : Func) (cd : Code) : Tree :=
  toU P tbl ann ct.ar.length fn.ntmps cd (dataN ct.ars) (begS ct) (endT ct fn.results.toList)

def shut (w : World) (D : Nat) : World := w.putObj D (.deferred none)
def shutAll (w : World) (Ds : List Nat) : World := Ds.foldl shut w

theorem marks_end {F : Fence} {n : Nat} {fn : Func} {tmps : Array Value} {R : Ending → World → Prop} : ∀ (Ds : List Nat) (w : World), Ds.Nodup → (∀ D ∈ Ds, w.heap[D]? = some (.deferred (some []))) → LeavesIn F n Try.prog fn tmps R [] .returning (shutAll w Ds) → LeavesInM F n Try.prog fn tmps R (Ds.map markD) .returning w
  | [], w, _, _, h => h
  | D :: Ds, w, hn, hd, h => by
    obtain ⟨h1, h2⟩ := List.nodup_cons.1 hn
    exact ⟨by simp, .inl ⟨D, _, rfl, run_takeDeferred (hd D List.mem_cons_self), marks_end Ds _ h2 (fun D' hD' => (World.putObj_heap_other (fun e => h1 (by rw [← e]; exact hD'))).trans (hd D' (List.mem_cons_of_mem _ hD'))) h⟩⟩

theorem marks_same {A : Nat → Prop} {p : Pins} (pa : ∀ x b, p x = some b → A b) : ∀ (Ds : List Nat) (w : World), (∀ D ∈ Ds, ¬ A D) → Stab A no no p w p (shutAll w Ds)
  | [], w, _ => Stab.refl _ _ _ _ _
  | D :: Ds, w, h => by
    have h1 := turn_stab (w := w) (h D List.mem_cons_self) pa (.deferred none)
    have h2 := marks_same pa Ds (w.putObj D (.deferred none)) fun D' hD' => h D' (List.mem_cons_of_mem _ hD')
    exact ⟨Nat.le_trans h1.size h2.size, fun b hb ha hf => ⟨(h2.free b (Nat.lt_of_lt_of_le hb h1.size) ha hf).1.trans (h1.free b hb ha hf).1, hf⟩, fun x b _ hx => hx, fun x b _ hx => (h2.con x b rfl hx).trans (h1.con x b rfl hx)⟩

theorem marks_bs {A A' : Nat → Prop} {p : Pins} {w0 : World} {S0 : Nat → Prop} (pa : ∀ x b, p x = some b → A' b) : ∀ (Ds : List Nat) (w : World), Bs A w0 S0 p w → (∀ D ∈ Ds, w0.heap.size ≤ D ∧ ¬ A' D) → Bs A w0 S0 p (shutAll w Ds)
  | [], w, h, _ => h
  | D :: Ds, w, h, hD => by
    obtain ⟨h1, h2⟩ := hD D List.mem_cons_self
    refine marks_bs pa Ds (w.putObj D (.deferred none)) ⟨h.inj, fun x b hx => by simpa using h.bd x b hx, ⟨h.but.os, h.but.tape, h.but.output, by simpa using h.but.size, fun k hk hn => (World.putObj_heap_other (by omega)).trans (h.but.block k hk hn)⟩, h.pin, h.new, h.pa, fun x b hx => (h.obj x b hx).same (World.putObj_heap_other (fun e => h2 (by rw [← e]; exact pa x b hx)))⟩ fun D' hD' => hD D' (List.mem_cons_of_mem _ hD')

theorem ResL.chA {A A' : Nat → Prop} {p : Pins} {w : World} (hA : ∀ b, b < w.heap.size → A b → A' b) : ∀ {rs : List (Ty × Bool)} {k : Nat} {vs : List Value} {ds : List D}, ResL A p w rs k vs ds → ResL A' p w rs k vs ds
  | [], _, _, _, h => h
  | (t, own) :: l, k, vs, ds, ⟨v, r, d, ds', e1, e2, ⟨cs, hp, hc⟩, h⟩ => ⟨v, r, d, ds', e1, e2, ⟨cs, hp, hc.chA hA⟩, ResL.chA hA h⟩
theorem RefL.chA {A A' : Nat → Prop} {p p' : Pins} {w : World} (hA : ∀ b, b < w.heap.size → A b → A' b) : ∀ {all : List (Nat × Ar)} {ds : List D}, RefL A p p' w all ds → RefL A' p p' w all ds
  | [], _, h => h
  | (i, r) :: l, ds, h => by
    cases r with
    | ref t =>
      obtain ⟨d, ds', e, ⟨g, cs, T, h1, h2, h3, hc⟩, h⟩ := h
      exact ⟨d, ds', e, ⟨g, cs, T, h1, h2, h3, hc.chA hA⟩, RefL.chA hA h⟩
    | mref t =>
      obtain ⟨d, ds', e, ⟨g, h1, h2, hc⟩, h⟩ := h
      exact ⟨d, ds', e, ⟨g, h1, h2, hc.chA hA⟩, RefL.chA hA h⟩
    | _ => exact RefL.chA hA (all := l) h

def noMr : Ar → Bool
  | .mref _ => false
  | _ => true
set_option maxHeartbeats 1000000 in
theorem fok_ofU {ct : Ct} {g : List D → Option (List D)} {tbl : Tbl} (ann : Ann) (fn : Func) (cd : Code) (htb : TblOk tbl) (hbw : ∀ e ∈ bwTab, ∀ (args : Array Value) (w : World), (callFunc e.2.1 args).run Try.prog w = .ok (.enter e.2.1 args) w) (hf : Try.prog.funcs[ct.f]? = some fn) (hb : fn.body = some cd)
    (hen : ∀ args w, (callFunc ct.f args).run Try.prog w = .ok (.enter ct.f args) w) (hsz : ct.ar.length ≤ fn.ntmps)
    (h : ∀ ds outs, WfA ct.ars ds → g ds = some outs → (treeU Try.prog tbl ann ct fn cd).go (tblS tbl) (fun o => o = outs) ds fun _ _ => False) (hnp : noPan tbl = true := by rfl) (hmr : (ct.all.all fun e => noMr e.2) = true := by rfl) : FOk ct g := by
  refine ⟨hen, fun A p w vs us ds outs hg hpre hvl hargs => callsIn_wide.1 (callsIn_of_wp_marks (F := FR none) (n := 5) hf hb trivial ?_)⟩
  obtain ⟨hwf, hdl, -⟩ := hargs.wf
  rw [all_map] at hwf hdl
  have hgo := h ds outs hwf hg
  let c : Cx := ⟨evl (tblS tbl) ds, A, ct.ar.length, fun k g => (k < ct.ar.length ∨ VB ≤ k) → p (k * 16) = some g, fun k g hk h2 h => absurd h (by omega), fun q => (vs ++ us).getD q undef⟩
  have hb0 : Bs c.A w (pinned p) p w := ⟨hpre.inj, hpre.bd, But.refl _ _, fun x b hx => .inl ⟨x, hx⟩, hpre.new, hpre.pa, hpre.obj⟩
  have hsf : SF (c.at (tblS tbl) ds) (begS ct) p w { tmps := vs.toArray ++ Array.replicate (fn.ntmps - vs.toArray.size) undef, defers := [] } := by
    refine ⟨fun t x hx => ?_, begM_ok (c := c.at (tblS tbl) ds) (A := A) rfl (fun k => rfl) hargs fun e he => List.mem_iff_getElem?.1 he⟩
    obtain ⟨h1, h2⟩ := begT_ok (c := c.at (tblS tbl) ds) (A := A) (n0 := ct.ar.length) rfl rfl rfl hargs (fun k => rfl) _ _ t x hx
    have hlt : t < vs.length := by omega
    refine ⟨(vs ++ us).getD t undef, ?_, h2⟩
    show (vs.toArray ++ _)[t]? = _
    rw [Array.getElem?_append_left (by simpa using hlt), List.getD_eq_getElem?_getD, List.getElem?_append_left hlt]
    simp [List.getElem?_eq_getElem hlt]
  refine toU_ok (nn := 5) (by omega) htb hnp hbw cd (c := c) hgo rfl hdl hb0 hsf (by simp; omega) fun n' r σ' l' B' p' w' a' c2 hl' hpre' hgo' hlo2 hT2 hA2 hb' hbn hf' hd' hz' => ?_
  obtain ⟨Ds, hds, hnd, hDs⟩ := hd'
  have hds : a'.defers = Ds.map markD := by rw [hds]; simp
  have hst := marks_same hbn.pa Ds w' fun D hD => (hDs D hD).2.2
  have hbF := marks_bs hbn.pa Ds w' hb' fun D hD => ⟨(hDs D hD).1, (hDs D hD).2.2⟩
  have hfF : SF (c2.at (tblS tbl) l') σ' p' (shutAll w' Ds) a' := SF.same hst hf'
  have hbnF : Bs c2.A (shutAll w' Ds) (pinned p') p' (shutAll w' Ds) := ⟨hbF.inj, hbF.bd, But.refl _ _, fun x b hx => .inl ⟨x, hx⟩, fun b hb => hbn.new b (Nat.le_trans hst.size hb), hbn.pa, hbF.obj⟩
  have fin' : ∀ xs, fin ct fn.results.toList σ' = some xs → X.evs (evl (tblS tbl) l') xs = outs → ∃ v, (results fn a'.tmps).run Try.prog (shutAll w' Ds) = .ok v (shutAll w' Ds) ∧ ((∃ T, ct.pn = some T ∧ outs = [.u] ∧ (Ending.returned v) = .panicked (panCh T) ∧ But (pinned p) w (shutAll w' Ds)) ∨ ∃ rs p2, (Ending.returned v) = .returned (retV rs) ∧ Bs A w (pinned p) p2 (shutAll w' Ds) ∧ ResL A p2 (shutAll w' Ds) ct.rs ct.ar.length rs (outs.take ct.rs.length) ∧ RefL A p p2 (shutAll w' Ds) ct.all (outs.drop ct.rs.length)) := by
    intro xs hfin hout
    unfold fin at hfin
    simp only at hfin
    split at hfin
    · rename_i hok
      simp only [Bool.and_eq_true] at hok
      split at hfin
      · rename_i xa xb hxa hxb
        injection hfin with hfin
        subst hfin
        have hb1 := hbnF.un (fun y => !hasN ((resRen σ' (fn.results.toList.zip ct.rs) ct.ar.length ++ refRen σ' ct.all).map (·.1) ++ (refKeys ct.all ++ cellKeys σ' fn.results.toList)) y)
        have hf1 := SF.un (c := c2.at (tblS tbl) l') (q := fun y => !hasN ((resRen σ' (fn.results.toList.zip ct.rs) ct.ar.length ++ refRen σ' ct.all).map (·.1) ++ (refKeys ct.all ++ cellKeys σ' fn.results.toList)) y) hbnF.inj hbnF.pa hfF
        obtain ⟨p2, hb2, hf2⟩ := ren_ok (c := c2.at (tblS tbl) l') hok.1 hb1 hf1
        obtain ⟨l, h1, h2, h3⟩ := resX_ok hf2 (Nat.eq_of_beq_eq_true hok.2) hxa
        have h4 := refX_ok (p0 := p) (n0 := ct.ar.length) hf2 hT2 (fun e he => all_key he) (fun i t hm => (List.all_eq_true.1 hmr _ hm |> fun h => by cases h)) hxb
        have hev : X.evs (evl (tblS tbl) l') xa ++ X.evs (evl (tblS tbl) l') xb = outs := by rw [← evs_app]; exact hout
        have hla : (X.evs (evl (tblS tbl) l') xa).length = ct.rs.length := by rw [evs_len, h3]
        refine ⟨_, results_run h1, .inr ⟨l, p2, rfl, hbF.up hb2 hA2, ResL.chA (A := c2.A) (fun b _ h => hA2 b h) ?_, RefL.chA (A := c2.A) (fun b _ h => hA2 b h) ?_⟩⟩
        · rw [← hev, List.take_append_of_le_length (by omega), ← hla, List.take_length]
          exact h2
        · rw [← hev, ← hla, List.drop_left]
          exact h4
      · cases hfin
    · cases hfin
  have last : ∀ xs, fin ct fn.results.toList σ' = some xs → X.evs (evl (tblS tbl) l') xs = outs → LeavesInM (FR none) 5 Try.prog fn a'.tmps (fun e w' => (∃ T, ct.pn = some T ∧ outs = [.u] ∧ e = .panicked (panCh T) ∧ But (pinned p) w w') ∨ ∃ rs p', e = .returned (retV rs) ∧ Bs A w (pinned p) p' w' ∧ ResL A p' w' ct.rs ct.ar.length rs (outs.take ct.rs.length) ∧ RefL A p p' w' ct.all (outs.drop ct.rs.length)) a'.defers .returning w' := fun xs hx ho => by
    rw [hds]
    exact marks_end Ds w' hnd (fun D hD => (hDs D hD).2.1) (fin' xs hx ho)
  cases r with
  | exit i => exact hgo'.elim
  | normal =>
    simp only [endT] at hgo'
    split at hgo'
    · rename_i xs hx
      exact last xs hx hgo'
    · exact hgo'.elim
  | ret =>
    simp only [endT] at hgo'
    split at hgo'
    · rename_i xs hx
      exact last xs hx hgo'
    · exact hgo'.elim
end Go.Proofs.Ytflahdpkkgmpeaa

namespace Go.Proofs.Ytflahdpkkgmpeaa
open Go.RowKit
set_option linter.unusedVariables false
set_option linter.unusedSimpArgs false

theorem int_i (n : Int) : (D.i n).int = n := rfl
theorem tt_b (x : Bool) : (D.b x).tt = x := by cases x <;> rfl
theorem rs_r (l : List D) : (D.r l).rs = l := rfl
theorem fs_a (l : List D) : (D.a l).fs = l := rfl
theorem str_s (x : ByteArray) : (D.s x).str = x := rfl
theorem ms_mp (l : List D) : (D.mp l).ms = l := rfl
theorem i_inj (m n : Int) : (D.i m = D.i n) = (m = n) := by simp
theorem b_inj (m n : Bool) : (D.b m = D.b n) = (m = n) := by simp
theorem s_inj (m n : ByteArray) : (D.s m = D.s n) = (m = n) := by simp
theorem a_inj (m n : List D) : (D.a m = D.a n) = (m = n) := by simp
theorem r_inj (m n : List D) : (D.r m = D.r n) = (m = n) := by simp

theorem go_need {S : Nat → List D → Option (List D)} {R : List D → Prop} {ns : List X} {t : Tree} {l : List D} {B : Nat → List D → Prop} : (Tree.need ns t).go S R l B = (allSay (evl S l) ns ∧ t.go S R l B) := rfl
theorem go_br {S : Nat → List D → Option (List D)} {R : List D → Prop} {x : X} {t e : Tree} {l : List D} {B : Nat → List D → Prop} : (Tree.br x t e).go S R l B = (((x.ev (evl S l)).tt = true → t.go S R l B) ∧ ((x.ev (evl S l)).tt = false → e.go S R l B)) := rfl
theorem go_leaf {S : Nat → List D → Option (List D)} {R : List D → Prop} {xs : List X} {l : List D} {B : Nat → List D → Prop} : (Tree.leaf xs).go S R l B = R (X.evs (evl S l) xs) := rfl
theorem go_back {S : Nat → List D → Option (List D)} {R : List D → Prop} {id : Nat} {xs : List X} {l : List D} {B : Nat → List D → Prop} : (Tree.back id xs).go S R l B = B id (X.evs (evl S l) xs) := rfl
theorem go_loop {S : Nat → List D → Option (List D)} {R : List D → Prop} {id n : Nat} {init : List X} {body : Tree} {l : List D} {B : Nat → List D → Prop} : (Tree.loop id n init body).go S R l B = ∃ (I : List D → Prop) (μ : List D → Nat), I (X.evs (evl S l) init) ∧
      ∀ st, st.length = init.length → I st → body.go S R (l.take n ++ st) (updB B id fun st' => I st' ∧ μ st' < μ st) := rfl
theorem rng64 {n : Int} : rngB .i64 n = true ↔ -9223372036854775808 ≤ n ∧ n ≤ 9223372036854775807 := by simp [rngB]

section
variable {α : Type} [Inhabited α]
theorem get_map (e : α → D) {l : List α} {i : Nat} (h : i < l.length) : (l.map e).getD i .u = e (l.getD i default) := by
  simp [List.getD_eq_getElem?_getD, h]
theorem get_r (e : α → D) {l : List α} {i : Int} (h0 : 0 ≤ i) (h : i < l.length) : (D.r (l.map e)).get i = e (l.getD i.toNat default) := get_map e (by omega)
theorem get_n (e : α → D) {l : List α} {i : Nat} (h : i < l.length) : (D.r (l.map e)).get (i : Int) = e (l.getD i default) := get_map e (by simpa using h)
omit [Inhabited α] in
theorem map_inj {e : α → D} (he : ∀ a b, e a = e b → a = b) : ∀ {l m : List α}, l.map e = m.map e → l = m
  | [], [], _ => rfl
  | a :: l, b :: m, h => by
    simp only [List.map_cons, List.cons.injEq] at h
    rw [he a b h.1, map_inj he h.2]
  | [], _ :: _, h => by simp at h
  | _ :: _, [], h => by simp at h
omit [Inhabited α] in
theorem of_all {e : α → D} {P : α → Prop} {l : List D} (h : ∀ x ∈ l, ∃ a, x = e a ∧ P a) : ∃ m : List α, l = m.map e ∧ ∀ a ∈ m, P a := by
  induction l with
  | nil => exact ⟨[], rfl, fun a ha => by cases ha⟩
  | cons x l ih =>
    obtain ⟨a, rfl, ha⟩ := h x List.mem_cons_self
    obtain ⟨m, rfl, hm⟩ := ih fun y hy => h y (List.mem_cons_of_mem _ hy)
    refine ⟨a :: m, rfl, fun b hb => ?_⟩
    rcases List.mem_cons.1 hb with rfl | hb
    · exact ha
    · exact hm b hb
theorem getD_mem {l : List α} {i : Nat} (h : i < l.length) : l.getD i default ∈ l := by
  rw [List.getD_eq_getElem?_getD, List.getElem?_eq_getElem h]
  exact List.getElem_mem h
theorem take_snoc {l : List α} {k : Nat} (h : k < l.length) : l.take (k + 1) = l.take k ++ [l.getD k default] := by
  rw [List.take_add_one, List.getElem?_eq_getElem h]
  simp [List.getD_eq_getElem?_getD, h]
end

theorem all_yes {n : Nat} {P : Nat → Bool} (h : ∀ j, j < n → P j = true) : (List.range n).all P = true := by
  rw [List.all_eq_true]
  exact fun j hj => h j (List.mem_range.1 hj)
theorem all_not {n k : Nat} {P : Nat → Bool} (hk : k < n) (h : P k = false) : (List.range n).all P = false := by
  cases ha : (List.range n).all P with
  | false => rfl
  | true => rw [List.all_eq_true.1 ha k (List.mem_range.2 hk)] at h; cases h
theorem all_of {n k : Nat} {P : Nat → Bool} (h : (List.range n).all P = true) (hk : k < n) : P k = true := List.all_eq_true.1 h k (List.mem_range.2 hk)
theorem upto_succ {P : Nat → Prop} {k : Nat} (h : ∀ j, j < k → P j) (hk : P k) : ∀ j, j < k + 1 → P j := fun j hj => by
  rcases Nat.lt_succ_iff_lt_or_eq.1 hj with h1 | h1
  · exact h j h1
  · exact h1 ▸ hk

theorem wfL2 {ds : List D} {t u : Ty} (h : WfL ds [t, u]) : ∃ a b, ds = [a, b] ∧ Wf a t ∧ Wf b u := by
  match ds, h with
  | [], h => cases h
  | [a], h => obtain ⟨t, ts, e, h1, h2⟩ := h; rw [h2] at e; cases e
  | [a, b], h =>
    obtain ⟨t, ts, e, h1, t2, ts2, e2, h2, -⟩ := h
    injection e with e e'
    subst e e'
    injection e2 with e2 e2'
    subst e2
    exact ⟨a, b, rfl, h1, h2⟩
  | a :: b :: c :: l, h => obtain ⟨t, ts, e, h1, t2, ts2, e2, h2, t3, ts3, e3, -⟩ := h; subst e2 e3; cases e
theorem wfL_cons {ds : List D} {t : Ty} {ts : List Ty} (h : WfL ds (t :: ts)) : ∃ a r, ds = a :: r ∧ Wf a t ∧ WfL r ts := by
  match ds, h with
  | [], h => cases h
  | a :: r, h =>
    obtain ⟨t, ts, e, h1, h2⟩ := h
    injection e with e e'
    subst e e'
    exact ⟨a, r, rfl, h1, h2⟩
theorem wfL_nil {ds : List D} (h : WfL ds []) : ds = [] := by
  match ds, h with
  | [], _ => rfl
  | a :: r, h => obtain ⟨t, ts, e, -⟩ := h; cases e
theorem Wf.st_of {d : D} {S : TypeId} {fs : List Ty} (h : Wf d (.st S)) (hf : flds S = some fs) : ∃ ds, d = .a ds ∧ WfL ds fs := by
  obtain ⟨ds, fs', rfl, hf', hl⟩ := h.st
  rw [hf] at hf'
  injection hf' with hf'
  subst hf'
  exact ⟨ds, rfl, hl⟩
theorem Wf.row_of {d : D} {E : TypeId} {te : Ty} (h : Wf d (.row E)) (hE : tyOf E = some te) : ∃ l, d = .r l ∧ l.length ≤ LM te ∧ ∀ x ∈ l, Wf x te := by
  obtain ⟨l, te', rfl, hE', h1, h2⟩ := h.row
  rw [hE] at hE'
  injection hE' with hE'
  subst hE'
  exact ⟨l, rfl, h1, h2⟩
end Go.Proofs.Ytflahdpkkgmpeaa

namespace Go.Proofs.Ytflahdpkkgmpeaa
open Go.RowKit
set_option linter.unusedVariables false
set_option maxRecDepth 100000

abbrev T_Terms : Ty := .row 24
abbrev T_Term : Ty := .st 23
abbrev T_Clause : Ty := .st 34
abbrev T_Errno : Ty := .int .i64
def ct_term_Size_1 : Ct := ⟨71, [.val (.st 23), .ref (.int .i64), .cell 75 3], [], [(.cell 2, .fn 71 [1, 2])], none⟩
theorem enter_term_Size_1 (args : Array Value) (w : World) : (callFunc ct_term_Size_1.f args).run Try.prog w = .ok (.enter ct_term_Size_1.f args) w := by kernel_rfl
def ann_term_Size_1 : Ann := ⟨[0, 1, 2, 3, 4, 15], [(3, ⟨[(4, .int .i64, false)], [1], [7, 8, 9, 10, 11, 12, 13, 14, 15, 18, 19, 20, 21, 22, 23, 24, 16, 17], []⟩)]⟩
def tree_term_Size_1 : Tree := (.need [(.rng .i64 (.sub (.tok 1) (.lit (.i 1))))] (.loop 3 2 [(.lit (.i 0)), (.sub (.tok 1) (.lit (.i 1)))] (.br (.and (.lt (.tok 2) (.len (.fld (.tok 0) 3))) (.lt (.lit (.i 0)) (.tok 3))) (.need [(.ok 0 [(.get (.fld (.tok 0) 3) (.tok 2)), (.tok 3)]), (.le (.lit (.i 0)) (.tok 2)), (.lt (.tok 2) (.len (.fld (.tok 0) 3)))] (.need [(.rng .i64 (.add (.tok 2) (.lit (.i 1))))] (.back 3 [(.add (.tok 2) (.lit (.i 1))), (.call 0 0 [(.get (.fld (.tok 0) 3) (.tok 2)), (.tok 3)])]))) (.leaf [(.tok 3)]))))
set_option maxRecDepth 100000 in
theorem code_term_Size_1 (g0 : List D → Option (List D)) : ∀ cd, Try.f71.body = some cd → treeOf Try.prog [(ct_term_Size_1, g0)] ann_term_Size_1 ct_term_Size_1 Try.f71 cd = tree_term_Size_1 := by
  intro cd h
  injection h with h
  subst h
  kernel_rfl
theorem fok_term_Size_1 {g0 : List D → Option (List D)} {g : List D → Option (List D)} (h0 : FOk ct_term_Size_1 g0) (h : ∀ ds outs, WfA ct_term_Size_1.ars ds → g ds = some outs → tree_term_Size_1.go (tblS [(ct_term_Size_1, g0)]) (fun o => o = outs) ds fun _ _ => False) : FOk ct_term_Size_1 g :=
  fok_of ann_term_Size_1 Try.f71 _ (.cons h0 .nil) rfl rfl enter_term_Size_1 (by decide) fun ds outs hw hg => by rw [code_term_Size_1 g0 _ rfl]; exact h ds outs hw hg

def ct_term_Size : Ct := ⟨34, [.val (.st 23)], [(.int .i64, false)], [], none⟩
theorem enter_term_Size (args : Array Value) (w : World) : (callFunc ct_term_Size.f args).run Try.prog w = .ok (.enter ct_term_Size.f args) w := by kernel_rfl
def ann_term_Size : Ann := ⟨[0, 1, 2, 3, 4], []⟩
def tree_term_Size : Tree := (.need [(.ok 0 [(.tok 0), (.lit (.i 2001))])] (.need [(.rng .i64 (.sub (.lit (.i 2001)) (.call 0 0 [(.tok 0), (.lit (.i 2001))])))] (.leaf [(.sub (.lit (.i 2001)) (.call 0 0 [(.tok 0), (.lit (.i 2001))]))])))
set_option maxRecDepth 100000 in
theorem code_term_Size (g0 : List D → Option (List D)) : ∀ cd, Try.f34.body = some cd → treeOf Try.prog [(ct_term_Size_1, g0)] ann_term_Size ct_term_Size Try.f34 cd = tree_term_Size := by
  intro cd h
  injection h with h
  subst h
  kernel_rfl
theorem fok_term_Size {g0 : List D → Option (List D)} {g : List D → Option (List D)} (h0 : FOk ct_term_Size_1 g0) (h : ∀ ds outs, WfA ct_term_Size.ars ds → g ds = some outs → tree_term_Size.go (tblS [(ct_term_Size_1, g0)]) (fun o => o = outs) ds fun _ _ => False) : FOk ct_term_Size g :=
  fok_of ann_term_Size Try.f34 _ (.cons h0 .nil) rfl rfl enter_term_Size (by decide) fun ds outs hw hg => by rw [code_term_Size g0 _ rfl]; exact h ds outs hw hg

def ct_term_fits : Ct := ⟨68, [.val (.st 23)], [(.bool, false)], [], none⟩
theorem enter_term_fits (args : Array Value) (w : World) : (callFunc ct_term_fits.f args).run Try.prog w = .ok (.enter ct_term_fits.f args) w := by kernel_rfl
def ann_term_fits : Ann := ⟨[0, 1, 2, 3, 4, 6, 7, 28, 39, 56, 86], [(12, ⟨[(3, .bool, false), (4, .int .i64, false)], [], [79, 80, 81, 82, 83, 84, 85, 86, 89, 90, 91, 92, 93, 94, 87, 88], []⟩)]⟩
def tree_term_fits : Tree := (.br (.eq (.fld (.tok 0) 0) (.lit (.i 0))) (.loop 12 1 [(.and (.and (.and (.le (.lit (.i 0)) (.fld (.tok 0) 1)) (.le (.fld (.tok 0) 1) (.lit (.i 1099511627776)))) (.eq (.fld (.tok 0) 2) (.lit (.s ⟨#[]⟩)))) (.eq (.len (.fld (.tok 0) 3)) (.lit (.i 0)))), (.lit (.i 0))] (.br (.and (.lt (.tok 2) (.len (.fld (.tok 0) 3))) (.tok 1)) (.need [(.le (.lit (.i 0)) (.tok 2)), (.lt (.tok 2) (.len (.fld (.tok 0) 3))), (.ok 0 [(.get (.fld (.tok 0) 3) (.tok 2))])] (.need [(.rng .i64 (.add (.tok 2) (.lit (.i 1))))] (.back 12 [(.call 0 0 [(.get (.fld (.tok 0) 3) (.tok 2))]), (.add (.tok 2) (.lit (.i 1)))]))) (.leaf [(.tok 1)]))) (.br (.eq (.fld (.tok 0) 0) (.lit (.i 1))) (.loop 12 1 [(.and (.eq (.fld (.tok 0) 2) (.lit (.s ⟨#[]⟩))) (.eq (.len (.fld (.tok 0) 3)) (.lit (.i 0)))), (.lit (.i 0))] (.br (.and (.lt (.tok 2) (.len (.fld (.tok 0) 3))) (.tok 1)) (.need [(.le (.lit (.i 0)) (.tok 2)), (.lt (.tok 2) (.len (.fld (.tok 0) 3))), (.ok 0 [(.get (.fld (.tok 0) 3) (.tok 2))])] (.need [(.rng .i64 (.add (.tok 2) (.lit (.i 1))))] (.back 12 [(.call 0 0 [(.get (.fld (.tok 0) 3) (.tok 2))]), (.add (.tok 2) (.lit (.i 1)))]))) (.leaf [(.tok 1)]))) (.br (.eq (.fld (.tok 0) 0) (.lit (.i 2))) (.loop 12 1 [(.and (.and (.eq (.fld (.tok 0) 1) (.lit (.i 0))) (.le (.slen (.fld (.tok 0) 2)) (.lit (.i 100)))) (.eq (.len (.fld (.tok 0) 3)) (.lit (.i 0)))), (.lit (.i 0))] (.br (.and (.lt (.tok 2) (.len (.fld (.tok 0) 3))) (.tok 1)) (.need [(.le (.lit (.i 0)) (.tok 2)), (.lt (.tok 2) (.len (.fld (.tok 0) 3))), (.ok 0 [(.get (.fld (.tok 0) 3) (.tok 2))])] (.need [(.rng .i64 (.add (.tok 2) (.lit (.i 1))))] (.back 12 [(.call 0 0 [(.get (.fld (.tok 0) 3) (.tok 2))]), (.add (.tok 2) (.lit (.i 1)))]))) (.leaf [(.tok 1)]))) (.br (.eq (.fld (.tok 0) 0) (.lit (.i 3))) (.loop 12 1 [(.and (.and (.and (.eq (.fld (.tok 0) 1) (.lit (.i 0))) (.le (.slen (.fld (.tok 0) 2)) (.lit (.i 100)))) (.lt (.lit (.i 0)) (.len (.fld (.tok 0) 3)))) (.le (.len (.fld (.tok 0) 3)) (.lit (.i 8)))), (.lit (.i 0))] (.br (.and (.lt (.tok 2) (.len (.fld (.tok 0) 3))) (.tok 1)) (.need [(.le (.lit (.i 0)) (.tok 2)), (.lt (.tok 2) (.len (.fld (.tok 0) 3))), (.ok 0 [(.get (.fld (.tok 0) 3) (.tok 2))])] (.need [(.rng .i64 (.add (.tok 2) (.lit (.i 1))))] (.back 12 [(.call 0 0 [(.get (.fld (.tok 0) 3) (.tok 2))]), (.add (.tok 2) (.lit (.i 1)))]))) (.leaf [(.tok 1)]))) (.loop 12 1 [(.lit (.b .false)), (.lit (.i 0))] (.br (.and (.lt (.tok 2) (.len (.fld (.tok 0) 3))) (.tok 1)) (.need [(.le (.lit (.i 0)) (.tok 2)), (.lt (.tok 2) (.len (.fld (.tok 0) 3))), (.ok 0 [(.get (.fld (.tok 0) 3) (.tok 2))])] (.need [(.rng .i64 (.add (.tok 2) (.lit (.i 1))))] (.back 12 [(.call 0 0 [(.get (.fld (.tok 0) 3) (.tok 2))]), (.add (.tok 2) (.lit (.i 1)))]))) (.leaf [(.tok 1)])))))))
set_option maxRecDepth 100000 in
theorem code_term_fits (g0 : List D → Option (List D)) : ∀ cd, Try.f68.body = some cd → treeOf Try.prog [(ct_term_fits, g0)] ann_term_fits ct_term_fits Try.f68 cd = tree_term_fits := by
  intro cd h
  injection h with h
  subst h
  kernel_rfl
theorem fok_term_fits {g0 : List D → Option (List D)} {g : List D → Option (List D)} (h0 : FOk ct_term_fits g0) (h : ∀ ds outs, WfA ct_term_fits.ars ds → g ds = some outs → tree_term_fits.go (tblS [(ct_term_fits, g0)]) (fun o => o = outs) ds fun _ _ => False) : FOk ct_term_fits g :=
  fok_of ann_term_fits Try.f68 _ (.cons h0 .nil) rfl rfl enter_term_fits (by decide) fun ds outs hw hg => by rw [code_term_fits g0 _ rfl]; exact h ds outs hw hg

def ct_term_Valid : Ct := ⟨32, [.val (.st 23)], [(.bool, false)], [], none⟩
theorem enter_term_Valid (args : Array Value) (w : World) : (callFunc ct_term_Valid.f args).run Try.prog w = .ok (.enter ct_term_Valid.f args) w := by kernel_rfl
def ann_term_Valid : Ann := ⟨[0, 1, 2], []⟩
def tree_term_Valid : Tree := (.need [(.ok 0 [(.tok 0)]), (.imp (.le (.call 0 0 [(.tok 0)]) (.lit (.i 2000))) (.ok 1 [(.tok 0)]))] (.leaf [(.and (.le (.call 0 0 [(.tok 0)]) (.lit (.i 2000))) (.call 1 0 [(.tok 0)]))]))
set_option maxRecDepth 100000 in
theorem code_term_Valid (g0 g1 : List D → Option (List D)) : ∀ cd, Try.f32.body = some cd → treeOf Try.prog [(ct_term_Size, g0), (ct_term_fits, g1)] ann_term_Valid ct_term_Valid Try.f32 cd = tree_term_Valid := by
  intro cd h
  injection h with h
  subst h
  kernel_rfl
theorem fok_term_Valid {g0 g1 : List D → Option (List D)} {g : List D → Option (List D)} (h0 : FOk ct_term_Size g0) (h1 : FOk ct_term_fits g1) (h : ∀ ds outs, WfA ct_term_Valid.ars ds → g ds = some outs → tree_term_Valid.go (tblS [(ct_term_Size, g0), (ct_term_fits, g1)]) (fun o => o = outs) ds fun _ _ => False) : FOk ct_term_Valid g :=
  fok_of ann_term_Valid Try.f32 _ (.cons h0 (.cons h1 .nil)) rfl rfl enter_term_Valid (by decide) fun ds outs hw hg => by rw [code_term_Valid g0 g1 _ rfl]; exact h ds outs hw hg

def ct_body_branch : Ct := ⟨79, [.val (.st 23)], [(.bool, false)], [], none⟩
theorem enter_body_branch (args : Array Value) (w : World) : (callFunc ct_body_branch.f args).run Try.prog w = .ok (.enter ct_body_branch.f args) w := by kernel_rfl
def ann_body_branch : Ann := ⟨[0, 1, 2], []⟩
def tree_body_branch : Tree := (.leaf [(.and (.and (.eq (.fld (.tok 0) 0) (.lit (.i 3))) (.eq (.len (.fld (.tok 0) 3)) (.lit (.i 2)))) (.or (.or (.eq (.fld (.tok 0) 2) (.lit (.s ⟨#[44]⟩))) (.eq (.fld (.tok 0) 2) (.lit (.s ⟨#[59]⟩)))) (.eq (.fld (.tok 0) 2) (.lit (.s ⟨#[45, 62]⟩)))))])
set_option maxRecDepth 100000 in
theorem code_body_branch : ∀ cd, Try.f79.body = some cd → treeOf Try.prog [] ann_body_branch ct_body_branch Try.f79 cd = tree_body_branch := by
  intro cd h
  injection h with h
  subst h
  kernel_rfl
theorem fok_body_branch {g : List D → Option (List D)}  (h : ∀ ds outs, WfA ct_body_branch.ars ds → g ds = some outs → tree_body_branch.go (tblS []) (fun o => o = outs) ds fun _ _ => False) : FOk ct_body_branch g :=
  fok_of ann_body_branch Try.f79 _ .nil rfl rfl enter_body_branch (by decide) fun ds outs hw hg => by rw [code_body_branch  _ rfl]; exact h ds outs hw hg

def ct_body_callable : Ct := ⟨50, [.val (.st 23)], [(.bool, false)], [], none⟩
theorem enter_body_callable (args : Array Value) (w : World) : (callFunc ct_body_callable.f args).run Try.prog w = .ok (.enter ct_body_callable.f args) w := by kernel_rfl
def ann_body_callable : Ann := ⟨[0, 1, 2], []⟩
def tree_body_callable : Tree := (.leaf [(.or (.eq (.fld (.tok 0) 0) (.lit (.i 2))) (.eq (.fld (.tok 0) 0) (.lit (.i 3))))])
set_option maxRecDepth 100000 in
theorem code_body_callable : ∀ cd, Try.f50.body = some cd → treeOf Try.prog [] ann_body_callable ct_body_callable Try.f50 cd = tree_body_callable := by
  intro cd h
  injection h with h
  subst h
  kernel_rfl
theorem fok_body_callable {g : List D → Option (List D)}  (h : ∀ ds outs, WfA ct_body_callable.ars ds → g ds = some outs → tree_body_callable.go (tblS []) (fun o => o = outs) ds fun _ _ => False) : FOk ct_body_callable g :=
  fok_of ann_body_callable Try.f50 _ .nil rfl rfl enter_body_callable (by decide) fun ds outs hw hg => by rw [code_body_callable  _ rfl]; exact h ds outs hw hg

def ct_term_Clone_1 : Ct := ⟨85, [.val (.st 23)], [(.st 23, false)], [], none⟩
theorem enter_term_Clone_1 (args : Array Value) (w : World) : (callFunc ct_term_Clone_1.f args).run Try.prog w = .ok (.enter ct_term_Clone_1.f args) w := by kernel_rfl
def ann_term_Clone_1 : Ann := ⟨[0, 1, 2], []⟩
def tree_term_Clone_1 : Tree := (.leaf [(.tok 0)])
set_option maxRecDepth 100000 in
theorem code_term_Clone_1 : ∀ cd, Try.f85.body = some cd → treeOf Try.prog [] ann_term_Clone_1 ct_term_Clone_1 Try.f85 cd = tree_term_Clone_1 := by
  intro cd h
  injection h with h
  subst h
  kernel_rfl
theorem fok_term_Clone_1 {g : List D → Option (List D)}  (h : ∀ ds outs, WfA ct_term_Clone_1.ars ds → g ds = some outs → tree_term_Clone_1.go (tblS []) (fun o => o = outs) ds fun _ _ => False) : FOk ct_term_Clone_1 g :=
  fok_of ann_term_Clone_1 Try.f85 _ .nil rfl rfl enter_term_Clone_1 (by decide) fun ds outs hw hg => by rw [code_term_Clone_1  _ rfl]; exact h ds outs hw hg

def ct_term_apply : Ct := ⟨84, [.val (.st 23), .fn 85 []], [(.st 23, false)], [], none⟩
theorem enter_term_apply (args : Array Value) (w : World) : (callFunc ct_term_apply.f args).run Try.prog w = .ok (.enter ct_term_apply.f args) w := by kernel_rfl
def ann_term_apply : Ann := ⟨[0, 1, 2, 4, 5, 7, 10, 22, 23, 24, 25], [(5, ⟨[(24, .int .i64, false)], [5], [25, 26, 27, 7, 28, 29, 30, 31, 32, 33, 34, 35, 36], []⟩)]⟩
def tree_term_apply : Tree := (.br (.eq (.fld (.tok 0) 0) (.lit (.i 0))) (.need [(.ok 0 [(.tok 0)])] (.leaf [(.call 0 0 [(.tok 0)])])) (.loop 5 1 [(.lit (.i 0)), (.set (.set (.set (.lit (.a [(.i 0), (.i 0), (.s ⟨#[]⟩), (.r [])])) 0 (.fld (.tok 0) 0)) 1 (.fld (.tok 0) 1)) 2 (.fld (.tok 0) 2))] (.br (.lt (.tok 1) (.len (.fld (.tok 0) 3))) (.need [(.le (.lit (.i 0)) (.tok 1)), (.lt (.tok 1) (.len (.fld (.tok 0) 3)))] (.need [(.ok 1 [(.get (.fld (.tok 0) 3) (.tok 1))]), (.le (.add (.len (.fld (.tok 2) 3)) (.lit (.i 1))) (.lit (.i 2513169434843)))] (.need [(.rng .i64 (.add (.tok 1) (.lit (.i 1))))] (.back 5 [(.add (.tok 1) (.lit (.i 1))), (.set (.tok 2) 3 (.app (.fld (.tok 2) 3) (.row [(.call 1 0 [(.get (.fld (.tok 0) 3) (.tok 1))])])))])))) (.leaf [(.tok 2)]))))
set_option maxRecDepth 100000 in
theorem code_term_apply (g0 g1 : List D → Option (List D)) : ∀ cd, Try.f84.body = some cd → treeOf Try.prog [(ct_term_Clone_1, g0), (ct_term_apply, g1)] ann_term_apply ct_term_apply Try.f84 cd = tree_term_apply := by
  intro cd h
  injection h with h
  subst h
  kernel_rfl
theorem fok_term_apply {g0 g1 : List D → Option (List D)} {g : List D → Option (List D)} (h0 : FOk ct_term_Clone_1 g0) (h1 : FOk ct_term_apply g1) (h : ∀ ds outs, WfA ct_term_apply.ars ds → g ds = some outs → tree_term_apply.go (tblS [(ct_term_Clone_1, g0), (ct_term_apply, g1)]) (fun o => o = outs) ds fun _ _ => False) : FOk ct_term_apply g :=
  fok_of ann_term_apply Try.f84 _ (.cons h0 (.cons h1 .nil)) rfl rfl enter_term_apply (by decide) fun ds outs hw hg => by rw [code_term_apply g0 g1 _ rfl]; exact h ds outs hw hg

def ct_term_Clone : Ct := ⟨58, [.val (.st 23)], [(.st 23, false)], [], none⟩
theorem enter_term_Clone (args : Array Value) (w : World) : (callFunc ct_term_Clone.f args).run Try.prog w = .ok (.enter ct_term_Clone.f args) w := by kernel_rfl
def ann_term_Clone : Ann := ⟨[0, 1, 2, 5], []⟩
def tree_term_Clone : Tree := (.need [(.ok 0 [(.tok 0)])] (.br (.not (.call 0 0 [(.tok 0)])) (.leaf [(.lit (.a [(.i 0), (.i 0), (.s ⟨#[]⟩), (.r [])]))]) (.need [(.ok 1 [(.tok 0)])] (.leaf [(.call 1 0 [(.tok 0)])]))))
set_option maxRecDepth 100000 in
theorem code_term_Clone (g0 g1 : List D → Option (List D)) : ∀ cd, Try.f58.body = some cd → treeOf Try.prog [(ct_term_Valid, g0), (ct_term_apply, g1)] ann_term_Clone ct_term_Clone Try.f58 cd = tree_term_Clone := by
  intro cd h
  injection h with h
  subst h
  kernel_rfl
theorem fok_term_Clone {g0 g1 : List D → Option (List D)} {g : List D → Option (List D)} (h0 : FOk ct_term_Valid g0) (h1 : FOk ct_term_apply g1) (h : ∀ ds outs, WfA ct_term_Clone.ars ds → g ds = some outs → tree_term_Clone.go (tblS [(ct_term_Valid, g0), (ct_term_apply, g1)]) (fun o => o = outs) ds fun _ _ => False) : FOk ct_term_Clone g :=
  fok_of ann_term_Clone Try.f58 _ (.cons h0 (.cons h1 .nil)) rfl rfl enter_term_Clone (by decide) fun ds outs hw hg => by rw [code_term_Clone g0 g1 _ rfl]; exact h ds outs hw hg

def ct_body_build : Ct := ⟨70, [.val (.st 23)], [(.st 23, false)], [], some 73⟩
theorem enter_body_build (args : Array Value) (w : World) : (callFunc ct_body_build.f args).run Try.prog w = .ok (.enter ct_body_build.f args) w := by kernel_rfl
def ann_body_build : Ann := ⟨[0, 1, 2, 3, 10, 27], []⟩
def tree_body_build : Tree := (.br (.eq (.fld (.tok 0) 0) (.lit (.i 0))) (.leaf [(.set (.set (.set (.lit (.a [(.i 0), (.i 0), (.s ⟨#[]⟩), (.r [])])) 0 (.lit (.i 3))) 2 (.lit (.s ⟨#[99, 97, 108, 108]⟩))) 3 (.row [(.tok 0)]))]) (.need [(.ok 0 [(.tok 0)])] (.br (.call 0 0 [(.tok 0)]) (.need [(.ok 1 [(.get (.fld (.tok 0) 3) (.lit (.i 1)))]), (.ok 1 [(.get (.fld (.tok 0) 3) (.lit (.i 0)))]), (.lit (.b .true)), (.lt (.lit (.i 1)) (.len (.fld (.tok 0) 3))), (.lit (.b .true)), (.lt (.lit (.i 0)) (.len (.fld (.tok 0) 3)))] (.leaf [(.set (.set (.set (.lit (.a [(.i 0), (.i 0), (.s ⟨#[]⟩), (.r [])])) 0 (.lit (.i 3))) 2 (.fld (.tok 0) 2)) 3 (.row [(.call 1 0 [(.get (.fld (.tok 0) 3) (.lit (.i 0)))]), (.call 1 0 [(.get (.fld (.tok 0) 3) (.lit (.i 1)))])]))])) (.need [(.ok 2 [(.tok 0)])] (.br (.call 2 0 [(.tok 0)]) (.need [(.ok 3 [(.tok 0)])] (.leaf [(.call 3 0 [(.tok 0)])])) (.leaf [(.lit .u)]))))))
set_option maxRecDepth 100000 in
theorem code_body_build (g0 g1 g2 g3 : List D → Option (List D)) : ∀ cd, Try.f70.body = some cd → treeOf Try.prog [(ct_body_branch, g0), (ct_body_build, g1), (ct_body_callable, g2), (ct_term_Clone, g3)] ann_body_build ct_body_build Try.f70 cd = tree_body_build := by
  intro cd h
  injection h with h
  subst h
  kernel_rfl

def ct_body_Goal : Ct := ⟨10, [.val (.st 23)], [(.st 23, false), (.bool, false)], [], none⟩
theorem enter_body_Goal (args : Array Value) (w : World) : (callFunc ct_body_Goal.f args).run Try.prog w = .ok (.enter ct_body_Goal.f args) w := by kernel_rfl
def ct_body_convert : Ct := ⟨33, [.val (.st 23)], [(.st 23, false), (.bool, false)], [], none⟩
theorem enter_body_convert (args : Array Value) (w : World) : (callFunc ct_body_convert.f args).run Try.prog w = .ok (.enter ct_body_convert.f args) w := by kernel_rfl
def ann_body_Goal : Ann := ⟨[0, 1, 2, 3, 6, 19], []⟩
def tree_body_Goal : Tree := (.need [(.ok 0 [(.tok 0)])] (.br (.not (.call 0 0 [(.tok 0)])) (.leaf [(.lit (.a [(.i 0), (.i 0), (.s ⟨#[]⟩), (.r [])])), (.lit (.b .false))]) (.need [(.ok 1 [(.tok 0)])] (.need [(.imp (.not (.not (.call 1 1 [(.tok 0)]))) (.ok 2 [(.call 1 0 [(.tok 0)])]))] (.br (.or (.not (.call 1 1 [(.tok 0)])) (.lt (.lit (.i 2000)) (.call 2 0 [(.call 1 0 [(.tok 0)])]))) (.leaf [(.lit (.a [(.i 0), (.i 0), (.s ⟨#[]⟩), (.r [])])), (.lit (.b .false))]) (.leaf [(.call 1 0 [(.tok 0)]), (.lit (.b .true))]))))))
set_option maxRecDepth 100000 in
theorem code_body_Goal (g0 g1 g2 : List D → Option (List D)) : ∀ cd, Try.f10.body = some cd → treeOf Try.prog [(ct_term_Valid, g0), (ct_body_convert, g1), (ct_term_Size, g2)] ann_body_Goal ct_body_Goal Try.f10 cd = tree_body_Goal := by
  intro cd h
  injection h with h
  subst h
  kernel_rfl
theorem fok_body_Goal {g0 g1 g2 : List D → Option (List D)} {g : List D → Option (List D)} (h0 : FOk ct_term_Valid g0) (h1 : FOk ct_body_convert g1) (h2 : FOk ct_term_Size g2) (h : ∀ ds outs, WfA ct_body_Goal.ars ds → g ds = some outs → tree_body_Goal.go (tblS [(ct_term_Valid, g0), (ct_body_convert, g1), (ct_term_Size, g2)]) (fun o => o = outs) ds fun _ _ => False) : FOk ct_body_Goal g :=
  fok_of ann_body_Goal Try.f10 _ (.cons h0 (.cons h1 (.cons h2 .nil))) rfl rfl enter_body_Goal (by decide) fun ds outs hw hg => by rw [code_body_Goal g0 g1 g2 _ rfl]; exact h ds outs hw hg

def ct_ref03_Count : Ct := ⟨67, [.val (.st 23), .val (.int .i64)], [(.int .i64, false)], [], none⟩
theorem enter_ref03_Count (args : Array Value) (w : World) : (callFunc ct_ref03_Count.f args).run Try.prog w = .ok (.enter ct_ref03_Count.f args) w := by kernel_rfl
def ann_ref03_Count : Ann := ⟨[0, 1, 2, 4, 5, 6, 16], [(3, ⟨[(5, .int .i64, false), (6, .int .i64, false)], [], [7, 8, 9, 10, 11, 12, 13, 14, 15, 16, 19, 20, 21, 22, 23, 24, 25, 26, 27, 28, 29, 17, 18], []⟩)]⟩
def tree_ref03_Count : Tree := (.loop 3 2 [(.lit (.i 1)), (.lit (.i 0))] (.br (.and (.lt (.tok 3) (.len (.fld (.tok 0) 3))) (.lt (.tok 2) (.tok 1))) (.need [(.le (.lit (.i 0)) (.tok 3)), (.lt (.tok 3) (.len (.fld (.tok 0) 3))), (.rng .i64 (.sub (.tok 1) (.tok 2))), (.ok 0 [(.get (.fld (.tok 0) 3) (.tok 3)), (.sub (.tok 1) (.tok 2))]), (.rng .i64 (.add (.tok 2) (.call 0 0 [(.get (.fld (.tok 0) 3) (.tok 3)), (.sub (.tok 1) (.tok 2))])))] (.need [(.rng .i64 (.add (.tok 3) (.lit (.i 1))))] (.back 3 [(.add (.tok 2) (.call 0 0 [(.get (.fld (.tok 0) 3) (.tok 3)), (.sub (.tok 1) (.tok 2))])), (.add (.tok 3) (.lit (.i 1)))]))) (.leaf [(.tok 2)])))
set_option maxRecDepth 100000 in
theorem code_ref03_Count (g0 : List D → Option (List D)) : ∀ cd, Try.f67.body = some cd → treeOf Try.prog [(ct_ref03_Count, g0)] ann_ref03_Count ct_ref03_Count Try.f67 cd = tree_ref03_Count := by
  intro cd h
  injection h with h
  subst h
  kernel_rfl
theorem fok_ref03_Count {g0 : List D → Option (List D)} {g : List D → Option (List D)} (h0 : FOk ct_ref03_Count g0) (h : ∀ ds outs, WfA ct_ref03_Count.ars ds → g ds = some outs → tree_ref03_Count.go (tblS [(ct_ref03_Count, g0)]) (fun o => o = outs) ds fun _ _ => False) : FOk ct_ref03_Count g :=
  fok_of ann_ref03_Count Try.f67 _ (.cons h0 .nil) rfl rfl enter_ref03_Count (by decide) fun ds outs hw hg => by rw [code_ref03_Count g0 _ rfl]; exact h ds outs hw hg

def ct_ref03_Size : Ct := ⟨31, [.val (.st 23)], [(.int .i64, false)], [], none⟩
theorem enter_ref03_Size (args : Array Value) (w : World) : (callFunc ct_ref03_Size.f args).run Try.prog w = .ok (.enter ct_ref03_Size.f args) w := by kernel_rfl
def ann_ref03_Size : Ann := ⟨[0, 1, 2], []⟩
def tree_ref03_Size : Tree := (.need [(.ok 0 [(.tok 0), (.lit (.i 2001))])] (.leaf [(.call 0 0 [(.tok 0), (.lit (.i 2001))])]))
set_option maxRecDepth 100000 in
theorem code_ref03_Size (g0 : List D → Option (List D)) : ∀ cd, Try.f31.body = some cd → treeOf Try.prog [(ct_ref03_Count, g0)] ann_ref03_Size ct_ref03_Size Try.f31 cd = tree_ref03_Size := by
  intro cd h
  injection h with h
  subst h
  kernel_rfl
theorem fok_ref03_Size {g0 : List D → Option (List D)} {g : List D → Option (List D)} (h0 : FOk ct_ref03_Count g0) (h : ∀ ds outs, WfA ct_ref03_Size.ars ds → g ds = some outs → tree_ref03_Size.go (tblS [(ct_ref03_Count, g0)]) (fun o => o = outs) ds fun _ _ => False) : FOk ct_ref03_Size g :=
  fok_of ann_ref03_Size Try.f31 _ (.cons h0 .nil) rfl rfl enter_ref03_Size (by decide) fun ds outs hw hg => by rw [code_ref03_Size g0 _ rfl]; exact h ds outs hw hg

def ct_ref03_node : Ct := ⟨90, [.val (.st 23)], [(.bool, false)], [], none⟩
theorem enter_ref03_node (args : Array Value) (w : World) : (callFunc ct_ref03_node.f args).run Try.prog w = .ok (.enter ct_ref03_node.f args) w := by kernel_rfl
def ann_ref03_node : Ann := ⟨[0, 1, 2, 4, 5, 26, 37, 54], []⟩
def tree_ref03_node : Tree := (.br (.eq (.fld (.tok 0) 0) (.lit (.i 0))) (.leaf [(.and (.and (.and (.le (.lit (.i 0)) (.fld (.tok 0) 1)) (.le (.fld (.tok 0) 1) (.lit (.i 1099511627776)))) (.eq (.fld (.tok 0) 2) (.lit (.s ⟨#[]⟩)))) (.eq (.len (.fld (.tok 0) 3)) (.lit (.i 0))))]) (.br (.eq (.fld (.tok 0) 0) (.lit (.i 1))) (.leaf [(.and (.eq (.fld (.tok 0) 2) (.lit (.s ⟨#[]⟩))) (.eq (.len (.fld (.tok 0) 3)) (.lit (.i 0))))]) (.br (.eq (.fld (.tok 0) 0) (.lit (.i 2))) (.leaf [(.and (.and (.eq (.fld (.tok 0) 1) (.lit (.i 0))) (.le (.slen (.fld (.tok 0) 2)) (.lit (.i 100)))) (.eq (.len (.fld (.tok 0) 3)) (.lit (.i 0))))]) (.br (.eq (.fld (.tok 0) 0) (.lit (.i 3))) (.leaf [(.and (.and (.and (.eq (.fld (.tok 0) 1) (.lit (.i 0))) (.le (.slen (.fld (.tok 0) 2)) (.lit (.i 100)))) (.le (.lit (.i 1)) (.len (.fld (.tok 0) 3)))) (.le (.len (.fld (.tok 0) 3)) (.lit (.i 8))))]) (.leaf [(.lit (.b .false))])))))
set_option maxRecDepth 100000 in
theorem code_ref03_node : ∀ cd, Try.f90.body = some cd → treeOf Try.prog [] ann_ref03_node ct_ref03_node Try.f90 cd = tree_ref03_node := by
  intro cd h
  injection h with h
  subst h
  kernel_rfl
theorem fok_ref03_node {g : List D → Option (List D)}  (h : ∀ ds outs, WfA ct_ref03_node.ars ds → g ds = some outs → tree_ref03_node.go (tblS []) (fun o => o = outs) ds fun _ _ => False) : FOk ct_ref03_node g :=
  fok_of ann_ref03_node Try.f90 _ .nil rfl rfl enter_ref03_node (by decide) fun ds outs hw hg => by rw [code_ref03_node  _ rfl]; exact h ds outs hw hg

def ct_ref03_nodes : Ct := ⟨72, [.val (.st 23)], [(.bool, false)], [], none⟩
theorem enter_ref03_nodes (args : Array Value) (w : World) : (callFunc ct_ref03_nodes.f args).run Try.prog w = .ok (.enter ct_ref03_nodes.f args) w := by kernel_rfl
def ann_ref03_nodes : Ann := ⟨[0, 1, 2, 3, 6, 11, 20], [(4, ⟨[(2, .bool, false), (3, .int .i64, false)], [], [7, 8, 9, 10, 11, 14, 15, 16, 17, 18, 19, 20, 12, 13], []⟩)]⟩
def tree_ref03_nodes : Tree := (.need [(.ok 0 [(.tok 0)])] (.br (.not (.call 0 0 [(.tok 0)])) (.leaf [(.lit (.b .false))]) (.loop 4 1 [(.lit (.b .false)), (.lit (.i 0))] (.br (.lt (.tok 2) (.len (.fld (.tok 0) 3))) (.need [(.le (.lit (.i 0)) (.tok 2)), (.lt (.tok 2) (.len (.fld (.tok 0) 3))), (.ok 1 [(.get (.fld (.tok 0) 3) (.tok 2))])] (.br (.not (.call 1 0 [(.get (.fld (.tok 0) 3) (.tok 2))])) (.leaf [(.lit (.b .false))]) (.need [(.rng .i64 (.add (.tok 2) (.lit (.i 1))))] (.back 4 [(.tok 1), (.add (.tok 2) (.lit (.i 1)))])))) (.leaf [(.lit (.b .true))])))))
set_option maxRecDepth 100000 in
theorem code_ref03_nodes (g0 g1 : List D → Option (List D)) : ∀ cd, Try.f72.body = some cd → treeOf Try.prog [(ct_ref03_node, g0), (ct_ref03_nodes, g1)] ann_ref03_nodes ct_ref03_nodes Try.f72 cd = tree_ref03_nodes := by
  intro cd h
  injection h with h
  subst h
  kernel_rfl
theorem fok_ref03_nodes {g0 g1 : List D → Option (List D)} {g : List D → Option (List D)} (h0 : FOk ct_ref03_node g0) (h1 : FOk ct_ref03_nodes g1) (h : ∀ ds outs, WfA ct_ref03_nodes.ars ds → g ds = some outs → tree_ref03_nodes.go (tblS [(ct_ref03_node, g0), (ct_ref03_nodes, g1)]) (fun o => o = outs) ds fun _ _ => False) : FOk ct_ref03_nodes g :=
  fok_of ann_ref03_nodes Try.f72 _ (.cons h0 (.cons h1 .nil)) rfl rfl enter_ref03_nodes (by decide) fun ds outs hw hg => by rw [code_ref03_nodes g0 g1 _ rfl]; exact h ds outs hw hg

def ct_ref03_Valid : Ct := ⟨35, [.val (.st 23)], [(.bool, false)], [], none⟩
theorem enter_ref03_Valid (args : Array Value) (w : World) : (callFunc ct_ref03_Valid.f args).run Try.prog w = .ok (.enter ct_ref03_Valid.f args) w := by kernel_rfl
def ann_ref03_Valid : Ann := ⟨[0, 1, 2], []⟩
def tree_ref03_Valid : Tree := (.need [(.ok 0 [(.tok 0)]), (.imp (.le (.call 0 0 [(.tok 0)]) (.lit (.i 2000))) (.ok 1 [(.tok 0)]))] (.leaf [(.and (.le (.call 0 0 [(.tok 0)]) (.lit (.i 2000))) (.call 1 0 [(.tok 0)]))]))
set_option maxRecDepth 100000 in
theorem code_ref03_Valid (g0 g1 : List D → Option (List D)) : ∀ cd, Try.f35.body = some cd → treeOf Try.prog [(ct_ref03_Size, g0), (ct_ref03_nodes, g1)] ann_ref03_Valid ct_ref03_Valid Try.f35 cd = tree_ref03_Valid := by
  intro cd h
  injection h with h
  subst h
  kernel_rfl
theorem fok_ref03_Valid {g0 g1 : List D → Option (List D)} {g : List D → Option (List D)} (h0 : FOk ct_ref03_Size g0) (h1 : FOk ct_ref03_nodes g1) (h : ∀ ds outs, WfA ct_ref03_Valid.ars ds → g ds = some outs → tree_ref03_Valid.go (tblS [(ct_ref03_Size, g0), (ct_ref03_nodes, g1)]) (fun o => o = outs) ds fun _ _ => False) : FOk ct_ref03_Valid g :=
  fok_of ann_ref03_Valid Try.f35 _ (.cons h0 (.cons h1 .nil)) rfl rfl enter_ref03_Valid (by decide) fun ds outs hw hg => by rw [code_ref03_Valid g0 g1 _ rfl]; exact h ds outs hw hg

def ct_ref16_Is : Ct := ⟨53, [.val (.st 23), .val (.str), .val (.int .i64)], [(.bool, false)], [], none⟩
theorem enter_ref16_Is (args : Array Value) (w : World) : (callFunc ct_ref16_Is.f args).run Try.prog w = .ok (.enter ct_ref16_Is.f args) w := by kernel_rfl
def ann_ref16_Is : Ann := ⟨[0, 1, 2, 3, 6], []⟩
def tree_ref16_Is : Tree := (.leaf [(.and (.and (.or (.eq (.fld (.tok 0) 0) (.lit (.i 2))) (.eq (.fld (.tok 0) 0) (.lit (.i 3)))) (.eq (.fld (.tok 0) 2) (.tok 1))) (.eq (.len (.fld (.tok 0) 3)) (.tok 2)))])
set_option maxRecDepth 100000 in
theorem code_ref16_Is : ∀ cd, Try.f53.body = some cd → treeOf Try.prog [] ann_ref16_Is ct_ref16_Is Try.f53 cd = tree_ref16_Is := by
  intro cd h
  injection h with h
  subst h
  kernel_rfl
theorem fok_ref16_Is {g : List D → Option (List D)}  (h : ∀ ds outs, WfA ct_ref16_Is.ars ds → g ds = some outs → tree_ref16_Is.go (tblS []) (fun o => o = outs) ds fun _ _ => False) : FOk ct_ref16_Is g :=
  fok_of ann_ref16_Is Try.f53 _ .nil rfl rfl enter_ref16_Is (by decide) fun ds outs hw hg => by rw [code_ref16_Is  _ rfl]; exact h ds outs hw hg

def ct_ref16_joins : Ct := ⟨73, [.val (.st 23)], [(.bool, false)], [], none⟩
theorem enter_ref16_joins (args : Array Value) (w : World) : (callFunc ct_ref16_joins.f args).run Try.prog w = .ok (.enter ct_ref16_joins.f args) w := by kernel_rfl
def ann_ref16_joins : Ann := ⟨[0, 1, 2], []⟩
def tree_ref16_joins : Tree := (.need [(.ok 0 [(.tok 0), (.lit (.s ⟨#[44]⟩)), (.lit (.i 2))]), (.imp (.not (.call 0 0 [(.tok 0), (.lit (.s ⟨#[44]⟩)), (.lit (.i 2))])) (.ok 0 [(.tok 0), (.lit (.s ⟨#[59]⟩)), (.lit (.i 2))])), (.imp (.not (.or (.call 0 0 [(.tok 0), (.lit (.s ⟨#[44]⟩)), (.lit (.i 2))]) (.call 0 0 [(.tok 0), (.lit (.s ⟨#[59]⟩)), (.lit (.i 2))]))) (.ok 0 [(.tok 0), (.lit (.s ⟨#[45, 62]⟩)), (.lit (.i 2))]))] (.leaf [(.or (.or (.call 0 0 [(.tok 0), (.lit (.s ⟨#[44]⟩)), (.lit (.i 2))]) (.call 0 0 [(.tok 0), (.lit (.s ⟨#[59]⟩)), (.lit (.i 2))])) (.call 0 0 [(.tok 0), (.lit (.s ⟨#[45, 62]⟩)), (.lit (.i 2))]))]))
set_option maxRecDepth 100000 in
theorem code_ref16_joins (g0 : List D → Option (List D)) : ∀ cd, Try.f73.body = some cd → treeOf Try.prog [(ct_ref16_Is, g0)] ann_ref16_joins ct_ref16_joins Try.f73 cd = tree_ref16_joins := by
  intro cd h
  injection h with h
  subst h
  kernel_rfl
theorem fok_ref16_joins {g0 : List D → Option (List D)} {g : List D → Option (List D)} (h0 : FOk ct_ref16_Is g0) (h : ∀ ds outs, WfA ct_ref16_joins.ars ds → g ds = some outs → tree_ref16_joins.go (tblS [(ct_ref16_Is, g0)]) (fun o => o = outs) ds fun _ _ => False) : FOk ct_ref16_joins g :=
  fok_of ann_ref16_joins Try.f73 _ (.cons h0 .nil) rfl rfl enter_ref16_joins (by decide) fun ds outs hw hg => by rw [code_ref16_joins g0 _ rfl]; exact h ds outs hw hg

def ct_ref03_copied : Ct := ⟨87, [.val (.st 23)], [(.st 23, false)], [], none⟩
theorem enter_ref03_copied (args : Array Value) (w : World) : (callFunc ct_ref03_copied.f args).run Try.prog w = .ok (.enter ct_ref03_copied.f args) w := by kernel_rfl
def ann_ref03_copied : Ann := ⟨[0, 1, 2, 3, 4, 16], [(3, ⟨[(4, .int .i64, false)], [3], [12, 13, 14, 15, 16, 19, 20, 21, 22, 23, 24, 25, 26, 27, 28, 29, 17, 18], []⟩)]⟩
def tree_ref03_copied : Tree := (.loop 3 1 [(.lit (.i 0)), (.set (.set (.set (.lit (.a [(.i 0), (.i 0), (.s ⟨#[]⟩), (.r [])])) 0 (.fld (.tok 0) 0)) 1 (.fld (.tok 0) 1)) 2 (.fld (.tok 0) 2))] (.br (.lt (.tok 1) (.len (.fld (.tok 0) 3))) (.need [(.le (.lit (.i 0)) (.tok 1)), (.lt (.tok 1) (.len (.fld (.tok 0) 3))), (.ok 0 [(.get (.fld (.tok 0) 3) (.tok 1))]), (.le (.add (.len (.fld (.tok 2) 3)) (.lit (.i 1))) (.lit (.i 2513169434843)))] (.need [(.rng .i64 (.add (.tok 1) (.lit (.i 1))))] (.back 3 [(.add (.tok 1) (.lit (.i 1))), (.set (.tok 2) 3 (.app (.fld (.tok 2) 3) (.row [(.call 0 0 [(.get (.fld (.tok 0) 3) (.tok 1))])])))]))) (.leaf [(.tok 2)])))
set_option maxRecDepth 100000 in
theorem code_ref03_copied (g0 : List D → Option (List D)) : ∀ cd, Try.f87.body = some cd → treeOf Try.prog [(ct_ref03_copied, g0)] ann_ref03_copied ct_ref03_copied Try.f87 cd = tree_ref03_copied := by
  intro cd h
  injection h with h
  subst h
  kernel_rfl
theorem fok_ref03_copied {g0 : List D → Option (List D)} {g : List D → Option (List D)} (h0 : FOk ct_ref03_copied g0) (h : ∀ ds outs, WfA ct_ref03_copied.ars ds → g ds = some outs → tree_ref03_copied.go (tblS [(ct_ref03_copied, g0)]) (fun o => o = outs) ds fun _ _ => False) : FOk ct_ref03_copied g :=
  fok_of ann_ref03_copied Try.f87 _ (.cons h0 .nil) rfl rfl enter_ref03_copied (by decide) fun ds outs hw hg => by rw [code_ref03_copied g0 _ rfl]; exact h ds outs hw hg

def ct_ref03_Clone : Ct := ⟨61, [.val (.st 23)], [(.st 23, false)], [], none⟩
theorem enter_ref03_Clone (args : Array Value) (w : World) : (callFunc ct_ref03_Clone.f args).run Try.prog w = .ok (.enter ct_ref03_Clone.f args) w := by kernel_rfl
def ann_ref03_Clone : Ann := ⟨[0, 1, 2, 5], []⟩
def tree_ref03_Clone : Tree := (.need [(.ok 0 [(.tok 0)])] (.br (.not (.call 0 0 [(.tok 0)])) (.leaf [(.lit (.a [(.i 0), (.i 0), (.s ⟨#[]⟩), (.r [])]))]) (.need [(.ok 1 [(.tok 0)])] (.leaf [(.call 1 0 [(.tok 0)])]))))
set_option maxRecDepth 100000 in
theorem code_ref03_Clone (g0 g1 : List D → Option (List D)) : ∀ cd, Try.f61.body = some cd → treeOf Try.prog [(ct_ref03_Valid, g0), (ct_ref03_copied, g1)] ann_ref03_Clone ct_ref03_Clone Try.f61 cd = tree_ref03_Clone := by
  intro cd h
  injection h with h
  subst h
  kernel_rfl
theorem fok_ref03_Clone {g0 g1 : List D → Option (List D)} {g : List D → Option (List D)} (h0 : FOk ct_ref03_Valid g0) (h1 : FOk ct_ref03_copied g1) (h : ∀ ds outs, WfA ct_ref03_Clone.ars ds → g ds = some outs → tree_ref03_Clone.go (tblS [(ct_ref03_Valid, g0), (ct_ref03_copied, g1)]) (fun o => o = outs) ds fun _ _ => False) : FOk ct_ref03_Clone g :=
  fok_of ann_ref03_Clone Try.f61 _ (.cons h0 (.cons h1 .nil)) rfl rfl enter_ref03_Clone (by decide) fun ds outs hw hg => by rw [code_ref03_Clone g0 g1 _ rfl]; exact h ds outs hw hg

def ct_ref16_convert : Ct := ⟨36, [.val (.st 23)], [(.st 23, false), (.bool, false)], [], none⟩
theorem enter_ref16_convert (args : Array Value) (w : World) : (callFunc ct_ref16_convert.f args).run Try.prog w = .ok (.enter ct_ref16_convert.f args) w := by kernel_rfl
def ann_ref16_convert : Ann := ⟨[0, 1, 2, 3, 4, 5, 6, 7, 10, 16, 20], []⟩
def tree_ref16_convert : Tree := (.br (.eq (.fld (.tok 0) 0) (.lit (.i 0))) (.leaf [(.set (.set (.set (.lit (.a [(.i 0), (.i 0), (.s ⟨#[]⟩), (.r [])])) 0 (.lit (.i 3))) 2 (.lit (.s ⟨#[99, 97, 108, 108]⟩))) 3 (.row [(.tok 0)])), (.lit (.b .true))]) (.br (.eq (.fld (.tok 0) 0) (.lit (.i 1))) (.leaf [(.lit (.a [(.i 0), (.i 0), (.s ⟨#[]⟩), (.r [])])), (.lit (.b .false))]) (.need [(.ok 0 [(.tok 0)])] (.br (.not (.call 0 0 [(.tok 0)])) (.need [(.ok 1 [(.tok 0)])] (.leaf [(.call 1 0 [(.tok 0)]), (.lit (.b .true))])) (.need [(.lit (.b .true)), (.lt (.lit (.i 0)) (.len (.fld (.tok 0) 3))), (.ok 2 [(.get (.fld (.tok 0) 3) (.lit (.i 0)))])] (.need [(.lit (.b .true)), (.lt (.lit (.i 1)) (.len (.fld (.tok 0) 3))), (.ok 2 [(.get (.fld (.tok 0) 3) (.lit (.i 1)))])] (.leaf [(.set (.set (.set (.lit (.a [(.i 0), (.i 0), (.s ⟨#[]⟩), (.r [])])) 0 (.lit (.i 3))) 2 (.fld (.tok 0) 2)) 3 (.row [(.call 2 0 [(.get (.fld (.tok 0) 3) (.lit (.i 0)))]), (.call 2 0 [(.get (.fld (.tok 0) 3) (.lit (.i 1)))])])), (.and (.call 2 1 [(.get (.fld (.tok 0) 3) (.lit (.i 0)))]) (.call 2 1 [(.get (.fld (.tok 0) 3) (.lit (.i 1)))]))])))))))
set_option maxRecDepth 100000 in
theorem code_ref16_convert (g0 g1 g2 : List D → Option (List D)) : ∀ cd, Try.f36.body = some cd → treeOf Try.prog [(ct_ref16_joins, g0), (ct_ref03_Clone, g1), (ct_ref16_convert, g2)] ann_ref16_convert ct_ref16_convert Try.f36 cd = tree_ref16_convert := by
  intro cd h
  injection h with h
  subst h
  kernel_rfl
theorem fok_ref16_convert {g0 g1 g2 : List D → Option (List D)} {g : List D → Option (List D)} (h0 : FOk ct_ref16_joins g0) (h1 : FOk ct_ref03_Clone g1) (h2 : FOk ct_ref16_convert g2) (h : ∀ ds outs, WfA ct_ref16_convert.ars ds → g ds = some outs → tree_ref16_convert.go (tblS [(ct_ref16_joins, g0), (ct_ref03_Clone, g1), (ct_ref16_convert, g2)]) (fun o => o = outs) ds fun _ _ => False) : FOk ct_ref16_convert g :=
  fok_of ann_ref16_convert Try.f36 _ (.cons h0 (.cons h1 (.cons h2 .nil))) rfl rfl enter_ref16_convert (by decide) fun ds outs hw hg => by rw [code_ref16_convert g0 g1 g2 _ rfl]; exact h ds outs hw hg

def ct_ref16_small : Ct := ⟨37, [.val (.st 23)], [(.bool, false)], [], none⟩
theorem enter_ref16_small (args : Array Value) (w : World) : (callFunc ct_ref16_small.f args).run Try.prog w = .ok (.enter ct_ref16_small.f args) w := by kernel_rfl
def ann_ref16_small : Ann := ⟨[0, 1, 2], []⟩
def tree_ref16_small : Tree := (.need [(.ok 0 [(.tok 0)])] (.leaf [(.le (.call 0 0 [(.tok 0)]) (.lit (.i 2000)))]))
set_option maxRecDepth 100000 in
theorem code_ref16_small (g0 : List D → Option (List D)) : ∀ cd, Try.f37.body = some cd → treeOf Try.prog [(ct_ref03_Size, g0)] ann_ref16_small ct_ref16_small Try.f37 cd = tree_ref16_small := by
  intro cd h
  injection h with h
  subst h
  kernel_rfl
theorem fok_ref16_small {g0 : List D → Option (List D)} {g : List D → Option (List D)} (h0 : FOk ct_ref03_Size g0) (h : ∀ ds outs, WfA ct_ref16_small.ars ds → g ds = some outs → tree_ref16_small.go (tblS [(ct_ref03_Size, g0)]) (fun o => o = outs) ds fun _ _ => False) : FOk ct_ref16_small g :=
  fok_of ann_ref16_small Try.f37 _ (.cons h0 .nil) rfl rfl enter_ref16_small (by decide) fun ds outs hw hg => by rw [code_ref16_small g0 _ rfl]; exact h ds outs hw hg

def ct_ref16_Goal : Ct := ⟨11, [.val (.st 23)], [(.st 23, false), (.bool, false)], [], none⟩
theorem enter_ref16_Goal (args : Array Value) (w : World) : (callFunc ct_ref16_Goal.f args).run Try.prog w = .ok (.enter ct_ref16_Goal.f args) w := by kernel_rfl
def ann_ref16_Goal : Ann := ⟨[0, 1, 2, 3, 4, 5, 8, 21], []⟩
def tree_ref16_Goal : Tree := (.need [(.ok 0 [(.tok 0)])] (.br (.not (.call 0 0 [(.tok 0)])) (.leaf [(.lit (.a [(.i 0), (.i 0), (.s ⟨#[]⟩), (.r [])])), (.lit (.b .false))]) (.need [(.ok 1 [(.tok 0)])] (.need [(.imp (.not (.not (.call 1 1 [(.tok 0)]))) (.ok 2 [(.call 1 0 [(.tok 0)])]))] (.br (.or (.not (.call 1 1 [(.tok 0)])) (.not (.call 2 0 [(.call 1 0 [(.tok 0)])]))) (.leaf [(.lit (.a [(.i 0), (.i 0), (.s ⟨#[]⟩), (.r [])])), (.lit (.b .false))]) (.leaf [(.call 1 0 [(.tok 0)]), (.lit (.b .true))]))))))
set_option maxRecDepth 100000 in
theorem code_ref16_Goal (g0 g1 g2 : List D → Option (List D)) : ∀ cd, Try.f11.body = some cd → treeOf Try.prog [(ct_ref03_Valid, g0), (ct_ref16_convert, g1), (ct_ref16_small, g2)] ann_ref16_Goal ct_ref16_Goal Try.f11 cd = tree_ref16_Goal := by
  intro cd h
  injection h with h
  subst h
  kernel_rfl
theorem fok_ref16_Goal {g0 g1 g2 : List D → Option (List D)} {g : List D → Option (List D)} (h0 : FOk ct_ref03_Valid g0) (h1 : FOk ct_ref16_convert g1) (h2 : FOk ct_ref16_small g2) (h : ∀ ds outs, WfA ct_ref16_Goal.ars ds → g ds = some outs → tree_ref16_Goal.go (tblS [(ct_ref03_Valid, g0), (ct_ref16_convert, g1), (ct_ref16_small, g2)]) (fun o => o = outs) ds fun _ _ => False) : FOk ct_ref16_Goal g :=
  fok_of ann_ref16_Goal Try.f11 _ (.cons h0 (.cons h1 (.cons h2 .nil))) rfl rfl enter_ref16_Goal (by decide) fun ds outs hw hg => by rw [code_ref16_Goal g0 g1 g2 _ rfl]; exact h ds outs hw hg

def ct_ref03_identical : Ct := ⟨62, [.val (.st 23), .val (.st 23)], [(.bool, false)], [], none⟩
theorem enter_ref03_identical (args : Array Value) (w : World) : (callFunc ct_ref03_identical.f args).run Try.prog w = .ok (.enter ct_ref03_identical.f args) w := by kernel_rfl
def ann_ref03_identical : Ann := ⟨[0, 1, 2, 3, 4, 5, 33, 38, 52], [(4, ⟨[(4, .bool, false), (5, .int .i64, false)], [], [34, 35, 36, 37, 38, 41, 42, 43, 44, 45, 46, 47, 48, 49, 50, 51, 52, 39, 40], []⟩)]⟩
def tree_ref03_identical : Tree := (.br (.or (.or (.or (.not (.eq (.fld (.tok 0) 0) (.fld (.tok 1) 0))) (.not (.eq (.fld (.tok 0) 1) (.fld (.tok 1) 1)))) (.not (.eq (.fld (.tok 0) 2) (.fld (.tok 1) 2)))) (.not (.eq (.len (.fld (.tok 0) 3)) (.len (.fld (.tok 1) 3))))) (.leaf [(.lit (.b .false))]) (.loop 4 2 [(.lit (.b .false)), (.lit (.i 0))] (.br (.lt (.tok 3) (.len (.fld (.tok 0) 3))) (.need [(.ok 0 [(.get (.fld (.tok 0) 3) (.tok 3)), (.get (.fld (.tok 1) 3) (.tok 3))]), (.le (.lit (.i 0)) (.tok 3)), (.lt (.tok 3) (.len (.fld (.tok 1) 3))), (.le (.lit (.i 0)) (.tok 3)), (.lt (.tok 3) (.len (.fld (.tok 0) 3)))] (.br (.not (.call 0 0 [(.get (.fld (.tok 0) 3) (.tok 3)), (.get (.fld (.tok 1) 3) (.tok 3))])) (.leaf [(.lit (.b .false))]) (.need [(.rng .i64 (.add (.tok 3) (.lit (.i 1))))] (.back 4 [(.tok 2), (.add (.tok 3) (.lit (.i 1)))])))) (.leaf [(.lit (.b .true))]))))
set_option maxRecDepth 100000 in
theorem code_ref03_identical (g0 : List D → Option (List D)) : ∀ cd, Try.f62.body = some cd → treeOf Try.prog [(ct_ref03_identical, g0)] ann_ref03_identical ct_ref03_identical Try.f62 cd = tree_ref03_identical := by
  intro cd h
  injection h with h
  subst h
  kernel_rfl
theorem fok_ref03_identical {g0 : List D → Option (List D)} {g : List D → Option (List D)} (h0 : FOk ct_ref03_identical g0) (h : ∀ ds outs, WfA ct_ref03_identical.ars ds → g ds = some outs → tree_ref03_identical.go (tblS [(ct_ref03_identical, g0)]) (fun o => o = outs) ds fun _ _ => False) : FOk ct_ref03_identical g :=
  fok_of ann_ref03_identical Try.f62 _ (.cons h0 .nil) rfl rfl enter_ref03_identical (by decide) fun ds outs hw hg => by rw [code_ref03_identical g0 _ rfl]; exact h ds outs hw hg

def ct_ref03_Same : Ct := ⟨25, [.val (.st 23), .val (.st 23)], [(.bool, false)], [], none⟩
theorem enter_ref03_Same (args : Array Value) (w : World) : (callFunc ct_ref03_Same.f args).run Try.prog w = .ok (.enter ct_ref03_Same.f args) w := by kernel_rfl
def ann_ref03_Same : Ann := ⟨[0, 1, 2, 3, 4], []⟩
def tree_ref03_Same : Tree := (.need [(.ok 0 [(.tok 0)]), (.imp (.call 0 0 [(.tok 0)]) (.ok 0 [(.tok 1)])), (.imp (.and (.call 0 0 [(.tok 0)]) (.call 0 0 [(.tok 1)])) (.ok 1 [(.tok 0), (.tok 1)]))] (.leaf [(.and (.and (.call 0 0 [(.tok 0)]) (.call 0 0 [(.tok 1)])) (.call 1 0 [(.tok 0), (.tok 1)]))]))
set_option maxRecDepth 100000 in
theorem code_ref03_Same (g0 g1 : List D → Option (List D)) : ∀ cd, Try.f25.body = some cd → treeOf Try.prog [(ct_ref03_Valid, g0), (ct_ref03_identical, g1)] ann_ref03_Same ct_ref03_Same Try.f25 cd = tree_ref03_Same := by
  intro cd h
  injection h with h
  subst h
  kernel_rfl
theorem fok_ref03_Same {g0 g1 : List D → Option (List D)} {g : List D → Option (List D)} (h0 : FOk ct_ref03_Valid g0) (h1 : FOk ct_ref03_identical g1) (h : ∀ ds outs, WfA ct_ref03_Same.ars ds → g ds = some outs → tree_ref03_Same.go (tblS [(ct_ref03_Valid, g0), (ct_ref03_identical, g1)]) (fun o => o = outs) ds fun _ _ => False) : FOk ct_ref03_Same g :=
  fok_of ann_ref03_Same Try.f25 _ (.cons h0 (.cons h1 .nil)) rfl rfl enter_ref03_Same (by decide) fun ds outs hw hg => by rw [code_ref03_Same g0 g1 _ rfl]; exact h ds outs hw hg

def ct_law16_same : Ct := ⟨12, [.val (.st 23), .val (.st 23)], [(.bool, false)], [], none⟩
theorem enter_law16_same (args : Array Value) (w : World) : (callFunc ct_law16_same.f args).run Try.prog w = .ok (.enter ct_law16_same.f args) w := by kernel_rfl
def ann_law16_same : Ann := ⟨[0, 1, 2, 3, 4], []⟩
def tree_law16_same : Tree := (.need [(.ok 0 [(.tok 0), (.tok 1)])] (.leaf [(.call 0 0 [(.tok 0), (.tok 1)])]))
set_option maxRecDepth 100000 in
theorem code_law16_same (g0 : List D → Option (List D)) : ∀ cd, Try.f12.body = some cd → treeOf Try.prog [(ct_ref03_Same, g0)] ann_law16_same ct_law16_same Try.f12 cd = tree_law16_same := by
  intro cd h
  injection h with h
  subst h
  kernel_rfl
theorem fok_law16_same {g0 : List D → Option (List D)} {g : List D → Option (List D)} (h0 : FOk ct_ref03_Same g0) (h : ∀ ds outs, WfA ct_law16_same.ars ds → g ds = some outs → tree_law16_same.go (tblS [(ct_ref03_Same, g0)]) (fun o => o = outs) ds fun _ _ => False) : FOk ct_law16_same g :=
  fok_of ann_law16_same Try.f12 _ (.cons h0 .nil) rfl rfl enter_law16_same (by decide) fun ds outs hw hg => by rw [code_law16_same g0 _ rfl]; exact h ds outs hw hg

def ct_term_Atom : Ct := ⟨49, [.val (.str)], [(.st 23, false)], [], none⟩
theorem enter_term_Atom (args : Array Value) (w : World) : (callFunc ct_term_Atom.f args).run Try.prog w = .ok (.enter ct_term_Atom.f args) w := by kernel_rfl
def ann_term_Atom : Ann := ⟨[0, 2], []⟩
def tree_term_Atom : Tree := (.need [(.ok 0 [(.set (.set (.lit (.a [(.i 0), (.i 0), (.s ⟨#[]⟩), (.r [])])) 0 (.lit (.i 2))) 2 (.tok 0))])] (.leaf [(.call 0 0 [(.set (.set (.lit (.a [(.i 0), (.i 0), (.s ⟨#[]⟩), (.r [])])) 0 (.lit (.i 2))) 2 (.tok 0))])]))
set_option maxRecDepth 100000 in
theorem code_term_Atom (g0 : List D → Option (List D)) : ∀ cd, Try.f49.body = some cd → treeOf Try.prog [(ct_term_Clone, g0)] ann_term_Atom ct_term_Atom Try.f49 cd = tree_term_Atom := by
  intro cd h
  injection h with h
  subst h
  kernel_rfl
theorem fok_term_Atom {g0 : List D → Option (List D)} {g : List D → Option (List D)} (h0 : FOk ct_term_Clone g0) (h : ∀ ds outs, WfA ct_term_Atom.ars ds → g ds = some outs → tree_term_Atom.go (tblS [(ct_term_Clone, g0)]) (fun o => o = outs) ds fun _ _ => False) : FOk ct_term_Atom g :=
  fok_of ann_term_Atom Try.f49 _ (.cons h0 .nil) rfl rfl enter_term_Atom (by decide) fun ds outs hw hg => by rw [code_term_Atom g0 _ rfl]; exact h ds outs hw hg

def ct_term_Struct : Ct := ⟨59, [.val (.str), .val (.row 24)], [(.st 23, false)], [], none⟩
theorem enter_term_Struct (args : Array Value) (w : World) : (callFunc ct_term_Struct.f args).run Try.prog w = .ok (.enter ct_term_Struct.f args) w := by kernel_rfl
def ann_term_Struct : Ann := ⟨[0, 1, 4, 7], []⟩
def tree_term_Struct : Tree := (.br (.eq (.len (.tok 1)) (.lit (.i 0))) (.need [(.ok 0 [(.tok 0)])] (.leaf [(.call 0 0 [(.tok 0)])])) (.need [(.ok 1 [(.set (.set (.set (.lit (.a [(.i 0), (.i 0), (.s ⟨#[]⟩), (.r [])])) 0 (.lit (.i 3))) 2 (.tok 0)) 3 (.tok 1))])] (.leaf [(.call 1 0 [(.set (.set (.set (.lit (.a [(.i 0), (.i 0), (.s ⟨#[]⟩), (.r [])])) 0 (.lit (.i 3))) 2 (.tok 0)) 3 (.tok 1))])])))
set_option maxRecDepth 100000 in
theorem code_term_Struct (g0 g1 : List D → Option (List D)) : ∀ cd, Try.f59.body = some cd → treeOf Try.prog [(ct_term_Atom, g0), (ct_term_Clone, g1)] ann_term_Struct ct_term_Struct Try.f59 cd = tree_term_Struct := by
  intro cd h
  injection h with h
  subst h
  kernel_rfl
theorem fok_term_Struct {g0 g1 : List D → Option (List D)} {g : List D → Option (List D)} (h0 : FOk ct_term_Atom g0) (h1 : FOk ct_term_Clone g1) (h : ∀ ds outs, WfA ct_term_Struct.ars ds → g ds = some outs → tree_term_Struct.go (tblS [(ct_term_Atom, g0), (ct_term_Clone, g1)]) (fun o => o = outs) ds fun _ _ => False) : FOk ct_term_Struct g :=
  fok_of ann_term_Struct Try.f59 _ (.cons h0 (.cons h1 .nil)) rfl rfl enter_term_Struct (by decide) fun ds outs hw hg => by rw [code_term_Struct g0 g1 _ rfl]; exact h ds outs hw hg

def ct_balls_raise : Ct := ⟨74, [.val (.str), .val (.row 24)], [(.st 23, false)], [], none⟩
theorem enter_balls_raise (args : Array Value) (w : World) : (callFunc ct_balls_raise.f args).run Try.prog w = .ok (.enter ct_balls_raise.f args) w := by kernel_rfl
def ann_balls_raise : Ann := ⟨[0, 1, 4], []⟩
def tree_balls_raise : Tree := (.need [(.ok 0 [(.tok 0), (.tok 1)]), (.ok 1 [(.lit (.s ⟨#[91, 93]⟩))]), (.ok 0 [(.lit (.s ⟨#[101, 114, 114, 111, 114]⟩)), (.row [(.call 0 0 [(.tok 0), (.tok 1)]), (.call 1 0 [(.lit (.s ⟨#[91, 93]⟩))])])])] (.leaf [(.call 0 0 [(.lit (.s ⟨#[101, 114, 114, 111, 114]⟩)), (.row [(.call 0 0 [(.tok 0), (.tok 1)]), (.call 1 0 [(.lit (.s ⟨#[91, 93]⟩))])])])]))
set_option maxRecDepth 100000 in
theorem code_balls_raise (g0 g1 : List D → Option (List D)) : ∀ cd, Try.f74.body = some cd → treeOf Try.prog [(ct_term_Struct, g0), (ct_term_Atom, g1)] ann_balls_raise ct_balls_raise Try.f74 cd = tree_balls_raise := by
  intro cd h
  injection h with h
  subst h
  kernel_rfl
theorem fok_balls_raise {g0 g1 : List D → Option (List D)} {g : List D → Option (List D)} (h0 : FOk ct_term_Struct g0) (h1 : FOk ct_term_Atom g1) (h : ∀ ds outs, WfA ct_balls_raise.ars ds → g ds = some outs → tree_balls_raise.go (tblS [(ct_term_Struct, g0), (ct_term_Atom, g1)]) (fun o => o = outs) ds fun _ _ => False) : FOk ct_balls_raise g :=
  fok_of ann_balls_raise Try.f74 _ (.cons h0 (.cons h1 .nil)) rfl rfl enter_balls_raise (by decide) fun ds outs hw hg => by rw [code_balls_raise g0 g1 _ rfl]; exact h ds outs hw hg

def ct_balls_Inst : Ct := ⟨38, [], [(.st 23, false)], [], none⟩
theorem enter_balls_Inst (args : Array Value) (w : World) : (callFunc ct_balls_Inst.f args).run Try.prog w = .ok (.enter ct_balls_Inst.f args) w := by kernel_rfl
def ann_balls_Inst : Ann := ⟨[0], []⟩
def tree_balls_Inst : Tree := (.need [(.ok 0 [(.lit (.s ⟨#[105, 110, 115, 116, 97, 110, 116, 105, 97, 116, 105, 111, 110, 95, 101, 114, 114, 111, 114]⟩)), (.lit (.r []))])] (.leaf [(.call 0 0 [(.lit (.s ⟨#[105, 110, 115, 116, 97, 110, 116, 105, 97, 116, 105, 111, 110, 95, 101, 114, 114, 111, 114]⟩)), (.lit (.r []))])]))
set_option maxRecDepth 100000 in
theorem code_balls_Inst (g0 : List D → Option (List D)) : ∀ cd, Try.f38.body = some cd → treeOf Try.prog [(ct_balls_raise, g0)] ann_balls_Inst ct_balls_Inst Try.f38 cd = tree_balls_Inst := by
  intro cd h
  injection h with h
  subst h
  kernel_rfl
theorem fok_balls_Inst {g0 : List D → Option (List D)} {g : List D → Option (List D)} (h0 : FOk ct_balls_raise g0) (h : ∀ ds outs, WfA ct_balls_Inst.ars ds → g ds = some outs → tree_balls_Inst.go (tblS [(ct_balls_raise, g0)]) (fun o => o = outs) ds fun _ _ => False) : FOk ct_balls_Inst g :=
  fok_of ann_balls_Inst Try.f38 _ (.cons h0 .nil) rfl rfl enter_balls_Inst (by decide) fun ds outs hw hg => by rw [code_balls_Inst g0 _ rfl]; exact h ds outs hw hg

def ct_balls_about : Ct := ⟨75, [.val (.st 23), .val (.str), .val (.row 9)], [(.st 23, false)], [], none⟩
theorem enter_balls_about (args : Array Value) (w : World) : (callFunc ct_balls_about.f args).run Try.prog w = .ok (.enter ct_balls_about.f args) w := by kernel_rfl
def ann_balls_about : Ann := ⟨[0, 1, 2, 3, 6, 7, 9, 12, 14, 15, 16, 17, 22, 36], [(5, ⟨[(7, .row 24, false), (16, .int .i64, false)], [6], [17, 18, 19, 9, 20, 21, 22, 23, 24, 25, 26, 27, 28, 29], []⟩)]⟩
def tree_balls_about : Tree := (.need [(.ok 0 [(.tok 0)])] (.br (.not (.call 0 0 [(.tok 0)])) (.leaf [(.lit (.a [(.i 0), (.i 0), (.s ⟨#[]⟩), (.r [])]))]) (.loop 5 3 [(.lit (.r [])), (.lit (.i 0)), (.lit (.a [(.i 0), (.i 0), (.s ⟨#[]⟩), (.r [])]))] (.br (.lt (.tok 4) (.len (.tok 2))) (.need [(.le (.lit (.i 0)) (.tok 4)), (.lt (.tok 4) (.len (.tok 2)))] (.br (.lt (.lit (.i 100)) (.slen (.get (.tok 2) (.tok 4)))) (.leaf [(.lit (.a [(.i 0), (.i 0), (.s ⟨#[]⟩), (.r [])]))]) (.need [(.ok 1 [(.get (.tok 2) (.tok 4))]), (.le (.add (.len (.tok 3)) (.lit (.i 1))) (.lit (.i 2513169434843)))] (.need [(.rng .i64 (.add (.tok 4) (.lit (.i 1))))] (.back 5 [(.app (.tok 3) (.row [(.call 1 0 [(.get (.tok 2) (.tok 4))])])), (.add (.tok 4) (.lit (.i 1))), (.tok 5)]))))) (.need [(.rng .i64 (.add (.lit (.i 3)) (.len (.tok 2)))), (.ok 2 [(.tok 0)]), (.rng .i64 (.add (.add (.lit (.i 3)) (.len (.tok 2))) (.call 2 0 [(.tok 0)])))] (.br (.lt (.lit (.i 2000)) (.add (.add (.lit (.i 3)) (.len (.tok 2))) (.call 2 0 [(.tok 0)]))) (.need [(.ok 1 [(.lit (.s ⟨#[46, 46, 46]⟩))])] (.need [(.le (.add (.len (.tok 3)) (.lit (.i 1))) (.lit (.i 2513169434843))), (.ok 3 [(.tok 1), (.app (.tok 3) (.row [(.call 1 0 [(.lit (.s ⟨#[46, 46, 46]⟩))])]))])] (.leaf [(.call 3 0 [(.tok 1), (.app (.tok 3) (.row [(.call 1 0 [(.lit (.s ⟨#[46, 46, 46]⟩))])]))])]))) (.need [(.le (.add (.len (.tok 3)) (.lit (.i 1))) (.lit (.i 2513169434843))), (.ok 3 [(.tok 1), (.app (.tok 3) (.row [(.tok 0)]))])] (.leaf [(.call 3 0 [(.tok 1), (.app (.tok 3) (.row [(.tok 0)]))])]))))))))
set_option maxRecDepth 100000 in
theorem code_balls_about (g0 g1 g2 g3 : List D → Option (List D)) : ∀ cd, Try.f75.body = some cd → treeOf Try.prog [(ct_term_Valid, g0), (ct_term_Atom, g1), (ct_term_Size, g2), (ct_balls_raise, g3)] ann_balls_about ct_balls_about Try.f75 cd = tree_balls_about := by
  intro cd h
  injection h with h
  subst h
  kernel_rfl
theorem fok_balls_about {g0 g1 g2 g3 : List D → Option (List D)} {g : List D → Option (List D)} (h0 : FOk ct_term_Valid g0) (h1 : FOk ct_term_Atom g1) (h2 : FOk ct_term_Size g2) (h3 : FOk ct_balls_raise g3) (h : ∀ ds outs, WfA ct_balls_about.ars ds → g ds = some outs → tree_balls_about.go (tblS [(ct_term_Valid, g0), (ct_term_Atom, g1), (ct_term_Size, g2), (ct_balls_raise, g3)]) (fun o => o = outs) ds fun _ _ => False) : FOk ct_balls_about g :=
  fok_of ann_balls_about Try.f75 _ (.cons h0 (.cons h1 (.cons h2 (.cons h3 .nil)))) rfl rfl enter_balls_about (by decide) fun ds outs hw hg => by rw [code_balls_about g0 g1 g2 g3 _ rfl]; exact h ds outs hw hg

def ct_balls_Type : Ct := ⟨39, [.val (.str), .val (.st 23)], [(.st 23, false)], [], none⟩
theorem enter_balls_Type (args : Array Value) (w : World) : (callFunc ct_balls_Type.f args).run Try.prog w = .ok (.enter ct_balls_Type.f args) w := by kernel_rfl
def ann_balls_Type : Ann := ⟨[0, 1, 3, 4], []⟩
def tree_balls_Type : Tree := (.need [(.ok 0 [(.tok 1), (.lit (.s ⟨#[116, 121, 112, 101, 95, 101, 114, 114, 111, 114]⟩)), (.row [(.tok 0)])])] (.leaf [(.call 0 0 [(.tok 1), (.lit (.s ⟨#[116, 121, 112, 101, 95, 101, 114, 114, 111, 114]⟩)), (.row [(.tok 0)])])]))
set_option maxRecDepth 100000 in
theorem code_balls_Type (g0 : List D → Option (List D)) : ∀ cd, Try.f39.body = some cd → treeOf Try.prog [(ct_balls_about, g0)] ann_balls_Type ct_balls_Type Try.f39 cd = tree_balls_Type := by
  intro cd h
  injection h with h
  subst h
  kernel_rfl
theorem fok_balls_Type {g0 : List D → Option (List D)} {g : List D → Option (List D)} (h0 : FOk ct_balls_about g0) (h : ∀ ds outs, WfA ct_balls_Type.ars ds → g ds = some outs → tree_balls_Type.go (tblS [(ct_balls_about, g0)]) (fun o => o = outs) ds fun _ _ => False) : FOk ct_balls_Type g :=
  fok_of ann_balls_Type Try.f39 _ (.cons h0 .nil) rfl rfl enter_balls_Type (by decide) fun ds outs hw hg => by rw [code_balls_Type g0 _ rfl]; exact h ds outs hw hg

def ct_body_Check : Ct := ⟨13, [.val (.st 23)], [(.st 23, false), (.st 23, false), (.bool, false)], [], none⟩
theorem enter_body_Check (args : Array Value) (w : World) : (callFunc ct_body_Check.f args).run Try.prog w = .ok (.enter ct_body_Check.f args) w := by kernel_rfl
def ann_body_Check : Ann := ⟨[0, 1, 2, 3, 4, 7, 12, 20, 26], []⟩
def tree_body_Check : Tree := (.need [(.ok 0 [(.tok 0)])] (.br (.not (.call 0 0 [(.tok 0)])) (.leaf [(.lit (.a [(.i 0), (.i 0), (.s ⟨#[]⟩), (.r [])])), (.lit (.a [(.i 0), (.i 0), (.s ⟨#[]⟩), (.r [])])), (.lit (.b .false))]) (.br (.eq (.fld (.tok 0) 0) (.lit (.i 0))) (.need [(.ok 1 [])] (.leaf [(.lit (.a [(.i 0), (.i 0), (.s ⟨#[]⟩), (.r [])])), (.call 1 0 []), (.lit (.b .false))])) (.need [(.ok 2 [(.tok 0)])] (.br (.not (.call 2 1 [(.tok 0)])) (.need [(.ok 3 [(.lit (.s ⟨#[99, 97, 108, 108, 97, 98, 108, 101]⟩)), (.tok 0)])] (.leaf [(.lit (.a [(.i 0), (.i 0), (.s ⟨#[]⟩), (.r [])])), (.call 3 0 [(.lit (.s ⟨#[99, 97, 108, 108, 97, 98, 108, 101]⟩)), (.tok 0)]), (.lit (.b .false))])) (.need [(.ok 4 [(.call 2 0 [(.tok 0)])])] (.br (.lt (.lit (.i 2000)) (.call 4 0 [(.call 2 0 [(.tok 0)])])) (.leaf [(.lit (.a [(.i 0), (.i 0), (.s ⟨#[]⟩), (.r [])])), (.lit (.a [(.i 0), (.i 0), (.s ⟨#[]⟩), (.r [])])), (.lit (.b .false))]) (.leaf [(.call 2 0 [(.tok 0)]), (.lit (.a [(.i 0), (.i 0), (.s ⟨#[]⟩), (.r [])])), (.lit (.b .true))]))))))))
set_option maxRecDepth 100000 in
theorem code_body_Check (g0 g1 g2 g3 g4 : List D → Option (List D)) : ∀ cd, Try.f13.body = some cd → treeOf Try.prog [(ct_term_Valid, g0), (ct_balls_Inst, g1), (ct_body_convert, g2), (ct_balls_Type, g3), (ct_term_Size, g4)] ann_body_Check ct_body_Check Try.f13 cd = tree_body_Check := by
  intro cd h
  injection h with h
  subst h
  kernel_rfl
theorem fok_body_Check {g0 g1 g2 g3 g4 : List D → Option (List D)} {g : List D → Option (List D)} (h0 : FOk ct_term_Valid g0) (h1 : FOk ct_balls_Inst g1) (h2 : FOk ct_body_convert g2) (h3 : FOk ct_balls_Type g3) (h4 : FOk ct_term_Size g4) (h : ∀ ds outs, WfA ct_body_Check.ars ds → g ds = some outs → tree_body_Check.go (tblS [(ct_term_Valid, g0), (ct_balls_Inst, g1), (ct_body_convert, g2), (ct_balls_Type, g3), (ct_term_Size, g4)]) (fun o => o = outs) ds fun _ _ => False) : FOk ct_body_Check g :=
  fok_of ann_body_Check Try.f13 _ (.cons h0 (.cons h1 (.cons h2 (.cons h3 (.cons h4 .nil))))) rfl rfl enter_body_Check (by decide) fun ds outs hw hg => by rw [code_body_Check g0 g1 g2 g3 g4 _ rfl]; exact h ds outs hw hg

def ct_ref06_atom : Ct := ⟨77, [.val (.str)], [(.st 23, false)], [], none⟩
theorem enter_ref06_atom (args : Array Value) (w : World) : (callFunc ct_ref06_atom.f args).run Try.prog w = .ok (.enter ct_ref06_atom.f args) w := by kernel_rfl
def ann_ref06_atom : Ann := ⟨[0, 2], []⟩
def tree_ref06_atom : Tree := (.leaf [(.set (.set (.lit (.a [(.i 0), (.i 0), (.s ⟨#[]⟩), (.r [])])) 0 (.lit (.i 2))) 2 (.tok 0))])
set_option maxRecDepth 100000 in
theorem code_ref06_atom : ∀ cd, Try.f77.body = some cd → treeOf Try.prog [] ann_ref06_atom ct_ref06_atom Try.f77 cd = tree_ref06_atom := by
  intro cd h
  injection h with h
  subst h
  kernel_rfl
theorem fok_ref06_atom {g : List D → Option (List D)}  (h : ∀ ds outs, WfA ct_ref06_atom.ars ds → g ds = some outs → tree_ref06_atom.go (tblS []) (fun o => o = outs) ds fun _ _ => False) : FOk ct_ref06_atom g :=
  fok_of ann_ref06_atom Try.f77 _ .nil rfl rfl enter_ref06_atom (by decide) fun ds outs hw hg => by rw [code_ref06_atom  _ rfl]; exact h ds outs hw hg

def ct_ref06_structure : Ct := ⟨91, [.val (.str), .val (.row 24)], [(.st 23, false)], [], none⟩
theorem enter_ref06_structure (args : Array Value) (w : World) : (callFunc ct_ref06_structure.f args).run Try.prog w = .ok (.enter ct_ref06_structure.f args) w := by kernel_rfl
def ann_ref06_structure : Ann := ⟨[0, 1, 4], []⟩
def tree_ref06_structure : Tree := (.leaf [(.set (.set (.set (.lit (.a [(.i 0), (.i 0), (.s ⟨#[]⟩), (.r [])])) 0 (.lit (.i 3))) 2 (.tok 0)) 3 (.tok 1))])
set_option maxRecDepth 100000 in
theorem code_ref06_structure : ∀ cd, Try.f91.body = some cd → treeOf Try.prog [] ann_ref06_structure ct_ref06_structure Try.f91 cd = tree_ref06_structure := by
  intro cd h
  injection h with h
  subst h
  kernel_rfl
theorem fok_ref06_structure {g : List D → Option (List D)}  (h : ∀ ds outs, WfA ct_ref06_structure.ars ds → g ds = some outs → tree_ref06_structure.go (tblS []) (fun o => o = outs) ds fun _ _ => False) : FOk ct_ref06_structure g :=
  fok_of ann_ref06_structure Try.f91 _ .nil rfl rfl enter_ref06_structure (by decide) fun ds outs hw hg => by rw [code_ref06_structure  _ rfl]; exact h ds outs hw hg

def ct_ref06_ball : Ct := ⟨76, [.val (.st 23)], [(.st 23, false)], [], none⟩
theorem enter_ref06_ball (args : Array Value) (w : World) : (callFunc ct_ref06_ball.f args).run Try.prog w = .ok (.enter ct_ref06_ball.f args) w := by kernel_rfl
def ann_ref06_ball : Ann := ⟨[0, 1, 2], []⟩
def tree_ref06_ball : Tree := (.need [(.ok 2 [(.call 1 0 [(.lit (.s ⟨#[101, 114, 114, 111, 114]⟩)), (.row [(.tok 0), (.call 0 0 [(.lit (.s ⟨#[91, 93]⟩))])])])]), (.ok 1 [(.lit (.s ⟨#[101, 114, 114, 111, 114]⟩)), (.row [(.tok 0), (.call 0 0 [(.lit (.s ⟨#[91, 93]⟩))])])]), (.ok 0 [(.lit (.s ⟨#[91, 93]⟩))])] (.leaf [(.call 2 0 [(.call 1 0 [(.lit (.s ⟨#[101, 114, 114, 111, 114]⟩)), (.row [(.tok 0), (.call 0 0 [(.lit (.s ⟨#[91, 93]⟩))])])])])]))
set_option maxRecDepth 100000 in
theorem code_ref06_ball (g0 g1 g2 : List D → Option (List D)) : ∀ cd, Try.f76.body = some cd → treeOf Try.prog [(ct_ref06_atom, g0), (ct_ref06_structure, g1), (ct_ref03_Clone, g2)] ann_ref06_ball ct_ref06_ball Try.f76 cd = tree_ref06_ball := by
  intro cd h
  injection h with h
  subst h
  kernel_rfl
theorem fok_ref06_ball {g0 g1 g2 : List D → Option (List D)} {g : List D → Option (List D)} (h0 : FOk ct_ref06_atom g0) (h1 : FOk ct_ref06_structure g1) (h2 : FOk ct_ref03_Clone g2) (h : ∀ ds outs, WfA ct_ref06_ball.ars ds → g ds = some outs → tree_ref06_ball.go (tblS [(ct_ref06_atom, g0), (ct_ref06_structure, g1), (ct_ref03_Clone, g2)]) (fun o => o = outs) ds fun _ _ => False) : FOk ct_ref06_ball g :=
  fok_of ann_ref06_ball Try.f76 _ (.cons h0 (.cons h1 (.cons h2 .nil))) rfl rfl enter_ref06_ball (by decide) fun ds outs hw hg => by rw [code_ref06_ball g0 g1 g2 _ rfl]; exact h ds outs hw hg

def ct_ref06_Inst : Ct := ⟨40, [], [(.st 23, false)], [], none⟩
theorem enter_ref06_Inst (args : Array Value) (w : World) : (callFunc ct_ref06_Inst.f args).run Try.prog w = .ok (.enter ct_ref06_Inst.f args) w := by kernel_rfl
def ann_ref06_Inst : Ann := ⟨[0], []⟩
def tree_ref06_Inst : Tree := (.need [(.ok 0 [(.lit (.s ⟨#[105, 110, 115, 116, 97, 110, 116, 105, 97, 116, 105, 111, 110, 95, 101, 114, 114, 111, 114]⟩))]), (.ok 1 [(.call 0 0 [(.lit (.s ⟨#[105, 110, 115, 116, 97, 110, 116, 105, 97, 116, 105, 111, 110, 95, 101, 114, 114, 111, 114]⟩))])])] (.leaf [(.call 1 0 [(.call 0 0 [(.lit (.s ⟨#[105, 110, 115, 116, 97, 110, 116, 105, 97, 116, 105, 111, 110, 95, 101, 114, 114, 111, 114]⟩))])])]))
set_option maxRecDepth 100000 in
theorem code_ref06_Inst (g0 g1 : List D → Option (List D)) : ∀ cd, Try.f40.body = some cd → treeOf Try.prog [(ct_ref06_atom, g0), (ct_ref06_ball, g1)] ann_ref06_Inst ct_ref06_Inst Try.f40 cd = tree_ref06_Inst := by
  intro cd h
  injection h with h
  subst h
  kernel_rfl
theorem fok_ref06_Inst {g0 g1 : List D → Option (List D)} {g : List D → Option (List D)} (h0 : FOk ct_ref06_atom g0) (h1 : FOk ct_ref06_ball g1) (h : ∀ ds outs, WfA ct_ref06_Inst.ars ds → g ds = some outs → tree_ref06_Inst.go (tblS [(ct_ref06_atom, g0), (ct_ref06_ball, g1)]) (fun o => o = outs) ds fun _ _ => False) : FOk ct_ref06_Inst g :=
  fok_of ann_ref06_Inst Try.f40 _ (.cons h0 (.cons h1 .nil)) rfl rfl enter_ref06_Inst (by decide) fun ds outs hw hg => by rw [code_ref06_Inst g0 g1 _ rfl]; exact h ds outs hw hg

def ct_ref06_with : Ct := ⟨78, [.val (.st 23), .val (.str), .val (.row 9)], [(.st 23, false)], [], none⟩
theorem enter_ref06_with (args : Array Value) (w : World) : (callFunc ct_ref06_with.f args).run Try.prog w = .ok (.enter ct_ref06_with.f args) w := by kernel_rfl
def ann_ref06_with : Ann := ⟨[0, 1, 2, 3, 6, 7, 8, 11, 16, 34], [(5, ⟨[(7, .row 24, false), (8, .int .i64, false)], [], [13, 14, 15, 16, 19, 20, 21, 22, 23, 24, 25, 26, 17, 18], []⟩)]⟩
def tree_ref06_with : Tree := (.need [(.ok 0 [(.tok 0)])] (.br (.not (.call 0 0 [(.tok 0)])) (.leaf [(.lit (.a [(.i 0), (.i 0), (.s ⟨#[]⟩), (.r [])]))]) (.loop 5 3 [(.lit (.r [])), (.lit (.i 0))] (.br (.lt (.tok 4) (.len (.tok 2))) (.need [(.le (.lit (.i 0)) (.tok 4)), (.lt (.tok 4) (.len (.tok 2))), (.ok 1 [(.get (.tok 2) (.tok 4))]), (.le (.add (.len (.tok 3)) (.lit (.i 1))) (.lit (.i 2513169434843)))] (.need [(.rng .i64 (.add (.tok 4) (.lit (.i 1))))] (.back 5 [(.app (.tok 3) (.row [(.call 1 0 [(.get (.tok 2) (.tok 4))])])), (.add (.tok 4) (.lit (.i 1)))]))) (.need [(.rng .i64 (.add (.lit (.i 2)) (.len (.tok 2)))), (.ok 2 [(.tok 0)]), (.rng .i64 (.add (.add (.lit (.i 2)) (.len (.tok 2))) (.call 2 0 [(.tok 0)]))), (.rng .i64 (.add (.add (.add (.lit (.i 2)) (.len (.tok 2))) (.call 2 0 [(.tok 0)])) (.lit (.i 1))))] (.br (.lt (.lit (.i 2000)) (.add (.add (.add (.lit (.i 2)) (.len (.tok 2))) (.call 2 0 [(.tok 0)])) (.lit (.i 1)))) (.need [(.ok 1 [(.lit (.s ⟨#[46, 46, 46]⟩))])] (.need [(.le (.add (.len (.tok 3)) (.lit (.i 1))) (.lit (.i 2513169434843))), (.ok 3 [(.tok 1), (.app (.tok 3) (.row [(.call 1 0 [(.lit (.s ⟨#[46, 46, 46]⟩))])]))]), (.ok 4 [(.call 3 0 [(.tok 1), (.app (.tok 3) (.row [(.call 1 0 [(.lit (.s ⟨#[46, 46, 46]⟩))])]))])])] (.leaf [(.call 4 0 [(.call 3 0 [(.tok 1), (.app (.tok 3) (.row [(.call 1 0 [(.lit (.s ⟨#[46, 46, 46]⟩))])]))])])]))) (.need [(.le (.add (.len (.tok 3)) (.lit (.i 1))) (.lit (.i 2513169434843))), (.ok 3 [(.tok 1), (.app (.tok 3) (.row [(.tok 0)]))]), (.ok 4 [(.call 3 0 [(.tok 1), (.app (.tok 3) (.row [(.tok 0)]))])])] (.leaf [(.call 4 0 [(.call 3 0 [(.tok 1), (.app (.tok 3) (.row [(.tok 0)]))])])]))))))))
set_option maxRecDepth 100000 in
theorem code_ref06_with (g0 g1 g2 g3 g4 : List D → Option (List D)) : ∀ cd, Try.f78.body = some cd → treeOf Try.prog [(ct_ref03_Valid, g0), (ct_ref06_atom, g1), (ct_ref03_Size, g2), (ct_ref06_structure, g3), (ct_ref06_ball, g4)] ann_ref06_with ct_ref06_with Try.f78 cd = tree_ref06_with := by
  intro cd h
  injection h with h
  subst h
  kernel_rfl
theorem fok_ref06_with {g0 g1 g2 g3 g4 : List D → Option (List D)} {g : List D → Option (List D)} (h0 : FOk ct_ref03_Valid g0) (h1 : FOk ct_ref06_atom g1) (h2 : FOk ct_ref03_Size g2) (h3 : FOk ct_ref06_structure g3) (h4 : FOk ct_ref06_ball g4) (h : ∀ ds outs, WfA ct_ref06_with.ars ds → g ds = some outs → tree_ref06_with.go (tblS [(ct_ref03_Valid, g0), (ct_ref06_atom, g1), (ct_ref03_Size, g2), (ct_ref06_structure, g3), (ct_ref06_ball, g4)]) (fun o => o = outs) ds fun _ _ => False) : FOk ct_ref06_with g :=
  fok_of ann_ref06_with Try.f78 _ (.cons h0 (.cons h1 (.cons h2 (.cons h3 (.cons h4 .nil))))) rfl rfl enter_ref06_with (by decide) fun ds outs hw hg => by rw [code_ref06_with g0 g1 g2 g3 g4 _ rfl]; exact h ds outs hw hg

def ct_ref06_Type : Ct := ⟨41, [.val (.str), .val (.st 23)], [(.st 23, false)], [], none⟩
theorem enter_ref06_Type (args : Array Value) (w : World) : (callFunc ct_ref06_Type.f args).run Try.prog w = .ok (.enter ct_ref06_Type.f args) w := by kernel_rfl
def ann_ref06_Type : Ann := ⟨[0, 1, 3, 4], []⟩
def tree_ref06_Type : Tree := (.need [(.ok 0 [(.tok 1), (.lit (.s ⟨#[116, 121, 112, 101, 95, 101, 114, 114, 111, 114]⟩)), (.row [(.tok 0)])])] (.leaf [(.call 0 0 [(.tok 1), (.lit (.s ⟨#[116, 121, 112, 101, 95, 101, 114, 114, 111, 114]⟩)), (.row [(.tok 0)])])]))
set_option maxRecDepth 100000 in
theorem code_ref06_Type (g0 : List D → Option (List D)) : ∀ cd, Try.f41.body = some cd → treeOf Try.prog [(ct_ref06_with, g0)] ann_ref06_Type ct_ref06_Type Try.f41 cd = tree_ref06_Type := by
  intro cd h
  injection h with h
  subst h
  kernel_rfl
theorem fok_ref06_Type {g0 : List D → Option (List D)} {g : List D → Option (List D)} (h0 : FOk ct_ref06_with g0) (h : ∀ ds outs, WfA ct_ref06_Type.ars ds → g ds = some outs → tree_ref06_Type.go (tblS [(ct_ref06_with, g0)]) (fun o => o = outs) ds fun _ _ => False) : FOk ct_ref06_Type g :=
  fok_of ann_ref06_Type Try.f41 _ (.cons h0 .nil) rfl rfl enter_ref06_Type (by decide) fun ds outs hw hg => by rw [code_ref06_Type g0 _ rfl]; exact h ds outs hw hg

def ct_ref16_Check : Ct := ⟨14, [.val (.st 23)], [(.st 23, false), (.st 23, false), (.bool, false)], [], none⟩
theorem enter_ref16_Check (args : Array Value) (w : World) : (callFunc ct_ref16_Check.f args).run Try.prog w = .ok (.enter ct_ref16_Check.f args) w := by kernel_rfl
def ann_ref16_Check : Ann := ⟨[0, 1, 2, 3, 4, 5, 6, 9, 14, 23, 29], []⟩
def tree_ref16_Check : Tree := (.need [(.ok 0 [(.tok 0)])] (.br (.not (.call 0 0 [(.tok 0)])) (.leaf [(.lit (.a [(.i 0), (.i 0), (.s ⟨#[]⟩), (.r [])])), (.lit (.a [(.i 0), (.i 0), (.s ⟨#[]⟩), (.r [])])), (.lit (.b .false))]) (.br (.eq (.fld (.tok 0) 0) (.lit (.i 0))) (.need [(.ok 1 [])] (.leaf [(.lit (.a [(.i 0), (.i 0), (.s ⟨#[]⟩), (.r [])])), (.call 1 0 []), (.lit (.b .false))])) (.need [(.ok 2 [(.tok 0)])] (.br (.not (.call 2 1 [(.tok 0)])) (.need [(.ok 3 [(.lit (.s ⟨#[99, 97, 108, 108, 97, 98, 108, 101]⟩)), (.tok 0)])] (.leaf [(.lit (.a [(.i 0), (.i 0), (.s ⟨#[]⟩), (.r [])])), (.call 3 0 [(.lit (.s ⟨#[99, 97, 108, 108, 97, 98, 108, 101]⟩)), (.tok 0)]), (.lit (.b .false))])) (.need [(.ok 4 [(.call 2 0 [(.tok 0)])])] (.br (.not (.call 4 0 [(.call 2 0 [(.tok 0)])])) (.leaf [(.lit (.a [(.i 0), (.i 0), (.s ⟨#[]⟩), (.r [])])), (.lit (.a [(.i 0), (.i 0), (.s ⟨#[]⟩), (.r [])])), (.lit (.b .false))]) (.leaf [(.call 2 0 [(.tok 0)]), (.lit (.a [(.i 0), (.i 0), (.s ⟨#[]⟩), (.r [])])), (.lit (.b .true))]))))))))
set_option maxRecDepth 100000 in
theorem code_ref16_Check (g0 g1 g2 g3 g4 : List D → Option (List D)) : ∀ cd, Try.f14.body = some cd → treeOf Try.prog [(ct_ref03_Valid, g0), (ct_ref06_Inst, g1), (ct_ref16_convert, g2), (ct_ref06_Type, g3), (ct_ref16_small, g4)] ann_ref16_Check ct_ref16_Check Try.f14 cd = tree_ref16_Check := by
  intro cd h
  injection h with h
  subst h
  kernel_rfl
theorem fok_ref16_Check {g0 g1 g2 g3 g4 : List D → Option (List D)} {g : List D → Option (List D)} (h0 : FOk ct_ref03_Valid g0) (h1 : FOk ct_ref06_Inst g1) (h2 : FOk ct_ref16_convert g2) (h3 : FOk ct_ref06_Type g3) (h4 : FOk ct_ref16_small g4) (h : ∀ ds outs, WfA ct_ref16_Check.ars ds → g ds = some outs → tree_ref16_Check.go (tblS [(ct_ref03_Valid, g0), (ct_ref06_Inst, g1), (ct_ref16_convert, g2), (ct_ref06_Type, g3), (ct_ref16_small, g4)]) (fun o => o = outs) ds fun _ _ => False) : FOk ct_ref16_Check g :=
  fok_of ann_ref16_Check Try.f14 _ (.cons h0 (.cons h1 (.cons h2 (.cons h3 (.cons h4 .nil))))) rfl rfl enter_ref16_Check (by decide) fun ds outs hw hg => by rw [code_ref16_Check g0 g1 g2 g3 g4 _ rfl]; exact h ds outs hw hg

def ct_law16_x : Ct := ⟨43, [.val (.int .i64)], [(.st 23, false)], [], none⟩
theorem enter_law16_x (args : Array Value) (w : World) : (callFunc ct_law16_x.f args).run Try.prog w = .ok (.enter ct_law16_x.f args) w := by kernel_rfl
def ann_law16_x : Ann := ⟨[0, 2], []⟩
def tree_law16_x : Tree := (.leaf [(.set (.lit (.a [(.i 0), (.i 0), (.s ⟨#[]⟩), (.r [])])) 1 (.tok 0))])
set_option maxRecDepth 100000 in
theorem code_law16_x : ∀ cd, Try.f43.body = some cd → treeOf Try.prog [] ann_law16_x ct_law16_x Try.f43 cd = tree_law16_x := by
  intro cd h
  injection h with h
  subst h
  kernel_rfl
theorem fok_law16_x {g : List D → Option (List D)}  (h : ∀ ds outs, WfA ct_law16_x.ars ds → g ds = some outs → tree_law16_x.go (tblS []) (fun o => o = outs) ds fun _ _ => False) : FOk ct_law16_x g :=
  fok_of ann_law16_x Try.f43 _ .nil rfl rfl enter_law16_x (by decide) fun ds outs hw hg => by rw [code_law16_x  _ rfl]; exact h ds outs hw hg

def ct_law16_a : Ct := ⟨44, [.val (.str)], [(.st 23, false)], [], none⟩
theorem enter_law16_a (args : Array Value) (w : World) : (callFunc ct_law16_a.f args).run Try.prog w = .ok (.enter ct_law16_a.f args) w := by kernel_rfl
def ann_law16_a : Ann := ⟨[0, 2], []⟩
def tree_law16_a : Tree := (.leaf [(.set (.set (.lit (.a [(.i 0), (.i 0), (.s ⟨#[]⟩), (.r [])])) 0 (.lit (.i 2))) 2 (.tok 0))])
set_option maxRecDepth 100000 in
theorem code_law16_a : ∀ cd, Try.f44.body = some cd → treeOf Try.prog [] ann_law16_a ct_law16_a Try.f44 cd = tree_law16_a := by
  intro cd h
  injection h with h
  subst h
  kernel_rfl
theorem fok_law16_a {g : List D → Option (List D)}  (h : ∀ ds outs, WfA ct_law16_a.ars ds → g ds = some outs → tree_law16_a.go (tblS []) (fun o => o = outs) ds fun _ _ => False) : FOk ct_law16_a g :=
  fok_of ann_law16_a Try.f44 _ .nil rfl rfl enter_law16_a (by decide) fun ds outs hw hg => by rw [code_law16_a  _ rfl]; exact h ds outs hw hg

def ct_law16_f : Ct := ⟨42, [.val (.str), .val (.row 24)], [(.st 23, false)], [], none⟩
theorem enter_law16_f (args : Array Value) (w : World) : (callFunc ct_law16_f.f args).run Try.prog w = .ok (.enter ct_law16_f.f args) w := by kernel_rfl
def ann_law16_f : Ann := ⟨[0, 1, 4], []⟩
def tree_law16_f : Tree := (.leaf [(.set (.set (.set (.lit (.a [(.i 0), (.i 0), (.s ⟨#[]⟩), (.r [])])) 0 (.lit (.i 3))) 2 (.tok 0)) 3 (.tok 1))])
set_option maxRecDepth 100000 in
theorem code_law16_f : ∀ cd, Try.f42.body = some cd → treeOf Try.prog [] ann_law16_f ct_law16_f Try.f42 cd = tree_law16_f := by
  intro cd h
  injection h with h
  subst h
  kernel_rfl
theorem fok_law16_f {g : List D → Option (List D)}  (h : ∀ ds outs, WfA ct_law16_f.ars ds → g ds = some outs → tree_law16_f.go (tblS []) (fun o => o = outs) ds fun _ _ => False) : FOk ct_law16_f g :=
  fok_of ann_law16_f Try.f42 _ .nil rfl rfl enter_law16_f (by decide) fun ds outs hw hg => by rw [code_law16_f  _ rfl]; exact h ds outs hw hg

def ct_law16_n : Ct := ⟨45, [.val (.int .i64)], [(.st 23, false)], [], none⟩
theorem enter_law16_n (args : Array Value) (w : World) : (callFunc ct_law16_n.f args).run Try.prog w = .ok (.enter ct_law16_n.f args) w := by kernel_rfl
def ann_law16_n : Ann := ⟨[0, 2], []⟩
def tree_law16_n : Tree := (.leaf [(.set (.set (.lit (.a [(.i 0), (.i 0), (.s ⟨#[]⟩), (.r [])])) 0 (.lit (.i 1))) 1 (.tok 0))])
set_option maxRecDepth 100000 in
theorem code_law16_n : ∀ cd, Try.f45.body = some cd → treeOf Try.prog [] ann_law16_n ct_law16_n Try.f45 cd = tree_law16_n := by
  intro cd h
  injection h with h
  subst h
  kernel_rfl
theorem fok_law16_n {g : List D → Option (List D)}  (h : ∀ ds outs, WfA ct_law16_n.ars ds → g ds = some outs → tree_law16_n.go (tblS []) (fun o => o = outs) ds fun _ _ => False) : FOk ct_law16_n g :=
  fok_of ann_law16_n Try.f45 _ .nil rfl rfl enter_law16_n (by decide) fun ds outs hw hg => by rw [code_law16_n  _ rfl]; exact h ds outs hw hg

def ct_body_fits : Ct := ⟨51, [.val (.st 34)], [(.bool, false)], [], none⟩
theorem enter_body_fits (args : Array Value) (w : World) : (callFunc ct_body_fits.f args).run Try.prog w = .ok (.enter ct_body_fits.f args) w := by kernel_rfl
def ann_body_fits : Ann := ⟨[0, 1, 2], []⟩
def tree_body_fits : Tree := (.need [(.ok 0 [(.fld (.tok 0) 1)]), (.rng .i64 (.add (.call 0 0 [(.fld (.tok 0) 0)]) (.call 0 0 [(.fld (.tok 0) 1)]))), (.ok 0 [(.fld (.tok 0) 0)])] (.leaf [(.le (.add (.call 0 0 [(.fld (.tok 0) 0)]) (.call 0 0 [(.fld (.tok 0) 1)])) (.lit (.i 2000)))]))
set_option maxRecDepth 100000 in
theorem code_body_fits (g0 : List D → Option (List D)) : ∀ cd, Try.f51.body = some cd → treeOf Try.prog [(ct_term_Size, g0)] ann_body_fits ct_body_fits Try.f51 cd = tree_body_fits := by
  intro cd h
  injection h with h
  subst h
  kernel_rfl
theorem fok_body_fits {g0 : List D → Option (List D)} {g : List D → Option (List D)} (h0 : FOk ct_term_Size g0) (h : ∀ ds outs, WfA ct_body_fits.ars ds → g ds = some outs → tree_body_fits.go (tblS [(ct_term_Size, g0)]) (fun o => o = outs) ds fun _ _ => False) : FOk ct_body_fits g :=
  fok_of ann_body_fits Try.f51 _ (.cons h0 .nil) rfl rfl enter_body_fits (by decide) fun ds outs hw hg => by rw [code_body_fits g0 _ rfl]; exact h ds outs hw hg

def ct_body_number : Ct := ⟨81, [.val (.st 23), .mref (.map 2 2)], [(.st 23, false)], [], none⟩
theorem enter_body_number (args : Array Value) (w : World) : (callFunc ct_body_number.f args).run Try.prog w = .ok (.enter ct_body_number.f args) w := by kernel_rfl
def ann_body_number : Ann := ⟨[0, 1, 2, 4, 5, 6, 7, 9, 19, 28, 38, 39, 40, 41], [(9, ⟨[(40, .int .i64, false), (1, .map 2 2, false)], [5], [41, 42, 43, 9, 44, 45, 46, 47, 48, 49, 50, 51, 52, 21, 29, 31], []⟩)]⟩
def tree_body_number : Tree := (.br (.eq (.fld (.tok 0) 0) (.lit (.i 0))) (.br (.not (.fn 1 [(.tok 1), (.fld (.tok 0) 1)])) (.need [(.rng .i64 (.fn 3 [(.tok 1)]))] (.loop 9 2 [(.lit (.i 0)), (.fn 2 [(.tok 1), (.fld (.tok 0) 1), (.fn 3 [(.tok 1)])]), (.set (.set (.set (.set (.lit (.a [(.i 0), (.i 0), (.s ⟨#[]⟩), (.r [])])) 0 (.fld (.tok 0) 0)) 1 (.fld (.tok 0) 1)) 2 (.fld (.tok 0) 2)) 1 (.fn 3 [(.tok 1)]))] (.br (.lt (.tok 2) (.len (.fld (.tok 0) 3))) (.need [(.le (.lit (.i 0)) (.tok 2)), (.lt (.tok 2) (.len (.fld (.tok 0) 3)))] (.need [(.ok 0 [(.get (.fld (.tok 0) 3) (.tok 2)), (.tok 3)]), (.le (.add (.len (.fld (.tok 4) 3)) (.lit (.i 1))) (.lit (.i 2513169434843)))] (.need [(.rng .i64 (.add (.tok 2) (.lit (.i 1))))] (.back 9 [(.add (.tok 2) (.lit (.i 1))), (.call 0 1 [(.get (.fld (.tok 0) 3) (.tok 2)), (.tok 3)]), (.set (.tok 4) 3 (.app (.fld (.tok 4) 3) (.row [(.call 0 0 [(.get (.fld (.tok 0) 3) (.tok 2)), (.tok 3)])])))])))) (.leaf [(.tok 4), (.tok 3)])))) (.loop 9 2 [(.lit (.i 0)), (.tok 1), (.set (.set (.set (.set (.lit (.a [(.i 0), (.i 0), (.s ⟨#[]⟩), (.r [])])) 0 (.fld (.tok 0) 0)) 1 (.fld (.tok 0) 1)) 2 (.fld (.tok 0) 2)) 1 (.fn 0 [(.tok 1), (.fld (.tok 0) 1), (.lit (.i 0))]))] (.br (.lt (.tok 2) (.len (.fld (.tok 0) 3))) (.need [(.le (.lit (.i 0)) (.tok 2)), (.lt (.tok 2) (.len (.fld (.tok 0) 3)))] (.need [(.ok 0 [(.get (.fld (.tok 0) 3) (.tok 2)), (.tok 3)]), (.le (.add (.len (.fld (.tok 4) 3)) (.lit (.i 1))) (.lit (.i 2513169434843)))] (.need [(.rng .i64 (.add (.tok 2) (.lit (.i 1))))] (.back 9 [(.add (.tok 2) (.lit (.i 1))), (.call 0 1 [(.get (.fld (.tok 0) 3) (.tok 2)), (.tok 3)]), (.set (.tok 4) 3 (.app (.fld (.tok 4) 3) (.row [(.call 0 0 [(.get (.fld (.tok 0) 3) (.tok 2)), (.tok 3)])])))])))) (.leaf [(.tok 4), (.tok 3)])))) (.loop 9 2 [(.lit (.i 0)), (.tok 1), (.set (.set (.set (.lit (.a [(.i 0), (.i 0), (.s ⟨#[]⟩), (.r [])])) 0 (.fld (.tok 0) 0)) 1 (.fld (.tok 0) 1)) 2 (.fld (.tok 0) 2))] (.br (.lt (.tok 2) (.len (.fld (.tok 0) 3))) (.need [(.le (.lit (.i 0)) (.tok 2)), (.lt (.tok 2) (.len (.fld (.tok 0) 3)))] (.need [(.ok 0 [(.get (.fld (.tok 0) 3) (.tok 2)), (.tok 3)]), (.le (.add (.len (.fld (.tok 4) 3)) (.lit (.i 1))) (.lit (.i 2513169434843)))] (.need [(.rng .i64 (.add (.tok 2) (.lit (.i 1))))] (.back 9 [(.add (.tok 2) (.lit (.i 1))), (.call 0 1 [(.get (.fld (.tok 0) 3) (.tok 2)), (.tok 3)]), (.set (.tok 4) 3 (.app (.fld (.tok 4) 3) (.row [(.call 0 0 [(.get (.fld (.tok 0) 3) (.tok 2)), (.tok 3)])])))])))) (.leaf [(.tok 4), (.tok 3)]))))
set_option maxRecDepth 100000 in
theorem code_body_number (g0 : List D → Option (List D)) : ∀ cd, Try.f81.body = some cd → treeOf Try.prog [(ct_body_number, g0)] ann_body_number ct_body_number Try.f81 cd = tree_body_number := by
  intro cd h
  injection h with h
  subst h
  kernel_rfl
theorem fok_body_number {g0 : List D → Option (List D)} {g : List D → Option (List D)} (h0 : FOk ct_body_number g0) (h : ∀ ds outs, WfA ct_body_number.ars ds → g ds = some outs → tree_body_number.go (tblS [(ct_body_number, g0)]) (fun o => o = outs) ds fun _ _ => False) : FOk ct_body_number g :=
  fok_of ann_body_number Try.f81 _ (.cons h0 .nil) rfl rfl enter_body_number (by decide) fun ds outs hw hg => by rw [code_body_number g0 _ rfl]; exact h ds outs hw hg

def ct_body_canonical : Ct := ⟨52, [.val (.st 34)], [(.st 34, true), (.int .i64, false)], [], none⟩
theorem enter_body_canonical (args : Array Value) (w : World) : (callFunc ct_body_canonical.f args).run Try.prog w = .ok (.enter ct_body_canonical.f args) w := by kernel_rfl
def ann_body_canonical : Ann := ⟨[0, 1, 2, 3, 4], []⟩
def tree_body_canonical : Tree := (.need [(.ok 0 [(.fld (.tok 0) 0), (.lit (.mp []))])] (.need [(.ok 0 [(.fld (.tok 0) 1), (.call 0 1 [(.fld (.tok 0) 0), (.lit (.mp []))])])] (.need [(.rng .i64 (.fn 3 [(.call 0 1 [(.fld (.tok 0) 1), (.call 0 1 [(.fld (.tok 0) 0), (.lit (.mp []))])])]))] (.leaf [(.set (.set (.lit (.a [(.a [(.i 0), (.i 0), (.s ⟨#[]⟩), (.r [])]), (.a [(.i 0), (.i 0), (.s ⟨#[]⟩), (.r [])])])) 0 (.call 0 0 [(.fld (.tok 0) 0), (.lit (.mp []))])) 1 (.call 0 0 [(.fld (.tok 0) 1), (.call 0 1 [(.fld (.tok 0) 0), (.lit (.mp []))])])), (.fn 3 [(.call 0 1 [(.fld (.tok 0) 1), (.call 0 1 [(.fld (.tok 0) 0), (.lit (.mp []))])])])]))))
set_option maxRecDepth 100000 in
theorem code_body_canonical (g0 : List D → Option (List D)) : ∀ cd, Try.f52.body = some cd → treeOf Try.prog [(ct_body_number, g0)] ann_body_canonical ct_body_canonical Try.f52 cd = tree_body_canonical := by
  intro cd h
  injection h with h
  subst h
  kernel_rfl
theorem fok_body_canonical {g0 : List D → Option (List D)} {g : List D → Option (List D)} (h0 : FOk ct_body_number g0) (h : ∀ ds outs, WfA ct_body_canonical.ars ds → g ds = some outs → tree_body_canonical.go (tblS [(ct_body_number, g0)]) (fun o => o = outs) ds fun _ _ => False) : FOk ct_body_canonical g :=
  fok_of ann_body_canonical Try.f52 _ (.cons h0 .nil) rfl rfl enter_body_canonical (by decide) fun ds outs hw hg => by rw [code_body_canonical g0 _ rfl]; exact h ds outs hw hg

def ct_body_Clause : Ct := ⟨20, [.val (.st 23)], [(.st 34, true), (.st 23, false), (.int .i64, false)], [], none⟩
theorem enter_body_Clause (args : Array Value) (w : World) : (callFunc ct_body_Clause.f args).run Try.prog w = .ok (.enter ct_body_Clause.f args) w := by kernel_rfl
def ann_body_Clause : Ann := ⟨[0, 1, 2, 3, 4, 5, 6, 7, 8, 9, 12, 30, 41, 46, 56, 65, 74], []⟩
def tree_body_Clause : Tree := (.need [(.ok 0 [(.tok 0)])] (.br (.not (.call 0 0 [(.tok 0)])) (.leaf [(.lit (.a [(.a [(.i 0), (.i 0), (.s ⟨#[]⟩), (.r [])]), (.a [(.i 0), (.i 0), (.s ⟨#[]⟩), (.r [])])])), (.lit (.a [(.i 0), (.i 0), (.s ⟨#[]⟩), (.r [])])), (.lit (.i 1))]) (.need [(.ok 1 [(.lit (.s ⟨#[116, 114, 117, 101]⟩))]), (.ok 1 [(.lit (.s ⟨#[116, 114, 117, 101]⟩))]), (.ok 1 [(.lit (.s ⟨#[116, 114, 117, 101]⟩))])] (.br (.and (.and (.eq (.fld (.tok 0) 0) (.lit (.i 3))) (.eq (.fld (.tok 0) 2) (.lit (.s ⟨#[58, 45]⟩)))) (.eq (.len (.fld (.tok 0) 3)) (.lit (.i 2)))) (.need [(.lit (.b .true)), (.lt (.lit (.i 1)) (.len (.fld (.tok 0) 3))), (.lit (.b .true)), (.lt (.lit (.i 0)) (.len (.fld (.tok 0) 3)))] (.br (.eq (.fld (.get (.fld (.tok 0) 3) (.lit (.i 0))) 0) (.lit (.i 0))) (.need [(.ok 2 [])] (.leaf [(.lit (.a [(.a [(.i 0), (.i 0), (.s ⟨#[]⟩), (.r [])]), (.a [(.i 0), (.i 0), (.s ⟨#[]⟩), (.r [])])])), (.call 2 0 []), (.lit (.i 8))])) (.need [(.ok 3 [(.get (.fld (.tok 0) 3) (.lit (.i 0)))])] (.br (.not (.call 3 0 [(.get (.fld (.tok 0) 3) (.lit (.i 0)))])) (.need [(.ok 4 [(.lit (.s ⟨#[99, 97, 108, 108, 97, 98, 108, 101]⟩)), (.get (.fld (.tok 0) 3) (.lit (.i 0)))])] (.leaf [(.lit (.a [(.a [(.i 0), (.i 0), (.s ⟨#[]⟩), (.r [])]), (.a [(.i 0), (.i 0), (.s ⟨#[]⟩), (.r [])])])), (.call 4 0 [(.lit (.s ⟨#[99, 97, 108, 108, 97, 98, 108, 101]⟩)), (.get (.fld (.tok 0) 3) (.lit (.i 0)))]), (.lit (.i 8))])) (.need [(.ok 5 [(.get (.fld (.tok 0) 3) (.lit (.i 1)))])] (.br (.not (.call 5 1 [(.get (.fld (.tok 0) 3) (.lit (.i 1)))])) (.need [(.ok 4 [(.lit (.s ⟨#[99, 97, 108, 108, 97, 98, 108, 101]⟩)), (.get (.fld (.tok 0) 3) (.lit (.i 1)))])] (.leaf [(.lit (.a [(.a [(.i 0), (.i 0), (.s ⟨#[]⟩), (.r [])]), (.a [(.i 0), (.i 0), (.s ⟨#[]⟩), (.r [])])])), (.call 4 0 [(.lit (.s ⟨#[99, 97, 108, 108, 97, 98, 108, 101]⟩)), (.get (.fld (.tok 0) 3) (.lit (.i 1)))]), (.lit (.i 8))])) (.need [(.ok 6 [(.mk [(.get (.fld (.tok 0) 3) (.lit (.i 0))), (.call 5 0 [(.get (.fld (.tok 0) 3) (.lit (.i 1)))])])])] (.br (.not (.call 6 0 [(.mk [(.get (.fld (.tok 0) 3) (.lit (.i 0))), (.call 5 0 [(.get (.fld (.tok 0) 3) (.lit (.i 1)))])])])) (.leaf [(.lit (.a [(.a [(.i 0), (.i 0), (.s ⟨#[]⟩), (.r [])]), (.a [(.i 0), (.i 0), (.s ⟨#[]⟩), (.r [])])])), (.lit (.a [(.i 0), (.i 0), (.s ⟨#[]⟩), (.r [])])), (.lit (.i 2))]) (.need [(.ok 7 [(.mk [(.get (.fld (.tok 0) 3) (.lit (.i 0))), (.call 5 0 [(.get (.fld (.tok 0) 3) (.lit (.i 1)))])])])] (.br (.lt (.lit (.i 64)) (.call 7 1 [(.mk [(.get (.fld (.tok 0) 3) (.lit (.i 0))), (.call 5 0 [(.get (.fld (.tok 0) 3) (.lit (.i 1)))])])])) (.leaf [(.lit (.a [(.a [(.i 0), (.i 0), (.s ⟨#[]⟩), (.r [])]), (.a [(.i 0), (.i 0), (.s ⟨#[]⟩), (.r [])])])), (.lit (.a [(.i 0), (.i 0), (.s ⟨#[]⟩), (.r [])])), (.lit (.i 2))]) (.leaf [(.call 7 0 [(.mk [(.get (.fld (.tok 0) 3) (.lit (.i 0))), (.call 5 0 [(.get (.fld (.tok 0) 3) (.lit (.i 1)))])])]), (.lit (.a [(.i 0), (.i 0), (.s ⟨#[]⟩), (.r [])])), (.lit (.i 0))]))))))))))) (.br (.eq (.fld (.tok 0) 0) (.lit (.i 0))) (.need [(.ok 2 [])] (.leaf [(.lit (.a [(.a [(.i 0), (.i 0), (.s ⟨#[]⟩), (.r [])]), (.a [(.i 0), (.i 0), (.s ⟨#[]⟩), (.r [])])])), (.call 2 0 []), (.lit (.i 8))])) (.need [(.ok 3 [(.tok 0)])] (.br (.not (.call 3 0 [(.tok 0)])) (.need [(.ok 4 [(.lit (.s ⟨#[99, 97, 108, 108, 97, 98, 108, 101]⟩)), (.tok 0)])] (.leaf [(.lit (.a [(.a [(.i 0), (.i 0), (.s ⟨#[]⟩), (.r [])]), (.a [(.i 0), (.i 0), (.s ⟨#[]⟩), (.r [])])])), (.call 4 0 [(.lit (.s ⟨#[99, 97, 108, 108, 97, 98, 108, 101]⟩)), (.tok 0)]), (.lit (.i 8))])) (.need [(.ok 5 [(.call 1 0 [(.lit (.s ⟨#[116, 114, 117, 101]⟩))])])] (.br (.not (.call 5 1 [(.call 1 0 [(.lit (.s ⟨#[116, 114, 117, 101]⟩))])])) (.need [(.ok 4 [(.lit (.s ⟨#[99, 97, 108, 108, 97, 98, 108, 101]⟩)), (.call 1 0 [(.lit (.s ⟨#[116, 114, 117, 101]⟩))])])] (.leaf [(.lit (.a [(.a [(.i 0), (.i 0), (.s ⟨#[]⟩), (.r [])]), (.a [(.i 0), (.i 0), (.s ⟨#[]⟩), (.r [])])])), (.call 4 0 [(.lit (.s ⟨#[99, 97, 108, 108, 97, 98, 108, 101]⟩)), (.call 1 0 [(.lit (.s ⟨#[116, 114, 117, 101]⟩))])]), (.lit (.i 8))])) (.need [(.ok 6 [(.mk [(.tok 0), (.call 5 0 [(.call 1 0 [(.lit (.s ⟨#[116, 114, 117, 101]⟩))])])])])] (.br (.not (.call 6 0 [(.mk [(.tok 0), (.call 5 0 [(.call 1 0 [(.lit (.s ⟨#[116, 114, 117, 101]⟩))])])])])) (.leaf [(.lit (.a [(.a [(.i 0), (.i 0), (.s ⟨#[]⟩), (.r [])]), (.a [(.i 0), (.i 0), (.s ⟨#[]⟩), (.r [])])])), (.lit (.a [(.i 0), (.i 0), (.s ⟨#[]⟩), (.r [])])), (.lit (.i 2))]) (.need [(.ok 7 [(.mk [(.tok 0), (.call 5 0 [(.call 1 0 [(.lit (.s ⟨#[116, 114, 117, 101]⟩))])])])])] (.br (.lt (.lit (.i 64)) (.call 7 1 [(.mk [(.tok 0), (.call 5 0 [(.call 1 0 [(.lit (.s ⟨#[116, 114, 117, 101]⟩))])])])])) (.leaf [(.lit (.a [(.a [(.i 0), (.i 0), (.s ⟨#[]⟩), (.r [])]), (.a [(.i 0), (.i 0), (.s ⟨#[]⟩), (.r [])])])), (.lit (.a [(.i 0), (.i 0), (.s ⟨#[]⟩), (.r [])])), (.lit (.i 2))]) (.leaf [(.call 7 0 [(.mk [(.tok 0), (.call 5 0 [(.call 1 0 [(.lit (.s ⟨#[116, 114, 117, 101]⟩))])])])]), (.lit (.a [(.i 0), (.i 0), (.s ⟨#[]⟩), (.r [])])), (.lit (.i 0))]))))))))))))))
set_option maxRecDepth 100000 in
theorem code_body_Clause (g0 g1 g2 g3 g4 g5 g6 g7 : List D → Option (List D)) : ∀ cd, Try.f20.body = some cd → treeOf Try.prog [(ct_term_Valid, g0), (ct_term_Atom, g1), (ct_balls_Inst, g2), (ct_body_callable, g3), (ct_balls_Type, g4), (ct_body_convert, g5), (ct_body_fits, g6), (ct_body_canonical, g7)] ann_body_Clause ct_body_Clause Try.f20 cd = tree_body_Clause := by
  intro cd h
  injection h with h
  subst h
  kernel_rfl
theorem fok_body_Clause {g0 g1 g2 g3 g4 g5 g6 g7 : List D → Option (List D)} {g : List D → Option (List D)} (h0 : FOk ct_term_Valid g0) (h1 : FOk ct_term_Atom g1) (h2 : FOk ct_balls_Inst g2) (h3 : FOk ct_body_callable g3) (h4 : FOk ct_balls_Type g4) (h5 : FOk ct_body_convert g5) (h6 : FOk ct_body_fits g6) (h7 : FOk ct_body_canonical g7) (h : ∀ ds outs, WfA ct_body_Clause.ars ds → g ds = some outs → tree_body_Clause.go (tblS [(ct_term_Valid, g0), (ct_term_Atom, g1), (ct_balls_Inst, g2), (ct_body_callable, g3), (ct_balls_Type, g4), (ct_body_convert, g5), (ct_body_fits, g6), (ct_body_canonical, g7)]) (fun o => o = outs) ds fun _ _ => False) : FOk ct_body_Clause g :=
  fok_of ann_body_Clause Try.f20 _ (.cons h0 (.cons h1 (.cons h2 (.cons h3 (.cons h4 (.cons h5 (.cons h6 (.cons h7 .nil)))))))) rfl rfl enter_body_Clause (by decide) fun ds outs hw hg => by rw [code_body_Clause g0 g1 g2 g3 g4 g5 g6 g7 _ rfl]; exact h ds outs hw hg

def ct_body_Add_1 : Ct := ⟨57, [.val (.st 23)], [(.bool, false)], [], none⟩
theorem enter_body_Add_1 (args : Array Value) (w : World) : (callFunc ct_body_Add_1.f args).run Try.prog w = .ok (.enter ct_body_Add_1.f args) w := by kernel_rfl
def ann_body_Add_1 : Ann := ⟨[0, 1, 2], []⟩
def tree_body_Add_1 : Tree := (.need [(.ok 0 [(.tok 0)])] (.leaf [(.not (.call 0 0 [(.tok 0)]))]))
set_option maxRecDepth 100000 in
theorem code_body_Add_1 (g0 : List D → Option (List D)) : ∀ cd, Try.f57.body = some cd → treeOf Try.prog [(ct_term_Valid, g0)] ann_body_Add_1 ct_body_Add_1 Try.f57 cd = tree_body_Add_1 := by
  intro cd h
  injection h with h
  subst h
  kernel_rfl
theorem fok_body_Add_1 {g0 : List D → Option (List D)} {g : List D → Option (List D)} (h0 : FOk ct_term_Valid g0) (h : ∀ ds outs, WfA ct_body_Add_1.ars ds → g ds = some outs → tree_body_Add_1.go (tblS [(ct_term_Valid, g0)]) (fun o => o = outs) ds fun _ _ => False) : FOk ct_body_Add_1 g :=
  fok_of ann_body_Add_1 Try.f57 _ (.cons h0 .nil) rfl rfl enter_body_Add_1 (by decide) fun ds outs hw hg => by rw [code_body_Add_1 g0 _ rfl]; exact h ds outs hw hg

def ct_slices_IndexFunc_Term : Ct := ⟨83, [.val (.row 24), .fn 57 []], [(.int .i64, false)], [], none⟩
theorem enter_slices_IndexFunc_Term (args : Array Value) (w : World) : (callFunc ct_slices_IndexFunc_Term.f args).run Try.prog w = .ok (.enter ct_slices_IndexFunc_Term.f args) w := by kernel_rfl
def ann_slices_IndexFunc_Term : Ann := ⟨[0, 1, 4, 5, 7, 8, 9, 16], [(2, ⟨[(4, .int .i64, false), (8, .int .i64, false)], [], [9, 10, 5, 11, 12, 13, 14, 15, 16, 17, 18], []⟩)]⟩
def tree_slices_IndexFunc_Term : Tree := (.loop 2 1 [(.lit (.i 0)), (.lit (.i 0))] (.br (.lt (.tok 2) (.len (.tok 0))) (.need [(.le (.lit (.i 0)) (.tok 2)), (.lt (.tok 2) (.len (.tok 0))), (.ok 0 [(.get (.tok 0) (.tok 2))])] (.br (.call 0 0 [(.get (.tok 0) (.tok 2))]) (.leaf [(.tok 2)]) (.need [(.rng .i64 (.add (.tok 2) (.lit (.i 1))))] (.back 2 [(.tok 1), (.add (.tok 2) (.lit (.i 1)))])))) (.leaf [(.lit (.i (-1)))])))
set_option maxRecDepth 100000 in
theorem code_slices_IndexFunc_Term (g0 : List D → Option (List D)) : ∀ cd, Try.f83.body = some cd → treeOf Try.prog [(ct_body_Add_1, g0)] ann_slices_IndexFunc_Term ct_slices_IndexFunc_Term Try.f83 cd = tree_slices_IndexFunc_Term := by
  intro cd h
  injection h with h
  subst h
  kernel_rfl
theorem fok_slices_IndexFunc_Term {g0 : List D → Option (List D)} {g : List D → Option (List D)} (h0 : FOk ct_body_Add_1 g0) (h : ∀ ds outs, WfA ct_slices_IndexFunc_Term.ars ds → g ds = some outs → tree_slices_IndexFunc_Term.go (tblS [(ct_body_Add_1, g0)]) (fun o => o = outs) ds fun _ _ => False) : FOk ct_slices_IndexFunc_Term g :=
  fok_of ann_slices_IndexFunc_Term Try.f83 _ (.cons h0 .nil) rfl rfl enter_slices_IndexFunc_Term (by decide) fun ds outs hw hg => by rw [code_slices_IndexFunc_Term g0 _ rfl]; exact h ds outs hw hg

def ct_slices_ContainsFunc_Term : Ct := ⟨56, [.val (.row 24), .fn 57 []], [(.bool, false)], [], none⟩
theorem enter_slices_ContainsFunc_Term (args : Array Value) (w : World) : (callFunc ct_slices_ContainsFunc_Term.f args).run Try.prog w = .ok (.enter ct_slices_ContainsFunc_Term.f args) w := by kernel_rfl
def ann_slices_ContainsFunc_Term : Ann := ⟨[0, 1, 4], []⟩
def tree_slices_ContainsFunc_Term : Tree := (.need [(.ok 1 [(.tok 0)])] (.leaf [(.le (.lit (.i 0)) (.call 1 0 [(.tok 0)]))]))
set_option maxRecDepth 100000 in
theorem code_slices_ContainsFunc_Term (g0 g1 : List D → Option (List D)) : ∀ cd, Try.f56.body = some cd → treeOf Try.prog [(ct_body_Add_1, g0), (ct_slices_IndexFunc_Term, g1)] ann_slices_ContainsFunc_Term ct_slices_ContainsFunc_Term Try.f56 cd = tree_slices_ContainsFunc_Term := by
  intro cd h
  injection h with h
  subst h
  kernel_rfl
theorem fok_slices_ContainsFunc_Term {g0 g1 : List D → Option (List D)} {g : List D → Option (List D)} (h0 : FOk ct_body_Add_1 g0) (h1 : FOk ct_slices_IndexFunc_Term g1) (h : ∀ ds outs, WfA ct_slices_ContainsFunc_Term.ars ds → g ds = some outs → tree_slices_ContainsFunc_Term.go (tblS [(ct_body_Add_1, g0), (ct_slices_IndexFunc_Term, g1)]) (fun o => o = outs) ds fun _ _ => False) : FOk ct_slices_ContainsFunc_Term g :=
  fok_of ann_slices_ContainsFunc_Term Try.f56 _ (.cons h0 (.cons h1 .nil)) rfl rfl enter_slices_ContainsFunc_Term (by decide) fun ds outs hw hg => by rw [code_slices_ContainsFunc_Term g0 g1 _ rfl]; exact h ds outs hw hg

def ct_slices_Grow_Term : Ct := ⟨86, [.nils, .val (.int .i64)], [(.row 24, true)], [], none⟩
theorem enter_slices_Grow_Term (args : Array Value) (w : World) : (callFunc ct_slices_Grow_Term.f args).run Try.prog w = .ok (.enter ct_slices_Grow_Term.f args) w := by kernel_rfl
def ann_slices_Grow_Term : Ann := ⟨[0, 1, 4, 6, 16], []⟩
def tree_slices_Grow_Term : Tree := (.br (.lt (.tok 0) (.lit (.i 0))) (.bad 2000) (.need [(.rng .i64 (.lit (.i 0))), (.rng .i64 (.sub (.tok 0) (.lit (.i 0))))] (.br (.lt (.lit (.i 0)) (.sub (.tok 0) (.lit (.i 0)))) (.need [(.le (.lit (.i 0)) (.sub (.tok 0) (.lit (.i 0)))), (.le (.sub (.tok 0) (.lit (.i 0))) (.lit (.i 16777216))), (.le (.add (.lit (.i 0)) (.sub (.tok 0) (.lit (.i 0)))) (.lit (.i 2513169434843))), (.lit (.b .true)), (.le (.lit (.i 0)) (.len (.app (.lit (.r [])) (.rep (.sub (.tok 0) (.lit (.i 0))) (.lit (.a [(.i 0), (.i 0), (.s ⟨#[]⟩), (.r [])]))))))] (.leaf [(.cut (.app (.lit (.r [])) (.rep (.sub (.tok 0) (.lit (.i 0))) (.lit (.a [(.i 0), (.i 0), (.s ⟨#[]⟩), (.r [])])))) (.lit (.i 0)) (.lit (.i 0)))])) (.leaf [(.lit (.r []))]))))
set_option maxRecDepth 100000 in
theorem code_slices_Grow_Term : ∀ cd, Try.f86.body = some cd → treeOf Try.prog [] ann_slices_Grow_Term ct_slices_Grow_Term Try.f86 cd = tree_slices_Grow_Term := by
  intro cd h
  injection h with h
  subst h
  kernel_rfl
theorem fok_slices_Grow_Term {g : List D → Option (List D)}  (h : ∀ ds outs, WfA ct_slices_Grow_Term.ars ds → g ds = some outs → tree_slices_Grow_Term.go (tblS []) (fun o => o = outs) ds fun _ _ => False) : FOk ct_slices_Grow_Term g :=
  fok_of ann_slices_Grow_Term Try.f86 _ .nil rfl rfl enter_slices_Grow_Term (by decide) fun ds outs hw hg => by rw [code_slices_Grow_Term  _ rfl]; exact h ds outs hw hg

def ct_slices_Concat_Term : Ct := ⟨60, [.val (.row 22)], [(.row 24, false)], [], none⟩
theorem enter_slices_Concat_Term (args : Array Value) (w : World) : (callFunc ct_slices_Concat_Term.f args).run Try.prog w = .ok (.enter ct_slices_Concat_Term.f args) w := by kernel_rfl
def ann_slices_Concat_Term : Ann := ⟨[0, 2, 3, 5, 6, 8, 9, 10, 11, 12, 20, 25, 26, 27, 28], [(3, ⟨[(3, .int .i64, false), (11, .int .i64, false)], [], [12, 13, 14, 5, 15, 16, 17, 18, 19, 20, 21, 22], []⟩),
  (11, ⟨[(6, .row 24, false), (27, .int .i64, false)], [], [28, 29, 30, 8, 31, 32, 33, 34], []⟩)]⟩
def tree_slices_Concat_Term : Tree := (.loop 3 1 [(.lit (.i 0)), (.lit (.i 0))] (.br (.lt (.tok 2) (.len (.tok 0))) (.need [(.le (.lit (.i 0)) (.tok 2)), (.lt (.tok 2) (.len (.tok 0)))] (.need [(.rng .i64 (.add (.tok 1) (.len (.get (.tok 0) (.tok 2)))))] (.br (.lt (.add (.tok 1) (.len (.get (.tok 0) (.tok 2)))) (.lit (.i 0))) (.bad 7000) (.need [(.rng .i64 (.add (.tok 2) (.lit (.i 1))))] (.back 3 [(.add (.tok 1) (.len (.get (.tok 0) (.tok 2)))), (.add (.tok 2) (.lit (.i 1)))]))))) (.need [(.ok 0 [(.tok 1)])] (.loop 11 3 [(.call 0 0 [(.tok 1)]), (.lit (.i 0))] (.br (.lt (.tok 4) (.len (.tok 0))) (.need [(.le (.lit (.i 0)) (.tok 4)), (.lt (.tok 4) (.len (.tok 0)))] (.need [(.le (.add (.len (.tok 3)) (.len (.get (.tok 0) (.tok 4)))) (.lit (.i 2513169434843)))] (.need [(.rng .i64 (.add (.tok 4) (.lit (.i 1))))] (.back 11 [(.app (.tok 3) (.get (.tok 0) (.tok 4))), (.add (.tok 4) (.lit (.i 1)))])))) (.leaf [(.tok 3)]))))))
set_option maxRecDepth 100000 in
theorem code_slices_Concat_Term (g0 : List D → Option (List D)) : ∀ cd, Try.f60.body = some cd → treeOf Try.prog [(ct_slices_Grow_Term, g0)] ann_slices_Concat_Term ct_slices_Concat_Term Try.f60 cd = tree_slices_Concat_Term := by
  intro cd h
  injection h with h
  subst h
  kernel_rfl
theorem fok_slices_Concat_Term {g0 : List D → Option (List D)} {g : List D → Option (List D)} (h0 : FOk ct_slices_Grow_Term g0) (h : ∀ ds outs, WfA ct_slices_Concat_Term.ars ds → g ds = some outs → tree_slices_Concat_Term.go (tblS [(ct_slices_Grow_Term, g0)]) (fun o => o = outs) ds fun _ _ => False) : FOk ct_slices_Concat_Term g :=
  fok_of ann_slices_Concat_Term Try.f60 _ (.cons h0 .nil) rfl rfl enter_slices_Concat_Term (by decide) fun ds outs hw hg => by rw [code_slices_Concat_Term g0 _ rfl]; exact h ds outs hw hg

def ct_body_Add : Ct := ⟨23, [.val (.st 23), .val (.row 24)], [(.st 23, false), (.st 23, false), (.int .i64, false)], [], none⟩
theorem enter_body_Add (args : Array Value) (w : World) : (callFunc ct_body_Add.f args).run Try.prog w = .ok (.enter ct_body_Add.f args) w := by kernel_rfl
def ann_body_Add : Ann := ⟨[0, 1, 2, 4, 5, 6, 7, 9, 16, 19, 26, 32, 39, 51, 52, 53, 54, 63], [(13, ⟨[(7, .int .i64, false), (53, .int .i64, false)], [], [54, 55, 56, 9, 57, 58, 59, 60, 61], []⟩)]⟩
def tree_body_Add : Tree := (.need [(.ok 0 [(.tok 0)]), (.imp (.not (.not (.call 0 0 [(.tok 0)]))) (.ok 1 [(.tok 1)]))] (.br (.or (.not (.call 0 0 [(.tok 0)])) (.call 1 0 [(.tok 1)])) (.leaf [(.lit (.a [(.i 0), (.i 0), (.s ⟨#[]⟩), (.r [])])), (.lit (.a [(.i 0), (.i 0), (.s ⟨#[]⟩), (.r [])])), (.lit (.i 1))]) (.br (.eq (.len (.tok 1)) (.lit (.i 0))) (.need [(.ok 2 [(.tok 0)])] (.leaf [(.call 2 0 [(.tok 0)]), (.lit (.a [(.i 0), (.i 0), (.s ⟨#[]⟩), (.r [])])), (.lit (.i 0))])) (.br (.eq (.fld (.tok 0) 0) (.lit (.i 0))) (.need [(.ok 3 [])] (.leaf [(.lit (.a [(.i 0), (.i 0), (.s ⟨#[]⟩), (.r [])])), (.call 3 0 []), (.lit (.i 8))])) (.need [(.ok 4 [(.tok 0)])] (.br (.not (.call 4 0 [(.tok 0)])) (.need [(.ok 5 [(.lit (.s ⟨#[99, 97, 108, 108, 97, 98, 108, 101]⟩)), (.tok 0)])] (.leaf [(.lit (.a [(.i 0), (.i 0), (.s ⟨#[]⟩), (.r [])])), (.call 5 0 [(.lit (.s ⟨#[99, 97, 108, 108, 97, 98, 108, 101]⟩)), (.tok 0)]), (.lit (.i 8))])) (.need [(.rng .i64 (.sub (.lit (.i 8)) (.len (.fld (.tok 0) 3))))] (.br (.lt (.sub (.lit (.i 8)) (.len (.fld (.tok 0) 3))) (.len (.tok 1))) (.leaf [(.lit (.a [(.i 0), (.i 0), (.s ⟨#[]⟩), (.r [])])), (.lit (.a [(.i 0), (.i 0), (.s ⟨#[]⟩), (.r [])])), (.lit (.i 2))]) (.need [(.ok 6 [(.tok 0)])] (.loop 13 2 [(.call 6 0 [(.tok 0)]), (.lit (.i 0))] (.br (.lt (.tok 3) (.len (.tok 1))) (.need [(.le (.lit (.i 0)) (.tok 3)), (.lt (.tok 3) (.len (.tok 1)))] (.need [(.ok 6 [(.get (.tok 1) (.tok 3))]), (.rng .i64 (.add (.tok 2) (.call 6 0 [(.get (.tok 1) (.tok 3))])))] (.need [(.rng .i64 (.add (.tok 3) (.lit (.i 1))))] (.back 13 [(.add (.tok 2) (.call 6 0 [(.get (.tok 1) (.tok 3))])), (.add (.tok 3) (.lit (.i 1)))])))) (.br (.lt (.lit (.i 2000)) (.tok 2)) (.leaf [(.lit (.a [(.i 0), (.i 0), (.s ⟨#[]⟩), (.r [])])), (.lit (.a [(.i 0), (.i 0), (.s ⟨#[]⟩), (.r [])])), (.lit (.i 2))]) (.need [(.ok 8 [(.fld (.tok 0) 2), (.call 7 0 [(.row [(.fld (.tok 0) 3), (.tok 1)])])]), (.ok 8 [(.fld (.tok 0) 2), (.call 7 0 [(.row [(.fld (.tok 0) 3), (.tok 1)])])]), (.ok 7 [(.row [(.fld (.tok 0) 3), (.tok 1)])])] (.leaf [(.call 8 0 [(.fld (.tok 0) 2), (.call 7 0 [(.row [(.fld (.tok 0) 3), (.tok 1)])])]), (.lit (.a [(.i 0), (.i 0), (.s ⟨#[]⟩), (.r [])])), (.lit (.i 0))]))))))))))))))
set_option maxRecDepth 100000 in
theorem code_body_Add (g0 g1 g2 g3 g4 g5 g6 g7 g8 : List D → Option (List D)) : ∀ cd, Try.f23.body = some cd → treeOf Try.prog [(ct_term_Valid, g0), (ct_slices_ContainsFunc_Term, g1), (ct_term_Clone, g2), (ct_balls_Inst, g3), (ct_body_callable, g4), (ct_balls_Type, g5), (ct_term_Size, g6), (ct_slices_Concat_Term, g7), (ct_term_Struct, g8)] ann_body_Add ct_body_Add Try.f23 cd = tree_body_Add := by
  intro cd h
  injection h with h
  subst h
  kernel_rfl
theorem fok_body_Add {g0 g1 g2 g3 g4 g5 g6 g7 g8 : List D → Option (List D)} {g : List D → Option (List D)} (h0 : FOk ct_term_Valid g0) (h1 : FOk ct_slices_ContainsFunc_Term g1) (h2 : FOk ct_term_Clone g2) (h3 : FOk ct_balls_Inst g3) (h4 : FOk ct_body_callable g4) (h5 : FOk ct_balls_Type g5) (h6 : FOk ct_term_Size g6) (h7 : FOk ct_slices_Concat_Term g7) (h8 : FOk ct_term_Struct g8) (h : ∀ ds outs, WfA ct_body_Add.ars ds → g ds = some outs → tree_body_Add.go (tblS [(ct_term_Valid, g0), (ct_slices_ContainsFunc_Term, g1), (ct_term_Clone, g2), (ct_balls_Inst, g3), (ct_body_callable, g4), (ct_balls_Type, g5), (ct_term_Size, g6), (ct_slices_Concat_Term, g7), (ct_term_Struct, g8)]) (fun o => o = outs) ds fun _ _ => False) : FOk ct_body_Add g :=
  fok_of ann_body_Add Try.f23 _ (.cons h0 (.cons h1 (.cons h2 (.cons h3 (.cons h4 (.cons h5 (.cons h6 (.cons h7 (.cons h8 .nil))))))))) rfl rfl enter_body_Add (by decide) fun ds outs hw hg => by rw [code_body_Add g0 g1 g2 g3 g4 g5 g6 g7 g8 _ rfl]; exact h ds outs hw hg

def ct_body_cuts : Ct := ⟨46, [.val (.st 23)], [(.bool, false)], [], none⟩
theorem enter_body_cuts (args : Array Value) (w : World) : (callFunc ct_body_cuts.f args).run Try.prog w = .ok (.enter ct_body_cuts.f args) w := by kernel_rfl
def ann_body_cuts : Ann := ⟨[0, 1, 2, 3, 10, 14], []⟩
def tree_body_cuts : Tree := (.br (.eq (.fld (.tok 0) 0) (.lit (.i 2))) (.leaf [(.eq (.fld (.tok 0) 2) (.lit (.s ⟨#[33]⟩)))]) (.need [(.ok 0 [(.tok 0)])] (.br (.not (.call 0 0 [(.tok 0)])) (.leaf [(.lit (.b .false))]) (.br (.eq (.fld (.tok 0) 2) (.lit (.s ⟨#[45, 62]⟩))) (.need [(.lit (.b .true)), (.lt (.lit (.i 1)) (.len (.fld (.tok 0) 3))), (.ok 1 [(.get (.fld (.tok 0) 3) (.lit (.i 1)))])] (.leaf [(.call 1 0 [(.get (.fld (.tok 0) 3) (.lit (.i 1)))])])) (.need [(.lit (.b .true)), (.lt (.lit (.i 0)) (.len (.fld (.tok 0) 3))), (.ok 1 [(.get (.fld (.tok 0) 3) (.lit (.i 0)))]), (.imp (.not (.call 1 0 [(.get (.fld (.tok 0) 3) (.lit (.i 0)))])) (.lit (.b .true))), (.imp (.not (.call 1 0 [(.get (.fld (.tok 0) 3) (.lit (.i 0)))])) (.lt (.lit (.i 1)) (.len (.fld (.tok 0) 3)))), (.imp (.not (.call 1 0 [(.get (.fld (.tok 0) 3) (.lit (.i 0)))])) (.ok 1 [(.get (.fld (.tok 0) 3) (.lit (.i 1)))]))] (.leaf [(.or (.call 1 0 [(.get (.fld (.tok 0) 3) (.lit (.i 0)))]) (.call 1 0 [(.get (.fld (.tok 0) 3) (.lit (.i 1)))]))]))))))
set_option maxRecDepth 100000 in
theorem code_body_cuts (g0 g1 : List D → Option (List D)) : ∀ cd, Try.f46.body = some cd → treeOf Try.prog [(ct_body_branch, g0), (ct_body_cuts, g1)] ann_body_cuts ct_body_cuts Try.f46 cd = tree_body_cuts := by
  intro cd h
  injection h with h
  subst h
  kernel_rfl
theorem fok_body_cuts {g0 g1 : List D → Option (List D)} {g : List D → Option (List D)} (h0 : FOk ct_body_branch g0) (h1 : FOk ct_body_cuts g1) (h : ∀ ds outs, WfA ct_body_cuts.ars ds → g ds = some outs → tree_body_cuts.go (tblS [(ct_body_branch, g0), (ct_body_cuts, g1)]) (fun o => o = outs) ds fun _ _ => False) : FOk ct_body_cuts g :=
  fok_of ann_body_cuts Try.f46 _ (.cons h0 (.cons h1 .nil)) rfl rfl enter_body_cuts (by decide) fun ds outs hw hg => by rw [code_body_cuts g0 g1 _ rfl]; exact h ds outs hw hg

def ct_body_Cuts : Ct := ⟨16, [.val (.st 23)], [(.bool, false)], [], none⟩
theorem enter_body_Cuts (args : Array Value) (w : World) : (callFunc ct_body_Cuts.f args).run Try.prog w = .ok (.enter ct_body_Cuts.f args) w := by kernel_rfl
def ann_body_Cuts : Ann := ⟨[0, 1, 2], []⟩
def tree_body_Cuts : Tree := (.need [(.ok 0 [(.tok 0)]), (.imp (.call 0 0 [(.tok 0)]) (.ok 1 [(.tok 0)]))] (.leaf [(.and (.call 0 0 [(.tok 0)]) (.call 1 0 [(.tok 0)]))]))
set_option maxRecDepth 100000 in
theorem code_body_Cuts (g0 g1 : List D → Option (List D)) : ∀ cd, Try.f16.body = some cd → treeOf Try.prog [(ct_term_Valid, g0), (ct_body_cuts, g1)] ann_body_Cuts ct_body_Cuts Try.f16 cd = tree_body_Cuts := by
  intro cd h
  injection h with h
  subst h
  kernel_rfl
theorem fok_body_Cuts {g0 g1 : List D → Option (List D)} {g : List D → Option (List D)} (h0 : FOk ct_term_Valid g0) (h1 : FOk ct_body_cuts g1) (h : ∀ ds outs, WfA ct_body_Cuts.ars ds → g ds = some outs → tree_body_Cuts.go (tblS [(ct_term_Valid, g0), (ct_body_cuts, g1)]) (fun o => o = outs) ds fun _ _ => False) : FOk ct_body_Cuts g :=
  fok_of ann_body_Cuts Try.f16 _ (.cons h0 (.cons h1 .nil)) rfl rfl enter_body_Cuts (by decide) fun ds outs hw hg => by rw [code_body_Cuts g0 g1 _ rfl]; exact h ds outs hw hg

def ct_slices_Index_construct : Ct := ⟨80, [.val (.row 56), .val (.st 55)], [(.int .i64, false)], [], none⟩
theorem enter_slices_Index_construct (args : Array Value) (w : World) : (callFunc ct_slices_Index_construct.f args).run Try.prog w = .ok (.enter ct_slices_Index_construct.f args) w := by kernel_rfl
def ann_slices_Index_construct : Ann := ⟨[0, 1, 3, 4, 5, 7, 8, 9, 16], [(2, ⟨[(4, .int .i64, false), (8, .int .i64, false)], [], [9, 10, 5, 11, 12, 13, 14, 15, 16, 17, 18], []⟩)]⟩
def tree_slices_Index_construct : Tree := (.loop 2 2 [(.lit (.i 0)), (.lit (.i 0))] (.br (.lt (.tok 3) (.len (.tok 0))) (.need [(.le (.lit (.i 0)) (.tok 3)), (.lt (.tok 3) (.len (.tok 0)))] (.br (.eq (.tok 1) (.get (.tok 0) (.tok 3))) (.leaf [(.tok 3)]) (.need [(.rng .i64 (.add (.tok 3) (.lit (.i 1))))] (.back 2 [(.tok 2), (.add (.tok 3) (.lit (.i 1)))])))) (.leaf [(.lit (.i (-1)))])))
set_option maxRecDepth 100000 in
theorem code_slices_Index_construct : ∀ cd, Try.f80.body = some cd → treeOf Try.prog [] ann_slices_Index_construct ct_slices_Index_construct Try.f80 cd = tree_slices_Index_construct := by
  intro cd h
  injection h with h
  subst h
  kernel_rfl
theorem fok_slices_Index_construct {g : List D → Option (List D)}  (h : ∀ ds outs, WfA ct_slices_Index_construct.ars ds → g ds = some outs → tree_slices_Index_construct.go (tblS []) (fun o => o = outs) ds fun _ _ => False) : FOk ct_slices_Index_construct g :=
  fok_of ann_slices_Index_construct Try.f80 _ .nil rfl rfl enter_slices_Index_construct (by decide) fun ds outs hw hg => by rw [code_slices_Index_construct  _ rfl]; exact h ds outs hw hg

def ct_slices_Contains_construct : Ct := ⟨48, [.val (.row 56), .val (.st 55)], [(.bool, false)], [], none⟩
theorem enter_slices_Contains_construct (args : Array Value) (w : World) : (callFunc ct_slices_Contains_construct.f args).run Try.prog w = .ok (.enter ct_slices_Contains_construct.f args) w := by kernel_rfl
def ann_slices_Contains_construct : Ann := ⟨[0, 1, 3, 4], []⟩
def tree_slices_Contains_construct : Tree := (.need [(.ok 0 [(.tok 0), (.tok 1)])] (.leaf [(.le (.lit (.i 0)) (.call 0 0 [(.tok 0), (.tok 1)]))]))
set_option maxRecDepth 100000 in
theorem code_slices_Contains_construct (g0 : List D → Option (List D)) : ∀ cd, Try.f48.body = some cd → treeOf Try.prog [(ct_slices_Index_construct, g0)] ann_slices_Contains_construct ct_slices_Contains_construct Try.f48 cd = tree_slices_Contains_construct := by
  intro cd h
  injection h with h
  subst h
  kernel_rfl
theorem fok_slices_Contains_construct {g0 : List D → Option (List D)} {g : List D → Option (List D)} (h0 : FOk ct_slices_Index_construct g0) (h : ∀ ds outs, WfA ct_slices_Contains_construct.ars ds → g ds = some outs → tree_slices_Contains_construct.go (tblS [(ct_slices_Index_construct, g0)]) (fun o => o = outs) ds fun _ _ => False) : FOk ct_slices_Contains_construct g :=
  fok_of ann_slices_Contains_construct Try.f48 _ (.cons h0 .nil) rfl rfl enter_slices_Contains_construct (by decide) fun ds outs hw hg => by rw [code_slices_Contains_construct g0 _ rfl]; exact h ds outs hw hg

def ct_body_Control : Ct := ⟨18, [.val (.str), .val (.int .i64)], [(.bool, false)], [], none⟩
theorem enter_body_Control (args : Array Value) (w : World) : (callFunc ct_body_Control.f args).run Try.prog w = .ok (.enter ct_body_Control.f args) w := by kernel_rfl
def ann_body_Control : Ann := ⟨[0, 1, 4, 5], []⟩
def tree_body_Control : Tree := (.need [(.ok 0 [(.row [(.mk [(.lit (.s ⟨#[116, 114, 117, 101]⟩)), (.lit (.i 0))]), (.mk [(.lit (.s ⟨#[102, 97, 105, 108]⟩)), (.lit (.i 0))]), (.mk [(.lit (.s ⟨#[33]⟩)), (.lit (.i 0))]), (.mk [(.lit (.s ⟨#[44]⟩)), (.lit (.i 2))]), (.mk [(.lit (.s ⟨#[59]⟩)), (.lit (.i 2))]), (.mk [(.lit (.s ⟨#[45, 62]⟩)), (.lit (.i 2))]), (.mk [(.lit (.s ⟨#[92, 43]⟩)), (.lit (.i 1))]), (.mk [(.lit (.s ⟨#[111, 110, 99, 101]⟩)), (.lit (.i 1))])]), (.mk [(.tok 0), (.tok 1)])])] (.leaf [(.call 0 0 [(.row [(.mk [(.lit (.s ⟨#[116, 114, 117, 101]⟩)), (.lit (.i 0))]), (.mk [(.lit (.s ⟨#[102, 97, 105, 108]⟩)), (.lit (.i 0))]), (.mk [(.lit (.s ⟨#[33]⟩)), (.lit (.i 0))]), (.mk [(.lit (.s ⟨#[44]⟩)), (.lit (.i 2))]), (.mk [(.lit (.s ⟨#[59]⟩)), (.lit (.i 2))]), (.mk [(.lit (.s ⟨#[45, 62]⟩)), (.lit (.i 2))]), (.mk [(.lit (.s ⟨#[92, 43]⟩)), (.lit (.i 1))]), (.mk [(.lit (.s ⟨#[111, 110, 99, 101]⟩)), (.lit (.i 1))])]), (.mk [(.tok 0), (.tok 1)])])]))
set_option maxRecDepth 100000 in
theorem code_body_Control (g0 : List D → Option (List D)) : ∀ cd, Try.f18.body = some cd → treeOf Try.prog [(ct_slices_Contains_construct, g0)] ann_body_Control ct_body_Control Try.f18 cd = tree_body_Control := by
  intro cd h
  injection h with h
  subst h
  kernel_rfl
theorem fok_body_Control {g0 : List D → Option (List D)} {g : List D → Option (List D)} (h0 : FOk ct_slices_Contains_construct g0) (h : ∀ ds outs, WfA ct_body_Control.ars ds → g ds = some outs → tree_body_Control.go (tblS [(ct_slices_Contains_construct, g0)]) (fun o => o = outs) ds fun _ _ => False) : FOk ct_body_Control g :=
  fok_of ann_body_Control Try.f18 _ (.cons h0 .nil) rfl rfl enter_body_Control (by decide) fun ds outs hw hg => by rw [code_body_Control g0 _ rfl]; exact h ds outs hw hg

def ct_law16_BodyGoals : Ct := ⟨3, [.val (.st 23)], [(.bool, false)], [], none⟩
theorem enter_law16_BodyGoals (args : Array Value) (w : World) : (callFunc ct_law16_BodyGoals.f args).run Try.prog w = .ok (.enter ct_law16_BodyGoals.f args) w := by kernel_rfl
def ct_law16_awake : Ct := ⟨15, [], [(.bool, false)], [], none⟩
theorem enter_law16_awake (args : Array Value) (w : World) : (callFunc ct_law16_awake.f args).run Try.prog w = .ok (.enter ct_law16_awake.f args) w := by kernel_rfl
def ann_law16_BodyGoals : Ann := ⟨[0, 1, 2, 3, 4, 5, 6, 7, 8, 9, 10, 11, 12, 31], []⟩
def tree_law16_BodyGoals : Tree := (.need [(.ok 0 [(.tok 0)])] (.need [(.ok 1 [(.tok 0)])] (.need [(.imp (.not (.not (.eq (.call 0 1 [(.tok 0)]) (.call 1 1 [(.tok 0)])))) (.ok 2 [(.call 0 0 [(.tok 0)]), (.call 1 0 [(.tok 0)])]))] (.br (.or (.not (.eq (.call 0 1 [(.tok 0)]) (.call 1 1 [(.tok 0)]))) (.not (.call 2 0 [(.call 0 0 [(.tok 0)]), (.call 1 0 [(.tok 0)])]))) (.leaf [(.lit (.b .false))]) (.need [(.ok 3 [(.tok 0)])] (.need [(.ok 4 [(.tok 0)])] (.need [(.imp (.eq (.call 3 2 [(.tok 0)]) (.call 4 2 [(.tok 0)])) (.ok 2 [(.call 3 0 [(.tok 0)]), (.call 4 0 [(.tok 0)])])), (.imp (.and (.eq (.call 3 2 [(.tok 0)]) (.call 4 2 [(.tok 0)])) (.call 2 0 [(.call 3 0 [(.tok 0)]), (.call 4 0 [(.tok 0)])])) (.ok 2 [(.call 3 1 [(.tok 0)]), (.call 4 1 [(.tok 0)])])), (.imp (.and (.and (.eq (.call 3 2 [(.tok 0)]) (.call 4 2 [(.tok 0)])) (.call 2 0 [(.call 3 0 [(.tok 0)]), (.call 4 0 [(.tok 0)])])) (.call 2 0 [(.call 3 1 [(.tok 0)]), (.call 4 1 [(.tok 0)])])) (.ok 5 []))] (.leaf [(.and (.and (.and (.eq (.call 3 2 [(.tok 0)]) (.call 4 2 [(.tok 0)])) (.call 2 0 [(.call 3 0 [(.tok 0)]), (.call 4 0 [(.tok 0)])])) (.call 2 0 [(.call 3 1 [(.tok 0)]), (.call 4 1 [(.tok 0)])])) (.call 5 0 []))]))))))))
set_option maxRecDepth 100000 in
theorem code_law16_BodyGoals (g0 g1 g2 g3 g4 g5 : List D → Option (List D)) : ∀ cd, Try.f3.body = some cd → treeOf Try.prog [(ct_body_Goal, g0), (ct_ref16_Goal, g1), (ct_law16_same, g2), (ct_body_Check, g3), (ct_ref16_Check, g4), (ct_law16_awake, g5)] ann_law16_BodyGoals ct_law16_BodyGoals Try.f3 cd = tree_law16_BodyGoals := by
  intro cd h
  injection h with h
  subst h
  kernel_rfl
theorem fok_law16_BodyGoals {g0 g1 g2 g3 g4 g5 : List D → Option (List D)} {g : List D → Option (List D)} (h0 : FOk ct_body_Goal g0) (h1 : FOk ct_ref16_Goal g1) (h2 : FOk ct_law16_same g2) (h3 : FOk ct_body_Check g3) (h4 : FOk ct_ref16_Check g4) (h5 : FOk ct_law16_awake g5) (h : ∀ ds outs, WfA ct_law16_BodyGoals.ars ds → g ds = some outs → tree_law16_BodyGoals.go (tblS [(ct_body_Goal, g0), (ct_ref16_Goal, g1), (ct_law16_same, g2), (ct_body_Check, g3), (ct_ref16_Check, g4), (ct_law16_awake, g5)]) (fun o => o = outs) ds fun _ _ => False) : FOk ct_law16_BodyGoals g :=
  fok_of ann_law16_BodyGoals Try.f3 _ (.cons h0 (.cons h1 (.cons h2 (.cons h3 (.cons h4 (.cons h5 .nil)))))) rfl rfl enter_law16_BodyGoals (by decide) fun ds outs hw hg => by rw [code_law16_BodyGoals g0 g1 g2 g3 g4 g5 _ rfl]; exact h ds outs hw hg

def ct_ref16_cuts : Ct := ⟨47, [.val (.st 23)], [(.bool, false)], [], none⟩
theorem enter_ref16_cuts (args : Array Value) (w : World) : (callFunc ct_ref16_cuts.f args).run Try.prog w = .ok (.enter ct_ref16_cuts.f args) w := by kernel_rfl
def ann_ref16_cuts : Ann := ⟨[0, 1, 2, 8, 22], []⟩
def tree_ref16_cuts : Tree := (.need [(.ok 0 [(.tok 0), (.lit (.s ⟨#[44]⟩)), (.lit (.i 2))]), (.imp (.not (.call 0 0 [(.tok 0), (.lit (.s ⟨#[44]⟩)), (.lit (.i 2))])) (.ok 0 [(.tok 0), (.lit (.s ⟨#[59]⟩)), (.lit (.i 2))]))] (.br (.or (.call 0 0 [(.tok 0), (.lit (.s ⟨#[44]⟩)), (.lit (.i 2))]) (.call 0 0 [(.tok 0), (.lit (.s ⟨#[59]⟩)), (.lit (.i 2))])) (.need [(.lit (.b .true)), (.lt (.lit (.i 0)) (.len (.fld (.tok 0) 3))), (.ok 1 [(.get (.fld (.tok 0) 3) (.lit (.i 0)))]), (.imp (.not (.call 1 0 [(.get (.fld (.tok 0) 3) (.lit (.i 0)))])) (.lit (.b .true))), (.imp (.not (.call 1 0 [(.get (.fld (.tok 0) 3) (.lit (.i 0)))])) (.lt (.lit (.i 1)) (.len (.fld (.tok 0) 3)))), (.imp (.not (.call 1 0 [(.get (.fld (.tok 0) 3) (.lit (.i 0)))])) (.ok 1 [(.get (.fld (.tok 0) 3) (.lit (.i 1)))]))] (.leaf [(.or (.call 1 0 [(.get (.fld (.tok 0) 3) (.lit (.i 0)))]) (.call 1 0 [(.get (.fld (.tok 0) 3) (.lit (.i 1)))]))])) (.need [(.ok 0 [(.tok 0), (.lit (.s ⟨#[45, 62]⟩)), (.lit (.i 2))])] (.br (.call 0 0 [(.tok 0), (.lit (.s ⟨#[45, 62]⟩)), (.lit (.i 2))]) (.need [(.lit (.b .true)), (.lt (.lit (.i 1)) (.len (.fld (.tok 0) 3))), (.ok 1 [(.get (.fld (.tok 0) 3) (.lit (.i 1)))])] (.leaf [(.call 1 0 [(.get (.fld (.tok 0) 3) (.lit (.i 1)))])])) (.need [(.ok 0 [(.tok 0), (.lit (.s ⟨#[33]⟩)), (.lit (.i 0))])] (.leaf [(.call 0 0 [(.tok 0), (.lit (.s ⟨#[33]⟩)), (.lit (.i 0))])]))))))
set_option maxRecDepth 100000 in
theorem code_ref16_cuts (g0 g1 : List D → Option (List D)) : ∀ cd, Try.f47.body = some cd → treeOf Try.prog [(ct_ref16_Is, g0), (ct_ref16_cuts, g1)] ann_ref16_cuts ct_ref16_cuts Try.f47 cd = tree_ref16_cuts := by
  intro cd h
  injection h with h
  subst h
  kernel_rfl
theorem fok_ref16_cuts {g0 g1 : List D → Option (List D)} {g : List D → Option (List D)} (h0 : FOk ct_ref16_Is g0) (h1 : FOk ct_ref16_cuts g1) (h : ∀ ds outs, WfA ct_ref16_cuts.ars ds → g ds = some outs → tree_ref16_cuts.go (tblS [(ct_ref16_Is, g0), (ct_ref16_cuts, g1)]) (fun o => o = outs) ds fun _ _ => False) : FOk ct_ref16_cuts g :=
  fok_of ann_ref16_cuts Try.f47 _ (.cons h0 (.cons h1 .nil)) rfl rfl enter_ref16_cuts (by decide) fun ds outs hw hg => by rw [code_ref16_cuts g0 g1 _ rfl]; exact h ds outs hw hg

def ct_ref16_Cuts : Ct := ⟨17, [.val (.st 23)], [(.bool, false)], [], none⟩
theorem enter_ref16_Cuts (args : Array Value) (w : World) : (callFunc ct_ref16_Cuts.f args).run Try.prog w = .ok (.enter ct_ref16_Cuts.f args) w := by kernel_rfl
def ann_ref16_Cuts : Ann := ⟨[0, 1, 2], []⟩
def tree_ref16_Cuts : Tree := (.need [(.ok 0 [(.tok 0)]), (.imp (.call 0 0 [(.tok 0)]) (.ok 1 [(.tok 0)]))] (.leaf [(.and (.call 0 0 [(.tok 0)]) (.call 1 0 [(.tok 0)]))]))
set_option maxRecDepth 100000 in
theorem code_ref16_Cuts (g0 g1 : List D → Option (List D)) : ∀ cd, Try.f17.body = some cd → treeOf Try.prog [(ct_ref03_Valid, g0), (ct_ref16_cuts, g1)] ann_ref16_Cuts ct_ref16_Cuts Try.f17 cd = tree_ref16_Cuts := by
  intro cd h
  injection h with h
  subst h
  kernel_rfl
theorem fok_ref16_Cuts {g0 g1 : List D → Option (List D)} {g : List D → Option (List D)} (h0 : FOk ct_ref03_Valid g0) (h1 : FOk ct_ref16_cuts g1) (h : ∀ ds outs, WfA ct_ref16_Cuts.ars ds → g ds = some outs → tree_ref16_Cuts.go (tblS [(ct_ref03_Valid, g0), (ct_ref16_cuts, g1)]) (fun o => o = outs) ds fun _ _ => False) : FOk ct_ref16_Cuts g :=
  fok_of ann_ref16_Cuts Try.f17 _ (.cons h0 (.cons h1 .nil)) rfl rfl enter_ref16_Cuts (by decide) fun ds outs hw hg => by rw [code_ref16_Cuts g0 g1 _ rfl]; exact h ds outs hw hg

def ct_ref16_Control : Ct := ⟨19, [.val (.str), .val (.int .i64)], [(.bool, false)], [], none⟩
theorem enter_ref16_Control (args : Array Value) (w : World) : (callFunc ct_ref16_Control.f args).run Try.prog w = .ok (.enter ct_ref16_Control.f args) w := by kernel_rfl
def ann_ref16_Control : Ann := ⟨[0, 1, 4, 5, 6, 12, 18], []⟩
def tree_ref16_Control : Tree := (.br (.eq (.tok 0) (.lit (.s ⟨#[116, 114, 117, 101]⟩))) (.br (.eq (.tok 0) (.lit (.s ⟨#[116, 114, 117, 101]⟩))) (.leaf [(.eq (.tok 1) (.lit (.i 0)))]) (.br (.eq (.tok 0) (.lit (.s ⟨#[44]⟩))) (.br (.eq (.tok 0) (.lit (.s ⟨#[44]⟩))) (.leaf [(.eq (.tok 1) (.lit (.i 2)))]) (.br (.eq (.tok 0) (.lit (.s ⟨#[92, 43]⟩))) (.br (.eq (.tok 0) (.lit (.s ⟨#[92, 43]⟩))) (.leaf [(.eq (.tok 1) (.lit (.i 1)))]) (.leaf [(.lit (.b .false))])) (.br (.eq (.tok 0) (.lit (.s ⟨#[111, 110, 99, 101]⟩))) (.leaf [(.eq (.tok 1) (.lit (.i 1)))]) (.leaf [(.lit (.b .false))])))) (.br (.eq (.tok 0) (.lit (.s ⟨#[59]⟩))) (.br (.eq (.tok 0) (.lit (.s ⟨#[59]⟩))) (.leaf [(.eq (.tok 1) (.lit (.i 2)))]) (.br (.eq (.tok 0) (.lit (.s ⟨#[92, 43]⟩))) (.br (.eq (.tok 0) (.lit (.s ⟨#[92, 43]⟩))) (.leaf [(.eq (.tok 1) (.lit (.i 1)))]) (.leaf [(.lit (.b .false))])) (.br (.eq (.tok 0) (.lit (.s ⟨#[111, 110, 99, 101]⟩))) (.leaf [(.eq (.tok 1) (.lit (.i 1)))]) (.leaf [(.lit (.b .false))])))) (.br (.eq (.tok 0) (.lit (.s ⟨#[45, 62]⟩))) (.leaf [(.eq (.tok 1) (.lit (.i 2)))]) (.br (.eq (.tok 0) (.lit (.s ⟨#[92, 43]⟩))) (.br (.eq (.tok 0) (.lit (.s ⟨#[92, 43]⟩))) (.leaf [(.eq (.tok 1) (.lit (.i 1)))]) (.leaf [(.lit (.b .false))])) (.br (.eq (.tok 0) (.lit (.s ⟨#[111, 110, 99, 101]⟩))) (.leaf [(.eq (.tok 1) (.lit (.i 1)))]) (.leaf [(.lit (.b .false))]))))))) (.br (.eq (.tok 0) (.lit (.s ⟨#[102, 97, 105, 108]⟩))) (.br (.eq (.tok 0) (.lit (.s ⟨#[102, 97, 105, 108]⟩))) (.leaf [(.eq (.tok 1) (.lit (.i 0)))]) (.br (.eq (.tok 0) (.lit (.s ⟨#[44]⟩))) (.br (.eq (.tok 0) (.lit (.s ⟨#[44]⟩))) (.leaf [(.eq (.tok 1) (.lit (.i 2)))]) (.br (.eq (.tok 0) (.lit (.s ⟨#[92, 43]⟩))) (.br (.eq (.tok 0) (.lit (.s ⟨#[92, 43]⟩))) (.leaf [(.eq (.tok 1) (.lit (.i 1)))]) (.leaf [(.lit (.b .false))])) (.br (.eq (.tok 0) (.lit (.s ⟨#[111, 110, 99, 101]⟩))) (.leaf [(.eq (.tok 1) (.lit (.i 1)))]) (.leaf [(.lit (.b .false))])))) (.br (.eq (.tok 0) (.lit (.s ⟨#[59]⟩))) (.br (.eq (.tok 0) (.lit (.s ⟨#[59]⟩))) (.leaf [(.eq (.tok 1) (.lit (.i 2)))]) (.br (.eq (.tok 0) (.lit (.s ⟨#[92, 43]⟩))) (.br (.eq (.tok 0) (.lit (.s ⟨#[92, 43]⟩))) (.leaf [(.eq (.tok 1) (.lit (.i 1)))]) (.leaf [(.lit (.b .false))])) (.br (.eq (.tok 0) (.lit (.s ⟨#[111, 110, 99, 101]⟩))) (.leaf [(.eq (.tok 1) (.lit (.i 1)))]) (.leaf [(.lit (.b .false))])))) (.br (.eq (.tok 0) (.lit (.s ⟨#[45, 62]⟩))) (.leaf [(.eq (.tok 1) (.lit (.i 2)))]) (.br (.eq (.tok 0) (.lit (.s ⟨#[92, 43]⟩))) (.br (.eq (.tok 0) (.lit (.s ⟨#[92, 43]⟩))) (.leaf [(.eq (.tok 1) (.lit (.i 1)))]) (.leaf [(.lit (.b .false))])) (.br (.eq (.tok 0) (.lit (.s ⟨#[111, 110, 99, 101]⟩))) (.leaf [(.eq (.tok 1) (.lit (.i 1)))]) (.leaf [(.lit (.b .false))]))))))) (.br (.eq (.tok 0) (.lit (.s ⟨#[33]⟩))) (.leaf [(.eq (.tok 1) (.lit (.i 0)))]) (.br (.eq (.tok 0) (.lit (.s ⟨#[44]⟩))) (.br (.eq (.tok 0) (.lit (.s ⟨#[44]⟩))) (.leaf [(.eq (.tok 1) (.lit (.i 2)))]) (.br (.eq (.tok 0) (.lit (.s ⟨#[92, 43]⟩))) (.br (.eq (.tok 0) (.lit (.s ⟨#[92, 43]⟩))) (.leaf [(.eq (.tok 1) (.lit (.i 1)))]) (.leaf [(.lit (.b .false))])) (.br (.eq (.tok 0) (.lit (.s ⟨#[111, 110, 99, 101]⟩))) (.leaf [(.eq (.tok 1) (.lit (.i 1)))]) (.leaf [(.lit (.b .false))])))) (.br (.eq (.tok 0) (.lit (.s ⟨#[59]⟩))) (.br (.eq (.tok 0) (.lit (.s ⟨#[59]⟩))) (.leaf [(.eq (.tok 1) (.lit (.i 2)))]) (.br (.eq (.tok 0) (.lit (.s ⟨#[92, 43]⟩))) (.br (.eq (.tok 0) (.lit (.s ⟨#[92, 43]⟩))) (.leaf [(.eq (.tok 1) (.lit (.i 1)))]) (.leaf [(.lit (.b .false))])) (.br (.eq (.tok 0) (.lit (.s ⟨#[111, 110, 99, 101]⟩))) (.leaf [(.eq (.tok 1) (.lit (.i 1)))]) (.leaf [(.lit (.b .false))])))) (.br (.eq (.tok 0) (.lit (.s ⟨#[45, 62]⟩))) (.leaf [(.eq (.tok 1) (.lit (.i 2)))]) (.br (.eq (.tok 0) (.lit (.s ⟨#[92, 43]⟩))) (.br (.eq (.tok 0) (.lit (.s ⟨#[92, 43]⟩))) (.leaf [(.eq (.tok 1) (.lit (.i 1)))]) (.leaf [(.lit (.b .false))])) (.br (.eq (.tok 0) (.lit (.s ⟨#[111, 110, 99, 101]⟩))) (.leaf [(.eq (.tok 1) (.lit (.i 1)))]) (.leaf [(.lit (.b .false))])))))))))
set_option maxRecDepth 100000 in
theorem code_ref16_Control : ∀ cd, Try.f19.body = some cd → treeOf Try.prog [] ann_ref16_Control ct_ref16_Control Try.f19 cd = tree_ref16_Control := by
  intro cd h
  injection h with h
  subst h
  kernel_rfl
theorem fok_ref16_Control {g : List D → Option (List D)}  (h : ∀ ds outs, WfA ct_ref16_Control.ars ds → g ds = some outs → tree_ref16_Control.go (tblS []) (fun o => o = outs) ds fun _ _ => False) : FOk ct_ref16_Control g :=
  fok_of ann_ref16_Control Try.f19 _ .nil rfl rfl enter_ref16_Control (by decide) fun ds outs hw hg => by rw [code_ref16_Control  _ rfl]; exact h ds outs hw hg

def ct_law16_BodyCuts : Ct := ⟨4, [.val (.st 23), .val (.str), .val (.int .i64)], [(.bool, false)], [], none⟩
theorem enter_law16_BodyCuts (args : Array Value) (w : World) : (callFunc ct_law16_BodyCuts.f args).run Try.prog w = .ok (.enter ct_law16_BodyCuts.f args) w := by kernel_rfl
def ann_law16_BodyCuts : Ann := ⟨[0, 1, 2, 3, 6], []⟩
def tree_law16_BodyCuts : Tree := (.need [(.imp (.and (.eq (.call 0 0 [(.tok 0)]) (.call 1 0 [(.tok 0)])) (.eq (.call 2 0 [(.tok 1), (.tok 2)]) (.call 3 0 [(.tok 1), (.tok 2)]))) (.ok 4 [])), (.imp (.eq (.call 0 0 [(.tok 0)]) (.call 1 0 [(.tok 0)])) (.ok 3 [(.tok 1), (.tok 2)])), (.imp (.eq (.call 0 0 [(.tok 0)]) (.call 1 0 [(.tok 0)])) (.ok 2 [(.tok 1), (.tok 2)])), (.imp (.eq (.call 0 0 [(.tok 0)]) (.call 1 0 [(.tok 0)])) (.ok 2 [(.tok 1), (.tok 2)])), (.imp (.eq (.call 0 0 [(.tok 0)]) (.call 1 0 [(.tok 0)])) (.ok 2 [(.tok 1), (.tok 2)])), (.ok 1 [(.tok 0)]), (.ok 0 [(.tok 0)])] (.leaf [(.and (.and (.eq (.call 0 0 [(.tok 0)]) (.call 1 0 [(.tok 0)])) (.eq (.call 2 0 [(.tok 1), (.tok 2)]) (.call 3 0 [(.tok 1), (.tok 2)]))) (.call 4 0 []))]))
set_option maxRecDepth 100000 in
theorem code_law16_BodyCuts (g0 g1 g2 g3 g4 : List D → Option (List D)) : ∀ cd, Try.f4.body = some cd → treeOf Try.prog [(ct_body_Cuts, g0), (ct_ref16_Cuts, g1), (ct_body_Control, g2), (ct_ref16_Control, g3), (ct_law16_awake, g4)] ann_law16_BodyCuts ct_law16_BodyCuts Try.f4 cd = tree_law16_BodyCuts := by
  intro cd h
  injection h with h
  subst h
  kernel_rfl
theorem fok_law16_BodyCuts {g0 g1 g2 g3 g4 : List D → Option (List D)} {g : List D → Option (List D)} (h0 : FOk ct_body_Cuts g0) (h1 : FOk ct_ref16_Cuts g1) (h2 : FOk ct_body_Control g2) (h3 : FOk ct_ref16_Control g3) (h4 : FOk ct_law16_awake g4) (h : ∀ ds outs, WfA ct_law16_BodyCuts.ars ds → g ds = some outs → tree_law16_BodyCuts.go (tblS [(ct_body_Cuts, g0), (ct_ref16_Cuts, g1), (ct_body_Control, g2), (ct_ref16_Control, g3), (ct_law16_awake, g4)]) (fun o => o = outs) ds fun _ _ => False) : FOk ct_law16_BodyCuts g :=
  fok_of ann_law16_BodyCuts Try.f4 _ (.cons h0 (.cons h1 (.cons h2 (.cons h3 (.cons h4 .nil))))) rfl rfl enter_law16_BodyCuts (by decide) fun ds outs hw hg => by rw [code_law16_BodyCuts g0 g1 g2 g3 g4 _ rfl]; exact h ds outs hw hg

def ct_ref03_position : Ct := ⟨89, [.val (.row 2), .val (.int .i64)], [(.int .i64, false)], [], none⟩
theorem enter_ref03_position (args : Array Value) (w : World) : (callFunc ct_ref03_position.f args).run Try.prog w = .ok (.enter ct_ref03_position.f args) w := by kernel_rfl
def ann_ref03_position : Ann := ⟨[0, 1, 4, 5, 9, 17], [(2, ⟨[(4, .int .i64, false), (5, .int .i64, false)], [], [6, 7, 8, 9, 12, 13, 14, 15, 16, 17, 18, 10, 11], []⟩)]⟩
def tree_ref03_position : Tree := (.loop 2 2 [(.lit (.i 0)), (.lit (.i 0))] (.br (.lt (.tok 3) (.len (.tok 0))) (.need [(.le (.lit (.i 0)) (.tok 3)), (.lt (.tok 3) (.len (.tok 0)))] (.br (.eq (.get (.tok 0) (.tok 3)) (.tok 1)) (.leaf [(.tok 3)]) (.need [(.rng .i64 (.add (.tok 3) (.lit (.i 1))))] (.back 2 [(.tok 2), (.add (.tok 3) (.lit (.i 1)))])))) (.leaf [(.lit (.i (-1)))])))
set_option maxRecDepth 100000 in
theorem code_ref03_position : ∀ cd, Try.f89.body = some cd → treeOf Try.prog [] ann_ref03_position ct_ref03_position Try.f89 cd = tree_ref03_position := by
  intro cd h
  injection h with h
  subst h
  kernel_rfl
theorem fok_ref03_position {g : List D → Option (List D)}  (h : ∀ ds outs, WfA ct_ref03_position.ars ds → g ds = some outs → tree_ref03_position.go (tblS []) (fun o => o = outs) ds fun _ _ => False) : FOk ct_ref03_position g :=
  fok_of ann_ref03_position Try.f89 _ .nil rfl rfl enter_ref03_position (by decide) fun ds outs hw hg => by rw [code_ref03_position  _ rfl]; exact h ds outs hw hg

def ct_ref03_vars : Ct := ⟨65, [.own (.row 2), .val (.st 23)], [(.row 2, true)], [], none⟩
theorem enter_ref03_vars (args : Array Value) (w : World) : (callFunc ct_ref03_vars.f args).run Try.prog w = .ok (.enter ct_ref03_vars.f args) w := by kernel_rfl
def ann_ref03_vars : Ann := ⟨[0, 1, 3, 4, 5, 15, 25], [(4, ⟨[(0, .row 2, false), (5, .int .i64, false)], [], [21, 22, 23, 24, 25, 28, 29, 30, 31, 32, 33, 34, 26, 27], []⟩)]⟩
def tree_ref03_vars : Tree := (.need [(.imp (.eq (.fld (.tok 1) 0) (.lit (.i 0))) (.ok 0 [(.tok 0), (.fld (.tok 1) 1)]))] (.br (.and (.eq (.fld (.tok 1) 0) (.lit (.i 0))) (.lt (.call 0 0 [(.tok 0), (.fld (.tok 1) 1)]) (.lit (.i 0)))) (.need [(.le (.add (.len (.tok 0)) (.lit (.i 1))) (.lit (.i 17592186043904)))] (.loop 4 2 [(.app (.tok 0) (.row [(.fld (.tok 1) 1)])), (.lit (.i 0))] (.br (.lt (.tok 3) (.len (.fld (.tok 1) 3))) (.need [(.le (.lit (.i 0)) (.tok 3)), (.lt (.tok 3) (.len (.fld (.tok 1) 3))), (.ok 1 [(.tok 2), (.get (.fld (.tok 1) 3) (.tok 3))])] (.need [(.rng .i64 (.add (.tok 3) (.lit (.i 1))))] (.back 4 [(.call 1 0 [(.tok 2), (.get (.fld (.tok 1) 3) (.tok 3))]), (.add (.tok 3) (.lit (.i 1)))]))) (.leaf [(.tok 2)])))) (.loop 4 2 [(.tok 0), (.lit (.i 0))] (.br (.lt (.tok 3) (.len (.fld (.tok 1) 3))) (.need [(.le (.lit (.i 0)) (.tok 3)), (.lt (.tok 3) (.len (.fld (.tok 1) 3))), (.ok 1 [(.tok 2), (.get (.fld (.tok 1) 3) (.tok 3))])] (.need [(.rng .i64 (.add (.tok 3) (.lit (.i 1))))] (.back 4 [(.call 1 0 [(.tok 2), (.get (.fld (.tok 1) 3) (.tok 3))]), (.add (.tok 3) (.lit (.i 1)))]))) (.leaf [(.tok 2)])))))
set_option maxRecDepth 100000 in
theorem code_ref03_vars (g0 g1 : List D → Option (List D)) : ∀ cd, Try.f65.body = some cd → treeOf Try.prog [(ct_ref03_position, g0), (ct_ref03_vars, g1)] ann_ref03_vars ct_ref03_vars Try.f65 cd = tree_ref03_vars := by
  intro cd h
  injection h with h
  subst h
  kernel_rfl
theorem fok_ref03_vars {g0 g1 : List D → Option (List D)} {g : List D → Option (List D)} (h0 : FOk ct_ref03_position g0) (h1 : FOk ct_ref03_vars g1) (h : ∀ ds outs, WfA ct_ref03_vars.ars ds → g ds = some outs → tree_ref03_vars.go (tblS [(ct_ref03_position, g0), (ct_ref03_vars, g1)]) (fun o => o = outs) ds fun _ _ => False) : FOk ct_ref03_vars g :=
  fok_of ann_ref03_vars Try.f65 _ (.cons h0 (.cons h1 .nil)) rfl rfl enter_ref03_vars (by decide) fun ds outs hw hg => by rw [code_ref03_vars g0 g1 _ rfl]; exact h ds outs hw hg

def ct_ref03_VarsAll : Ct := ⟨55, [.val (.row 24)], [(.row 2, true)], [], none⟩
theorem enter_ref03_VarsAll (args : Array Value) (w : World) : (callFunc ct_ref03_VarsAll.f args).run Try.prog w = .ok (.enter ct_ref03_VarsAll.f args) w := by kernel_rfl
def ann_ref03_VarsAll : Ann := ⟨[0, 2, 3, 4, 8], [(3, ⟨[(3, .row 2, false), (4, .int .i64, false)], [], [5, 6, 7, 8, 11, 12, 13, 14, 15, 16, 9, 10], []⟩)]⟩
def tree_ref03_VarsAll : Tree := (.loop 3 1 [(.lit (.r [])), (.lit (.i 0))] (.br (.lt (.tok 2) (.len (.tok 0))) (.need [(.le (.lit (.i 0)) (.tok 2)), (.lt (.tok 2) (.len (.tok 0))), (.ok 0 [(.tok 1), (.get (.tok 0) (.tok 2))])] (.need [(.rng .i64 (.add (.tok 2) (.lit (.i 1))))] (.back 3 [(.call 0 0 [(.tok 1), (.get (.tok 0) (.tok 2))]), (.add (.tok 2) (.lit (.i 1)))]))) (.leaf [(.tok 1)])))
set_option maxRecDepth 100000 in
theorem code_ref03_VarsAll (g0 : List D → Option (List D)) : ∀ cd, Try.f55.body = some cd → treeOf Try.prog [(ct_ref03_vars, g0)] ann_ref03_VarsAll ct_ref03_VarsAll Try.f55 cd = tree_ref03_VarsAll := by
  intro cd h
  injection h with h
  subst h
  kernel_rfl
theorem fok_ref03_VarsAll {g0 : List D → Option (List D)} {g : List D → Option (List D)} (h0 : FOk ct_ref03_vars g0) (h : ∀ ds outs, WfA ct_ref03_VarsAll.ars ds → g ds = some outs → tree_ref03_VarsAll.go (tblS [(ct_ref03_vars, g0)]) (fun o => o = outs) ds fun _ _ => False) : FOk ct_ref03_VarsAll g :=
  fok_of ann_ref03_VarsAll Try.f55 _ (.cons h0 .nil) rfl rfl enter_ref03_VarsAll (by decide) fun ds outs hw hg => by rw [code_ref03_VarsAll g0 _ rfl]; exact h ds outs hw hg

def ct_ref03_number : Ct := ⟨82, [.val (.row 2), .val (.st 23)], [(.st 23, false)], [], none⟩
theorem enter_ref03_number (args : Array Value) (w : World) : (callFunc ct_ref03_number.f args).run Try.prog w = .ok (.enter ct_ref03_number.f args) w := by kernel_rfl
def ann_ref03_number : Ann := ⟨[0, 1, 3, 4, 5, 6, 16, 26], [(5, ⟨[(6, .int .i64, false)], [5], [22, 23, 24, 25, 26, 29, 30, 31, 32, 33, 34, 35, 36, 37, 38, 39, 40, 27, 28], []⟩)]⟩
def tree_ref03_number : Tree := (.br (.eq (.fld (.tok 1) 0) (.lit (.i 0))) (.need [(.ok 0 [(.tok 0), (.fld (.tok 1) 1)])] (.loop 5 2 [(.lit (.i 0)), (.set (.set (.set (.set (.lit (.a [(.i 0), (.i 0), (.s ⟨#[]⟩), (.r [])])) 0 (.fld (.tok 1) 0)) 1 (.fld (.tok 1) 1)) 2 (.fld (.tok 1) 2)) 1 (.call 0 0 [(.tok 0), (.fld (.tok 1) 1)]))] (.br (.lt (.tok 2) (.len (.fld (.tok 1) 3))) (.need [(.le (.lit (.i 0)) (.tok 2)), (.lt (.tok 2) (.len (.fld (.tok 1) 3))), (.ok 1 [(.tok 0), (.get (.fld (.tok 1) 3) (.tok 2))]), (.le (.add (.len (.fld (.tok 3) 3)) (.lit (.i 1))) (.lit (.i 2513169434843)))] (.need [(.rng .i64 (.add (.tok 2) (.lit (.i 1))))] (.back 5 [(.add (.tok 2) (.lit (.i 1))), (.set (.tok 3) 3 (.app (.fld (.tok 3) 3) (.row [(.call 1 0 [(.tok 0), (.get (.fld (.tok 1) 3) (.tok 2))])])))]))) (.leaf [(.tok 3)])))) (.loop 5 2 [(.lit (.i 0)), (.set (.set (.set (.lit (.a [(.i 0), (.i 0), (.s ⟨#[]⟩), (.r [])])) 0 (.fld (.tok 1) 0)) 1 (.fld (.tok 1) 1)) 2 (.fld (.tok 1) 2))] (.br (.lt (.tok 2) (.len (.fld (.tok 1) 3))) (.need [(.le (.lit (.i 0)) (.tok 2)), (.lt (.tok 2) (.len (.fld (.tok 1) 3))), (.ok 1 [(.tok 0), (.get (.fld (.tok 1) 3) (.tok 2))]), (.le (.add (.len (.fld (.tok 3) 3)) (.lit (.i 1))) (.lit (.i 2513169434843)))] (.need [(.rng .i64 (.add (.tok 2) (.lit (.i 1))))] (.back 5 [(.add (.tok 2) (.lit (.i 1))), (.set (.tok 3) 3 (.app (.fld (.tok 3) 3) (.row [(.call 1 0 [(.tok 0), (.get (.fld (.tok 1) 3) (.tok 2))])])))]))) (.leaf [(.tok 3)]))))
set_option maxRecDepth 100000 in
theorem code_ref03_number (g0 g1 : List D → Option (List D)) : ∀ cd, Try.f82.body = some cd → treeOf Try.prog [(ct_ref03_position, g0), (ct_ref03_number, g1)] ann_ref03_number ct_ref03_number Try.f82 cd = tree_ref03_number := by
  intro cd h
  injection h with h
  subst h
  kernel_rfl
theorem fok_ref03_number {g0 g1 : List D → Option (List D)} {g : List D → Option (List D)} (h0 : FOk ct_ref03_position g0) (h1 : FOk ct_ref03_number g1) (h : ∀ ds outs, WfA ct_ref03_number.ars ds → g ds = some outs → tree_ref03_number.go (tblS [(ct_ref03_position, g0), (ct_ref03_number, g1)]) (fun o => o = outs) ds fun _ _ => False) : FOk ct_ref03_number g :=
  fok_of ann_ref03_number Try.f82 _ (.cons h0 (.cons h1 .nil)) rfl rfl enter_ref03_number (by decide) fun ds outs hw hg => by rw [code_ref03_number g0 g1 _ rfl]; exact h ds outs hw hg

def ct_ref03_CanonAll : Ct := ⟨54, [.val (.row 24)], [(.row 24, false)], [], none⟩
theorem enter_ref03_CanonAll (args : Array Value) (w : World) : (callFunc ct_ref03_CanonAll.f args).run Try.prog w = .ok (.enter ct_ref03_CanonAll.f args) w := by kernel_rfl
def ann_ref03_CanonAll : Ann := ⟨[0, 2, 3, 4, 5, 11], [(4, ⟨[(4, .row 24, false), (5, .int .i64, false)], [], [8, 9, 10, 11, 14, 15, 16, 17, 18, 19, 20, 21, 22, 12, 13], [113]⟩)]⟩
def tree_ref03_CanonAll : Tree := (.need [(.ok 0 [(.tok 0)])] (.loop 4 1 [(.lit (.r [])), (.lit (.i 0))] (.br (.lt (.tok 2) (.len (.tok 0))) (.need [(.le (.lit (.i 0)) (.tok 2)), (.lt (.tok 2) (.len (.tok 0))), (.ok 1 [(.call 0 0 [(.tok 0)]), (.get (.tok 0) (.tok 2))]), (.le (.add (.len (.tok 1)) (.lit (.i 1))) (.lit (.i 2513169434843)))] (.need [(.rng .i64 (.add (.tok 2) (.lit (.i 1))))] (.back 4 [(.app (.tok 1) (.row [(.call 1 0 [(.call 0 0 [(.tok 0)]), (.get (.tok 0) (.tok 2))])])), (.add (.tok 2) (.lit (.i 1)))]))) (.leaf [(.tok 1)]))))
set_option maxRecDepth 100000 in
theorem code_ref03_CanonAll (g0 g1 : List D → Option (List D)) : ∀ cd, Try.f54.body = some cd → treeOf Try.prog [(ct_ref03_VarsAll, g0), (ct_ref03_number, g1)] ann_ref03_CanonAll ct_ref03_CanonAll Try.f54 cd = tree_ref03_CanonAll := by
  intro cd h
  injection h with h
  subst h
  kernel_rfl
theorem fok_ref03_CanonAll {g0 g1 : List D → Option (List D)} {g : List D → Option (List D)} (h0 : FOk ct_ref03_VarsAll g0) (h1 : FOk ct_ref03_number g1) (h : ∀ ds outs, WfA ct_ref03_CanonAll.ars ds → g ds = some outs → tree_ref03_CanonAll.go (tblS [(ct_ref03_VarsAll, g0), (ct_ref03_number, g1)]) (fun o => o = outs) ds fun _ _ => False) : FOk ct_ref03_CanonAll g :=
  fok_of ann_ref03_CanonAll Try.f54 _ (.cons h0 (.cons h1 .nil)) rfl rfl enter_ref03_CanonAll (by decide) fun ds outs hw hg => by rw [code_ref03_CanonAll g0 g1 _ rfl]; exact h ds outs hw hg

def ct_ref16_Clause : Ct := ⟨21, [.val (.st 23)], [(.st 34, true), (.st 23, false), (.int .i64, false)], [], none⟩
theorem enter_ref16_Clause (args : Array Value) (w : World) : (callFunc ct_ref16_Clause.f args).run Try.prog w = .ok (.enter ct_ref16_Clause.f args) w := by kernel_rfl
def ann_ref16_Clause : Ann := ⟨[0, 1, 2, 3, 4, 5, 6, 7, 8, 9, 12, 18, 29, 34, 44, 53, 63], []⟩
def tree_ref16_Clause : Tree := (.need [(.ok 0 [(.tok 0)])] (.br (.not (.call 0 0 [(.tok 0)])) (.leaf [(.lit (.a [(.a [(.i 0), (.i 0), (.s ⟨#[]⟩), (.r [])]), (.a [(.i 0), (.i 0), (.s ⟨#[]⟩), (.r [])])])), (.lit (.a [(.i 0), (.i 0), (.s ⟨#[]⟩), (.r [])])), (.lit (.i 1))]) (.need [(.ok 1 [(.tok 0), (.lit (.s ⟨#[58, 45]⟩)), (.lit (.i 2))])] (.br (.call 1 0 [(.tok 0), (.lit (.s ⟨#[58, 45]⟩)), (.lit (.i 2))]) (.need [(.lit (.b .true)), (.lt (.lit (.i 0)) (.len (.fld (.tok 0) 3)))] (.need [(.lit (.b .true)), (.lt (.lit (.i 1)) (.len (.fld (.tok 0) 3)))] (.br (.eq (.fld (.get (.fld (.tok 0) 3) (.lit (.i 0))) 0) (.lit (.i 0))) (.need [(.ok 2 [])] (.leaf [(.lit (.a [(.a [(.i 0), (.i 0), (.s ⟨#[]⟩), (.r [])]), (.a [(.i 0), (.i 0), (.s ⟨#[]⟩), (.r [])])])), (.call 2 0 []), (.lit (.i 8))])) (.br (.eq (.fld (.get (.fld (.tok 0) 3) (.lit (.i 0))) 0) (.lit (.i 1))) (.need [(.ok 3 [(.lit (.s ⟨#[99, 97, 108, 108, 97, 98, 108, 101]⟩)), (.get (.fld (.tok 0) 3) (.lit (.i 0)))])] (.leaf [(.lit (.a [(.a [(.i 0), (.i 0), (.s ⟨#[]⟩), (.r [])]), (.a [(.i 0), (.i 0), (.s ⟨#[]⟩), (.r [])])])), (.call 3 0 [(.lit (.s ⟨#[99, 97, 108, 108, 97, 98, 108, 101]⟩)), (.get (.fld (.tok 0) 3) (.lit (.i 0)))]), (.lit (.i 8))])) (.need [(.ok 4 [(.get (.fld (.tok 0) 3) (.lit (.i 1)))])] (.br (.not (.call 4 1 [(.get (.fld (.tok 0) 3) (.lit (.i 1)))])) (.need [(.ok 3 [(.lit (.s ⟨#[99, 97, 108, 108, 97, 98, 108, 101]⟩)), (.get (.fld (.tok 0) 3) (.lit (.i 1)))])] (.leaf [(.lit (.a [(.a [(.i 0), (.i 0), (.s ⟨#[]⟩), (.r [])]), (.a [(.i 0), (.i 0), (.s ⟨#[]⟩), (.r [])])])), (.call 3 0 [(.lit (.s ⟨#[99, 97, 108, 108, 97, 98, 108, 101]⟩)), (.get (.fld (.tok 0) 3) (.lit (.i 1)))]), (.lit (.i 8))])) (.need [(.ok 5 [(.call 4 0 [(.get (.fld (.tok 0) 3) (.lit (.i 1)))])]), (.rng .i64 (.add (.call 5 0 [(.get (.fld (.tok 0) 3) (.lit (.i 0)))]) (.call 5 0 [(.call 4 0 [(.get (.fld (.tok 0) 3) (.lit (.i 1)))])]))), (.ok 5 [(.get (.fld (.tok 0) 3) (.lit (.i 0)))])] (.br (.lt (.lit (.i 2000)) (.add (.call 5 0 [(.get (.fld (.tok 0) 3) (.lit (.i 0)))]) (.call 5 0 [(.call 4 0 [(.get (.fld (.tok 0) 3) (.lit (.i 1)))])]))) (.leaf [(.lit (.a [(.a [(.i 0), (.i 0), (.s ⟨#[]⟩), (.r [])]), (.a [(.i 0), (.i 0), (.s ⟨#[]⟩), (.r [])])])), (.lit (.a [(.i 0), (.i 0), (.s ⟨#[]⟩), (.r [])])), (.lit (.i 2))]) (.need [(.ok 6 [(.row [(.get (.fld (.tok 0) 3) (.lit (.i 0))), (.call 4 0 [(.get (.fld (.tok 0) 3) (.lit (.i 1)))])])])] (.need [(.ok 7 [(.call 6 0 [(.row [(.get (.fld (.tok 0) 3) (.lit (.i 0))), (.call 4 0 [(.get (.fld (.tok 0) 3) (.lit (.i 1)))])])])])] (.br (.lt (.lit (.i 64)) (.len (.call 7 0 [(.call 6 0 [(.row [(.get (.fld (.tok 0) 3) (.lit (.i 0))), (.call 4 0 [(.get (.fld (.tok 0) 3) (.lit (.i 1)))])])])]))) (.leaf [(.lit (.a [(.a [(.i 0), (.i 0), (.s ⟨#[]⟩), (.r [])]), (.a [(.i 0), (.i 0), (.s ⟨#[]⟩), (.r [])])])), (.lit (.a [(.i 0), (.i 0), (.s ⟨#[]⟩), (.r [])])), (.lit (.i 2))]) (.need [(.lit (.b .true)), (.lt (.lit (.i 1)) (.len (.call 6 0 [(.row [(.get (.fld (.tok 0) 3) (.lit (.i 0))), (.call 4 0 [(.get (.fld (.tok 0) 3) (.lit (.i 1)))])])]))), (.lit (.b .true)), (.lt (.lit (.i 0)) (.len (.call 6 0 [(.row [(.get (.fld (.tok 0) 3) (.lit (.i 0))), (.call 4 0 [(.get (.fld (.tok 0) 3) (.lit (.i 1)))])])])))] (.leaf [(.mk [(.get (.call 6 0 [(.row [(.get (.fld (.tok 0) 3) (.lit (.i 0))), (.call 4 0 [(.get (.fld (.tok 0) 3) (.lit (.i 1)))])])]) (.lit (.i 0))), (.get (.call 6 0 [(.row [(.get (.fld (.tok 0) 3) (.lit (.i 0))), (.call 4 0 [(.get (.fld (.tok 0) 3) (.lit (.i 1)))])])]) (.lit (.i 1)))]), (.lit (.a [(.i 0), (.i 0), (.s ⟨#[]⟩), (.r [])])), (.lit (.i 0))]))))))))))))) (.br (.eq (.fld (.tok 0) 0) (.lit (.i 0))) (.need [(.ok 2 [])] (.leaf [(.lit (.a [(.a [(.i 0), (.i 0), (.s ⟨#[]⟩), (.r [])]), (.a [(.i 0), (.i 0), (.s ⟨#[]⟩), (.r [])])])), (.call 2 0 []), (.lit (.i 8))])) (.br (.eq (.fld (.tok 0) 0) (.lit (.i 1))) (.need [(.ok 3 [(.lit (.s ⟨#[99, 97, 108, 108, 97, 98, 108, 101]⟩)), (.tok 0)])] (.leaf [(.lit (.a [(.a [(.i 0), (.i 0), (.s ⟨#[]⟩), (.r [])]), (.a [(.i 0), (.i 0), (.s ⟨#[]⟩), (.r [])])])), (.call 3 0 [(.lit (.s ⟨#[99, 97, 108, 108, 97, 98, 108, 101]⟩)), (.tok 0)]), (.lit (.i 8))])) (.need [(.ok 4 [(.set (.set (.lit (.a [(.i 0), (.i 0), (.s ⟨#[]⟩), (.r [])])) 0 (.lit (.i 2))) 2 (.lit (.s ⟨#[116, 114, 117, 101]⟩)))])] (.br (.not (.call 4 1 [(.set (.set (.lit (.a [(.i 0), (.i 0), (.s ⟨#[]⟩), (.r [])])) 0 (.lit (.i 2))) 2 (.lit (.s ⟨#[116, 114, 117, 101]⟩)))])) (.need [(.ok 3 [(.lit (.s ⟨#[99, 97, 108, 108, 97, 98, 108, 101]⟩)), (.set (.set (.lit (.a [(.i 0), (.i 0), (.s ⟨#[]⟩), (.r [])])) 0 (.lit (.i 2))) 2 (.lit (.s ⟨#[116, 114, 117, 101]⟩)))])] (.leaf [(.lit (.a [(.a [(.i 0), (.i 0), (.s ⟨#[]⟩), (.r [])]), (.a [(.i 0), (.i 0), (.s ⟨#[]⟩), (.r [])])])), (.call 3 0 [(.lit (.s ⟨#[99, 97, 108, 108, 97, 98, 108, 101]⟩)), (.set (.set (.lit (.a [(.i 0), (.i 0), (.s ⟨#[]⟩), (.r [])])) 0 (.lit (.i 2))) 2 (.lit (.s ⟨#[116, 114, 117, 101]⟩)))]), (.lit (.i 8))])) (.need [(.ok 5 [(.call 4 0 [(.set (.set (.lit (.a [(.i 0), (.i 0), (.s ⟨#[]⟩), (.r [])])) 0 (.lit (.i 2))) 2 (.lit (.s ⟨#[116, 114, 117, 101]⟩)))])]), (.rng .i64 (.add (.call 5 0 [(.tok 0)]) (.call 5 0 [(.call 4 0 [(.set (.set (.lit (.a [(.i 0), (.i 0), (.s ⟨#[]⟩), (.r [])])) 0 (.lit (.i 2))) 2 (.lit (.s ⟨#[116, 114, 117, 101]⟩)))])]))), (.ok 5 [(.tok 0)])] (.br (.lt (.lit (.i 2000)) (.add (.call 5 0 [(.tok 0)]) (.call 5 0 [(.call 4 0 [(.set (.set (.lit (.a [(.i 0), (.i 0), (.s ⟨#[]⟩), (.r [])])) 0 (.lit (.i 2))) 2 (.lit (.s ⟨#[116, 114, 117, 101]⟩)))])]))) (.leaf [(.lit (.a [(.a [(.i 0), (.i 0), (.s ⟨#[]⟩), (.r [])]), (.a [(.i 0), (.i 0), (.s ⟨#[]⟩), (.r [])])])), (.lit (.a [(.i 0), (.i 0), (.s ⟨#[]⟩), (.r [])])), (.lit (.i 2))]) (.need [(.ok 6 [(.row [(.tok 0), (.call 4 0 [(.set (.set (.lit (.a [(.i 0), (.i 0), (.s ⟨#[]⟩), (.r [])])) 0 (.lit (.i 2))) 2 (.lit (.s ⟨#[116, 114, 117, 101]⟩)))])])])] (.need [(.ok 7 [(.call 6 0 [(.row [(.tok 0), (.call 4 0 [(.set (.set (.lit (.a [(.i 0), (.i 0), (.s ⟨#[]⟩), (.r [])])) 0 (.lit (.i 2))) 2 (.lit (.s ⟨#[116, 114, 117, 101]⟩)))])])])])] (.br (.lt (.lit (.i 64)) (.len (.call 7 0 [(.call 6 0 [(.row [(.tok 0), (.call 4 0 [(.set (.set (.lit (.a [(.i 0), (.i 0), (.s ⟨#[]⟩), (.r [])])) 0 (.lit (.i 2))) 2 (.lit (.s ⟨#[116, 114, 117, 101]⟩)))])])])]))) (.leaf [(.lit (.a [(.a [(.i 0), (.i 0), (.s ⟨#[]⟩), (.r [])]), (.a [(.i 0), (.i 0), (.s ⟨#[]⟩), (.r [])])])), (.lit (.a [(.i 0), (.i 0), (.s ⟨#[]⟩), (.r [])])), (.lit (.i 2))]) (.need [(.lit (.b .true)), (.lt (.lit (.i 1)) (.len (.call 6 0 [(.row [(.tok 0), (.call 4 0 [(.set (.set (.lit (.a [(.i 0), (.i 0), (.s ⟨#[]⟩), (.r [])])) 0 (.lit (.i 2))) 2 (.lit (.s ⟨#[116, 114, 117, 101]⟩)))])])]))), (.lit (.b .true)), (.lt (.lit (.i 0)) (.len (.call 6 0 [(.row [(.tok 0), (.call 4 0 [(.set (.set (.lit (.a [(.i 0), (.i 0), (.s ⟨#[]⟩), (.r [])])) 0 (.lit (.i 2))) 2 (.lit (.s ⟨#[116, 114, 117, 101]⟩)))])])])))] (.leaf [(.mk [(.get (.call 6 0 [(.row [(.tok 0), (.call 4 0 [(.set (.set (.lit (.a [(.i 0), (.i 0), (.s ⟨#[]⟩), (.r [])])) 0 (.lit (.i 2))) 2 (.lit (.s ⟨#[116, 114, 117, 101]⟩)))])])]) (.lit (.i 0))), (.get (.call 6 0 [(.row [(.tok 0), (.call 4 0 [(.set (.set (.lit (.a [(.i 0), (.i 0), (.s ⟨#[]⟩), (.r [])])) 0 (.lit (.i 2))) 2 (.lit (.s ⟨#[116, 114, 117, 101]⟩)))])])]) (.lit (.i 1)))]), (.lit (.a [(.i 0), (.i 0), (.s ⟨#[]⟩), (.r [])])), (.lit (.i 0))])))))))))))))))
set_option maxRecDepth 100000 in
theorem code_ref16_Clause (g0 g1 g2 g3 g4 g5 g6 g7 : List D → Option (List D)) : ∀ cd, Try.f21.body = some cd → treeOf Try.prog [(ct_ref03_Valid, g0), (ct_ref16_Is, g1), (ct_ref06_Inst, g2), (ct_ref06_Type, g3), (ct_ref16_convert, g4), (ct_ref03_Size, g5), (ct_ref03_CanonAll, g6), (ct_ref03_VarsAll, g7)] ann_ref16_Clause ct_ref16_Clause Try.f21 cd = tree_ref16_Clause := by
  intro cd h
  injection h with h
  subst h
  kernel_rfl
theorem fok_ref16_Clause {g0 g1 g2 g3 g4 g5 g6 g7 : List D → Option (List D)} {g : List D → Option (List D)} (h0 : FOk ct_ref03_Valid g0) (h1 : FOk ct_ref16_Is g1) (h2 : FOk ct_ref06_Inst g2) (h3 : FOk ct_ref06_Type g3) (h4 : FOk ct_ref16_convert g4) (h5 : FOk ct_ref03_Size g5) (h6 : FOk ct_ref03_CanonAll g6) (h7 : FOk ct_ref03_VarsAll g7) (h : ∀ ds outs, WfA ct_ref16_Clause.ars ds → g ds = some outs → tree_ref16_Clause.go (tblS [(ct_ref03_Valid, g0), (ct_ref16_Is, g1), (ct_ref06_Inst, g2), (ct_ref06_Type, g3), (ct_ref16_convert, g4), (ct_ref03_Size, g5), (ct_ref03_CanonAll, g6), (ct_ref03_VarsAll, g7)]) (fun o => o = outs) ds fun _ _ => False) : FOk ct_ref16_Clause g :=
  fok_of ann_ref16_Clause Try.f21 _ (.cons h0 (.cons h1 (.cons h2 (.cons h3 (.cons h4 (.cons h5 (.cons h6 (.cons h7 .nil)))))))) rfl rfl enter_ref16_Clause (by decide) fun ds outs hw hg => by rw [code_ref16_Clause g0 g1 g2 g3 g4 g5 g6 g7 _ rfl]; exact h ds outs hw hg

def ct_ref16_SameClause : Ct := ⟨22, [.val (.st 34), .val (.st 34)], [(.bool, false)], [], none⟩
theorem enter_ref16_SameClause (args : Array Value) (w : World) : (callFunc ct_ref16_SameClause.f args).run Try.prog w = .ok (.enter ct_ref16_SameClause.f args) w := by kernel_rfl
def ann_ref16_SameClause : Ann := ⟨[0, 1, 2, 3, 4], []⟩
def tree_ref16_SameClause : Tree := (.need [(.ok 0 [(.fld (.tok 0) 0), (.fld (.tok 1) 0)]), (.imp (.call 0 0 [(.fld (.tok 0) 0), (.fld (.tok 1) 0)]) (.ok 0 [(.fld (.tok 0) 1), (.fld (.tok 1) 1)]))] (.leaf [(.and (.call 0 0 [(.fld (.tok 0) 0), (.fld (.tok 1) 0)]) (.call 0 0 [(.fld (.tok 0) 1), (.fld (.tok 1) 1)]))]))
set_option maxRecDepth 100000 in
theorem code_ref16_SameClause (g0 : List D → Option (List D)) : ∀ cd, Try.f22.body = some cd → treeOf Try.prog [(ct_ref03_Same, g0)] ann_ref16_SameClause ct_ref16_SameClause Try.f22 cd = tree_ref16_SameClause := by
  intro cd h
  injection h with h
  subst h
  kernel_rfl
theorem fok_ref16_SameClause {g0 : List D → Option (List D)} {g : List D → Option (List D)} (h0 : FOk ct_ref03_Same g0) (h : ∀ ds outs, WfA ct_ref16_SameClause.ars ds → g ds = some outs → tree_ref16_SameClause.go (tblS [(ct_ref03_Same, g0)]) (fun o => o = outs) ds fun _ _ => False) : FOk ct_ref16_SameClause g :=
  fok_of ann_ref16_SameClause Try.f22 _ (.cons h0 .nil) rfl rfl enter_ref16_SameClause (by decide) fun ds outs hw hg => by rw [code_ref16_SameClause g0 _ rfl]; exact h ds outs hw hg

def ct_law16_BodyClauses : Ct := ⟨5, [.val (.st 23)], [(.bool, false)], [], none⟩
theorem enter_law16_BodyClauses (args : Array Value) (w : World) : (callFunc ct_law16_BodyClauses.f args).run Try.prog w = .ok (.enter ct_law16_BodyClauses.f args) w := by kernel_rfl
def ann_law16_BodyClauses : Ann := ⟨[0, 1, 2, 3, 4, 5, 6, 7, 8, 29, 31], []⟩
def tree_law16_BodyClauses : Tree := (.need [(.ok 0 [(.tok 0)])] (.need [(.ok 1 [(.tok 0)])] (.need [(.imp (.not (.not (.eq (.call 0 2 [(.tok 0)]) (.call 1 2 [(.tok 0)])))) (.ok 2 [(.call 0 1 [(.tok 0)]), (.call 1 1 [(.tok 0)])]))] (.br (.or (.not (.eq (.call 0 2 [(.tok 0)]) (.call 1 2 [(.tok 0)]))) (.not (.call 2 0 [(.call 0 1 [(.tok 0)]), (.call 1 1 [(.tok 0)])]))) (.leaf [(.lit (.b .false))]) (.br (.not (.eq (.call 0 2 [(.tok 0)]) (.lit (.i 0)))) (.need [(.ok 2 [(.fld (.call 0 0 [(.tok 0)]) 0), (.lit (.a [(.i 0), (.i 0), (.s ⟨#[]⟩), (.r [])]))]), (.imp (.call 2 0 [(.fld (.call 0 0 [(.tok 0)]) 0), (.lit (.a [(.i 0), (.i 0), (.s ⟨#[]⟩), (.r [])]))]) (.ok 2 [(.fld (.call 0 0 [(.tok 0)]) 1), (.lit (.a [(.i 0), (.i 0), (.s ⟨#[]⟩), (.r [])]))])), (.imp (.and (.call 2 0 [(.fld (.call 0 0 [(.tok 0)]) 0), (.lit (.a [(.i 0), (.i 0), (.s ⟨#[]⟩), (.r [])]))]) (.call 2 0 [(.fld (.call 0 0 [(.tok 0)]) 1), (.lit (.a [(.i 0), (.i 0), (.s ⟨#[]⟩), (.r [])]))])) (.ok 3 []))] (.leaf [(.and (.and (.call 2 0 [(.fld (.call 0 0 [(.tok 0)]) 0), (.lit (.a [(.i 0), (.i 0), (.s ⟨#[]⟩), (.r [])]))]) (.call 2 0 [(.fld (.call 0 0 [(.tok 0)]) 1), (.lit (.a [(.i 0), (.i 0), (.s ⟨#[]⟩), (.r [])]))])) (.call 3 0 []))])) (.need [(.ok 4 [(.call 0 0 [(.tok 0)]), (.call 1 0 [(.tok 0)])]), (.imp (.call 4 0 [(.call 0 0 [(.tok 0)]), (.call 1 0 [(.tok 0)])]) (.ok 3 []))] (.leaf [(.and (.call 4 0 [(.call 0 0 [(.tok 0)]), (.call 1 0 [(.tok 0)])]) (.call 3 0 []))])))))))
set_option maxRecDepth 100000 in
theorem code_law16_BodyClauses (g0 g1 g2 g3 g4 : List D → Option (List D)) : ∀ cd, Try.f5.body = some cd → treeOf Try.prog [(ct_body_Clause, g0), (ct_ref16_Clause, g1), (ct_law16_same, g2), (ct_law16_awake, g3), (ct_ref16_SameClause, g4)] ann_law16_BodyClauses ct_law16_BodyClauses Try.f5 cd = tree_law16_BodyClauses := by
  intro cd h
  injection h with h
  subst h
  kernel_rfl
theorem fok_law16_BodyClauses {g0 g1 g2 g3 g4 : List D → Option (List D)} {g : List D → Option (List D)} (h0 : FOk ct_body_Clause g0) (h1 : FOk ct_ref16_Clause g1) (h2 : FOk ct_law16_same g2) (h3 : FOk ct_law16_awake g3) (h4 : FOk ct_ref16_SameClause g4) (h : ∀ ds outs, WfA ct_law16_BodyClauses.ars ds → g ds = some outs → tree_law16_BodyClauses.go (tblS [(ct_body_Clause, g0), (ct_ref16_Clause, g1), (ct_law16_same, g2), (ct_law16_awake, g3), (ct_ref16_SameClause, g4)]) (fun o => o = outs) ds fun _ _ => False) : FOk ct_law16_BodyClauses g :=
  fok_of ann_law16_BodyClauses Try.f5 _ (.cons h0 (.cons h1 (.cons h2 (.cons h3 (.cons h4 .nil))))) rfl rfl enter_law16_BodyClauses (by decide) fun ds outs hw hg => by rw [code_law16_BodyClauses g0 g1 g2 g3 g4 _ rfl]; exact h ds outs hw hg

def ct_ref16_Add : Ct := ⟨24, [.val (.st 23), .val (.row 24)], [(.st 23, false), (.st 23, false), (.int .i64, false)], [], none⟩
theorem enter_ref16_Add (args : Array Value) (w : World) : (callFunc ct_ref16_Add.f args).run Try.prog w = .ok (.enter ct_ref16_Add.f args) w := by kernel_rfl
def ann_ref16_Add : Ann := ⟨[0, 1, 2, 4, 5, 6, 7, 8, 11, 17, 25, 30, 36, 41, 51, 70], [(4, ⟨[(6, .int .i64, false), (7, .int .i64, false)], [4, 5], [14, 15, 16, 17, 20, 21, 22, 23, 24, 25, 26, 27, 18, 19], []⟩)]⟩
def tree_ref16_Add : Tree := (.need [(.ok 0 [(.tok 0)])] (.br (.not (.call 0 0 [(.tok 0)])) (.leaf [(.lit (.a [(.i 0), (.i 0), (.s ⟨#[]⟩), (.r [])])), (.lit (.a [(.i 0), (.i 0), (.s ⟨#[]⟩), (.r [])])), (.lit (.i 1))]) (.loop 4 2 [(.lit (.i 0)), (.lit (.i 0)), (.lit (.a [(.i 0), (.i 0), (.s ⟨#[]⟩), (.r [])])), (.lit (.a [(.i 0), (.i 0), (.s ⟨#[]⟩), (.r [])]))] (.br (.lt (.tok 3) (.len (.tok 1))) (.need [(.le (.lit (.i 0)) (.tok 3)), (.lt (.tok 3) (.len (.tok 1))), (.ok 0 [(.get (.tok 1) (.tok 3))])] (.br (.not (.call 0 0 [(.get (.tok 1) (.tok 3))])) (.leaf [(.lit (.a [(.i 0), (.i 0), (.s ⟨#[]⟩), (.r [])])), (.lit (.a [(.i 0), (.i 0), (.s ⟨#[]⟩), (.r [])])), (.lit (.i 1))]) (.need [(.rng .i64 (.add (.tok 3) (.lit (.i 1))))] (.back 4 [(.tok 2), (.add (.tok 3) (.lit (.i 1))), (.tok 4), (.tok 5)])))) (.br (.eq (.len (.tok 1)) (.lit (.i 0))) (.need [(.ok 1 [(.tok 0)])] (.leaf [(.call 1 0 [(.tok 0)]), (.lit (.a [(.i 0), (.i 0), (.s ⟨#[]⟩), (.r [])])), (.lit (.i 0))])) (.br (.eq (.fld (.tok 0) 0) (.lit (.i 0))) (.need [(.ok 2 [])] (.leaf [(.lit (.a [(.i 0), (.i 0), (.s ⟨#[]⟩), (.r [])])), (.call 2 0 []), (.lit (.i 8))])) (.br (.eq (.fld (.tok 0) 0) (.lit (.i 1))) (.need [(.ok 3 [(.lit (.s ⟨#[99, 97, 108, 108, 97, 98, 108, 101]⟩)), (.tok 0)])] (.leaf [(.lit (.a [(.i 0), (.i 0), (.s ⟨#[]⟩), (.r [])])), (.call 3 0 [(.lit (.s ⟨#[99, 97, 108, 108, 97, 98, 108, 101]⟩)), (.tok 0)]), (.lit (.i 8))])) (.need [(.rng .i64 (.sub (.lit (.i 8)) (.len (.fld (.tok 0) 3))))] (.br (.lt (.sub (.lit (.i 8)) (.len (.fld (.tok 0) 3))) (.len (.tok 1))) (.leaf [(.lit (.a [(.i 0), (.i 0), (.s ⟨#[]⟩), (.r [])])), (.lit (.a [(.i 0), (.i 0), (.s ⟨#[]⟩), (.r [])])), (.lit (.i 2))]) (.need [(.le (.add (.len (.fld (.set (.set (.lit (.a [(.i 0), (.i 0), (.s ⟨#[]⟩), (.r [])])) 0 (.lit (.i 3))) 2 (.fld (.tok 0) 2)) 3)) (.len (.fld (.tok 0) 3))) (.lit (.i 2513169434843)))] (.need [(.le (.add (.len (.fld (.set (.set (.set (.lit (.a [(.i 0), (.i 0), (.s ⟨#[]⟩), (.r [])])) 0 (.lit (.i 3))) 2 (.fld (.tok 0) 2)) 3 (.app (.fld (.set (.set (.lit (.a [(.i 0), (.i 0), (.s ⟨#[]⟩), (.r [])])) 0 (.lit (.i 3))) 2 (.fld (.tok 0) 2)) 3) (.fld (.tok 0) 3))) 3)) (.len (.tok 1))) (.lit (.i 2513169434843)))] (.need [(.ok 4 [(.set (.set (.set (.set (.lit (.a [(.i 0), (.i 0), (.s ⟨#[]⟩), (.r [])])) 0 (.lit (.i 3))) 2 (.fld (.tok 0) 2)) 3 (.app (.fld (.set (.set (.lit (.a [(.i 0), (.i 0), (.s ⟨#[]⟩), (.r [])])) 0 (.lit (.i 3))) 2 (.fld (.tok 0) 2)) 3) (.fld (.tok 0) 3))) 3 (.app (.fld (.set (.set (.set (.lit (.a [(.i 0), (.i 0), (.s ⟨#[]⟩), (.r [])])) 0 (.lit (.i 3))) 2 (.fld (.tok 0) 2)) 3 (.app (.fld (.set (.set (.lit (.a [(.i 0), (.i 0), (.s ⟨#[]⟩), (.r [])])) 0 (.lit (.i 3))) 2 (.fld (.tok 0) 2)) 3) (.fld (.tok 0) 3))) 3) (.tok 1)))])] (.br (.not (.call 4 0 [(.set (.set (.set (.set (.lit (.a [(.i 0), (.i 0), (.s ⟨#[]⟩), (.r [])])) 0 (.lit (.i 3))) 2 (.fld (.tok 0) 2)) 3 (.app (.fld (.set (.set (.lit (.a [(.i 0), (.i 0), (.s ⟨#[]⟩), (.r [])])) 0 (.lit (.i 3))) 2 (.fld (.tok 0) 2)) 3) (.fld (.tok 0) 3))) 3 (.app (.fld (.set (.set (.set (.lit (.a [(.i 0), (.i 0), (.s ⟨#[]⟩), (.r [])])) 0 (.lit (.i 3))) 2 (.fld (.tok 0) 2)) 3 (.app (.fld (.set (.set (.lit (.a [(.i 0), (.i 0), (.s ⟨#[]⟩), (.r [])])) 0 (.lit (.i 3))) 2 (.fld (.tok 0) 2)) 3) (.fld (.tok 0) 3))) 3) (.tok 1)))])) (.leaf [(.lit (.a [(.i 0), (.i 0), (.s ⟨#[]⟩), (.r [])])), (.lit (.a [(.i 0), (.i 0), (.s ⟨#[]⟩), (.r [])])), (.lit (.i 2))]) (.need [(.ok 1 [(.set (.set (.set (.set (.lit (.a [(.i 0), (.i 0), (.s ⟨#[]⟩), (.r [])])) 0 (.lit (.i 3))) 2 (.fld (.tok 0) 2)) 3 (.app (.fld (.set (.set (.lit (.a [(.i 0), (.i 0), (.s ⟨#[]⟩), (.r [])])) 0 (.lit (.i 3))) 2 (.fld (.tok 0) 2)) 3) (.fld (.tok 0) 3))) 3 (.app (.fld (.set (.set (.set (.lit (.a [(.i 0), (.i 0), (.s ⟨#[]⟩), (.r [])])) 0 (.lit (.i 3))) 2 (.fld (.tok 0) 2)) 3 (.app (.fld (.set (.set (.lit (.a [(.i 0), (.i 0), (.s ⟨#[]⟩), (.r [])])) 0 (.lit (.i 3))) 2 (.fld (.tok 0) 2)) 3) (.fld (.tok 0) 3))) 3) (.tok 1)))])] (.leaf [(.call 1 0 [(.set (.set (.set (.set (.lit (.a [(.i 0), (.i 0), (.s ⟨#[]⟩), (.r [])])) 0 (.lit (.i 3))) 2 (.fld (.tok 0) 2)) 3 (.app (.fld (.set (.set (.lit (.a [(.i 0), (.i 0), (.s ⟨#[]⟩), (.r [])])) 0 (.lit (.i 3))) 2 (.fld (.tok 0) 2)) 3) (.fld (.tok 0) 3))) 3 (.app (.fld (.set (.set (.set (.lit (.a [(.i 0), (.i 0), (.s ⟨#[]⟩), (.r [])])) 0 (.lit (.i 3))) 2 (.fld (.tok 0) 2)) 3 (.app (.fld (.set (.set (.lit (.a [(.i 0), (.i 0), (.s ⟨#[]⟩), (.r [])])) 0 (.lit (.i 3))) 2 (.fld (.tok 0) 2)) 3) (.fld (.tok 0) 3))) 3) (.tok 1)))]), (.lit (.a [(.i 0), (.i 0), (.s ⟨#[]⟩), (.r [])])), (.lit (.i 0))])))))))))))))))
set_option maxRecDepth 100000 in
theorem code_ref16_Add (g0 g1 g2 g3 g4 : List D → Option (List D)) : ∀ cd, Try.f24.body = some cd → treeOf Try.prog [(ct_ref03_Valid, g0), (ct_ref03_Clone, g1), (ct_ref06_Inst, g2), (ct_ref06_Type, g3), (ct_ref16_small, g4)] ann_ref16_Add ct_ref16_Add Try.f24 cd = tree_ref16_Add := by
  intro cd h
  injection h with h
  subst h
  kernel_rfl
theorem fok_ref16_Add {g0 g1 g2 g3 g4 : List D → Option (List D)} {g : List D → Option (List D)} (h0 : FOk ct_ref03_Valid g0) (h1 : FOk ct_ref03_Clone g1) (h2 : FOk ct_ref06_Inst g2) (h3 : FOk ct_ref06_Type g3) (h4 : FOk ct_ref16_small g4) (h : ∀ ds outs, WfA ct_ref16_Add.ars ds → g ds = some outs → tree_ref16_Add.go (tblS [(ct_ref03_Valid, g0), (ct_ref03_Clone, g1), (ct_ref06_Inst, g2), (ct_ref06_Type, g3), (ct_ref16_small, g4)]) (fun o => o = outs) ds fun _ _ => False) : FOk ct_ref16_Add g :=
  fok_of ann_ref16_Add Try.f24 _ (.cons h0 (.cons h1 (.cons h2 (.cons h3 (.cons h4 .nil))))) rfl rfl enter_ref16_Add (by decide) fun ds outs hw hg => by rw [code_ref16_Add g0 g1 g2 g3 g4 _ rfl]; exact h ds outs hw hg

def ct_law16_BodyAdds : Ct := ⟨6, [.val (.st 23), .val (.row 24)], [(.bool, false)], [], none⟩
theorem enter_law16_BodyAdds (args : Array Value) (w : World) : (callFunc ct_law16_BodyAdds.f args).run Try.prog w = .ok (.enter ct_law16_BodyAdds.f args) w := by kernel_rfl
def ann_law16_BodyAdds : Ann := ⟨[0, 1, 2, 4, 5, 6, 7, 8, 9, 10], []⟩
def tree_law16_BodyAdds : Tree := (.need [(.ok 0 [(.tok 0), (.tok 1)])] (.need [(.ok 1 [(.tok 0), (.tok 1)])] (.need [(.imp (.eq (.call 0 2 [(.tok 0), (.tok 1)]) (.call 1 2 [(.tok 0), (.tok 1)])) (.ok 2 [(.call 0 0 [(.tok 0), (.tok 1)]), (.call 1 0 [(.tok 0), (.tok 1)])])), (.imp (.and (.eq (.call 0 2 [(.tok 0), (.tok 1)]) (.call 1 2 [(.tok 0), (.tok 1)])) (.call 2 0 [(.call 0 0 [(.tok 0), (.tok 1)]), (.call 1 0 [(.tok 0), (.tok 1)])])) (.ok 2 [(.call 0 1 [(.tok 0), (.tok 1)]), (.call 1 1 [(.tok 0), (.tok 1)])])), (.imp (.and (.and (.eq (.call 0 2 [(.tok 0), (.tok 1)]) (.call 1 2 [(.tok 0), (.tok 1)])) (.call 2 0 [(.call 0 0 [(.tok 0), (.tok 1)]), (.call 1 0 [(.tok 0), (.tok 1)])])) (.call 2 0 [(.call 0 1 [(.tok 0), (.tok 1)]), (.call 1 1 [(.tok 0), (.tok 1)])])) (.ok 3 []))] (.leaf [(.and (.and (.and (.eq (.call 0 2 [(.tok 0), (.tok 1)]) (.call 1 2 [(.tok 0), (.tok 1)])) (.call 2 0 [(.call 0 0 [(.tok 0), (.tok 1)]), (.call 1 0 [(.tok 0), (.tok 1)])])) (.call 2 0 [(.call 0 1 [(.tok 0), (.tok 1)]), (.call 1 1 [(.tok 0), (.tok 1)])])) (.call 3 0 []))]))))
set_option maxRecDepth 100000 in
theorem code_law16_BodyAdds (g0 g1 g2 g3 : List D → Option (List D)) : ∀ cd, Try.f6.body = some cd → treeOf Try.prog [(ct_body_Add, g0), (ct_ref16_Add, g1), (ct_law16_same, g2), (ct_law16_awake, g3)] ann_law16_BodyAdds ct_law16_BodyAdds Try.f6 cd = tree_law16_BodyAdds := by
  intro cd h
  injection h with h
  subst h
  kernel_rfl
theorem fok_law16_BodyAdds {g0 g1 g2 g3 : List D → Option (List D)} {g : List D → Option (List D)} (h0 : FOk ct_body_Add g0) (h1 : FOk ct_ref16_Add g1) (h2 : FOk ct_law16_same g2) (h3 : FOk ct_law16_awake g3) (h : ∀ ds outs, WfA ct_law16_BodyAdds.ars ds → g ds = some outs → tree_law16_BodyAdds.go (tblS [(ct_body_Add, g0), (ct_ref16_Add, g1), (ct_law16_same, g2), (ct_law16_awake, g3)]) (fun o => o = outs) ds fun _ _ => False) : FOk ct_law16_BodyAdds g :=
  fok_of ann_law16_BodyAdds Try.f6 _ (.cons h0 (.cons h1 (.cons h2 (.cons h3 .nil)))) rfl rfl enter_law16_BodyAdds (by decide) fun ds outs hw hg => by rw [code_law16_BodyAdds g0 g1 g2 g3 _ rfl]; exact h ds outs hw hg

def ct_law16_BodyConverted : Ct := ⟨7, [.val (.st 23)], [(.bool, false)], [], none⟩
theorem enter_law16_BodyConverted (args : Array Value) (w : World) : (callFunc ct_law16_BodyConverted.f args).run Try.prog w = .ok (.enter ct_law16_BodyConverted.f args) w := by kernel_rfl
def ann_law16_BodyConverted : Ann := ⟨[0, 1, 2, 3, 4, 5, 6, 7, 8, 9, 22, 40, 43], []⟩
def tree_law16_BodyConverted : Tree := (.need [(.ok 0 [(.tok 0)])] (.need [(.ok 1 [(.tok 0)])] (.br (.not (.call 0 1 [(.tok 0)])) (.need [(.imp (.not (.call 1 2 [(.tok 0)])) (.ok 2 []))] (.leaf [(.and (.not (.call 1 2 [(.tok 0)])) (.call 2 0 []))])) (.need [(.ok 0 [(.call 0 0 [(.tok 0)])])] (.need [(.imp (.not (.not (.call 0 1 [(.call 0 0 [(.tok 0)])]))) (.ok 3 [(.call 0 0 [(.call 0 0 [(.tok 0)])]), (.call 0 0 [(.tok 0)])]))] (.br (.or (.not (.call 0 1 [(.call 0 0 [(.tok 0)])])) (.not (.call 3 0 [(.call 0 0 [(.call 0 0 [(.tok 0)])]), (.call 0 0 [(.tok 0)])]))) (.leaf [(.lit (.b .false))]) (.br (.eq (.fld (.tok 0) 0) (.lit (.i 0))) (.need [(.imp (.not (.call 1 2 [(.tok 0)])) (.ok 3 [(.call 1 1 [(.tok 0)]), (.lit (.a [(.i 0), (.i 0), (.s ⟨#[]⟩), (.r [])]))])), (.imp (.and (.not (.call 1 2 [(.tok 0)])) (.not (.call 3 0 [(.call 1 1 [(.tok 0)]), (.lit (.a [(.i 0), (.i 0), (.s ⟨#[]⟩), (.r [])]))]))) (.ok 2 []))] (.leaf [(.and (.and (.not (.call 1 2 [(.tok 0)])) (.not (.call 3 0 [(.call 1 1 [(.tok 0)]), (.lit (.a [(.i 0), (.i 0), (.s ⟨#[]⟩), (.r [])]))]))) (.call 2 0 []))])) (.need [(.imp (.call 1 2 [(.tok 0)]) (.ok 3 [(.call 1 0 [(.tok 0)]), (.call 0 0 [(.tok 0)])])), (.imp (.and (.call 1 2 [(.tok 0)]) (.call 3 0 [(.call 1 0 [(.tok 0)]), (.call 0 0 [(.tok 0)])])) (.ok 2 []))] (.leaf [(.and (.and (.call 1 2 [(.tok 0)]) (.call 3 0 [(.call 1 0 [(.tok 0)]), (.call 0 0 [(.tok 0)])])) (.call 2 0 []))])))))))))
set_option maxRecDepth 100000 in
theorem code_law16_BodyConverted (g0 g1 g2 g3 : List D → Option (List D)) : ∀ cd, Try.f7.body = some cd → treeOf Try.prog [(ct_body_Goal, g0), (ct_body_Check, g1), (ct_law16_awake, g2), (ct_ref03_Same, g3)] ann_law16_BodyConverted ct_law16_BodyConverted Try.f7 cd = tree_law16_BodyConverted := by
  intro cd h
  injection h with h
  subst h
  kernel_rfl
theorem fok_law16_BodyConverted {g0 g1 g2 g3 : List D → Option (List D)} {g : List D → Option (List D)} (h0 : FOk ct_body_Goal g0) (h1 : FOk ct_body_Check g1) (h2 : FOk ct_law16_awake g2) (h3 : FOk ct_ref03_Same g3) (h : ∀ ds outs, WfA ct_law16_BodyConverted.ars ds → g ds = some outs → tree_law16_BodyConverted.go (tblS [(ct_body_Goal, g0), (ct_body_Check, g1), (ct_law16_awake, g2), (ct_ref03_Same, g3)]) (fun o => o = outs) ds fun _ _ => False) : FOk ct_law16_BodyConverted g :=
  fok_of ann_law16_BodyConverted Try.f7 _ (.cons h0 (.cons h1 (.cons h2 (.cons h3 .nil)))) rfl rfl enter_law16_BodyConverted (by decide) fun ds outs hw hg => by rw [code_law16_BodyConverted g0 g1 g2 g3 _ rfl]; exact h ds outs hw hg

def ct_term_identical : Ct := ⟨88, [.val (.st 23), .val (.st 23)], [(.bool, false)], [], none⟩
theorem enter_term_identical (args : Array Value) (w : World) : (callFunc ct_term_identical.f args).run Try.prog w = .ok (.enter ct_term_identical.f args) w := by kernel_rfl
def ann_term_identical : Ann := ⟨[0, 1, 2, 3, 4, 5, 6, 34, 36, 37, 38, 39, 50], [(4, ⟨[(4, .bool, false), (38, .int .i64, false)], [], [39, 40, 41, 42, 6, 5, 43, 44, 45, 46, 47, 48, 49, 50, 51], []⟩)]⟩
def tree_term_identical : Tree := (.br (.or (.or (.or (.not (.eq (.fld (.tok 0) 0) (.fld (.tok 1) 0))) (.not (.eq (.fld (.tok 0) 1) (.fld (.tok 1) 1)))) (.not (.eq (.fld (.tok 0) 2) (.fld (.tok 1) 2)))) (.not (.eq (.len (.fld (.tok 0) 3)) (.len (.fld (.tok 1) 3))))) (.leaf [(.lit (.b .false))]) (.loop 4 2 [(.lit (.b .false)), (.lit (.i 0))] (.br (.lt (.tok 3) (.len (.fld (.tok 0) 3))) (.need [(.le (.lit (.i 0)) (.tok 3)), (.lt (.tok 3) (.len (.fld (.tok 0) 3)))] (.need [(.ok 0 [(.get (.fld (.tok 0) 3) (.tok 3)), (.get (.fld (.tok 1) 3) (.tok 3))]), (.le (.lit (.i 0)) (.tok 3)), (.lt (.tok 3) (.len (.fld (.tok 1) 3)))] (.br (.not (.call 0 0 [(.get (.fld (.tok 0) 3) (.tok 3)), (.get (.fld (.tok 1) 3) (.tok 3))])) (.leaf [(.lit (.b .false))]) (.need [(.rng .i64 (.add (.tok 3) (.lit (.i 1))))] (.back 4 [(.tok 2), (.add (.tok 3) (.lit (.i 1)))]))))) (.leaf [(.lit (.b .true))]))))
set_option maxRecDepth 100000 in
theorem code_term_identical (g0 : List D → Option (List D)) : ∀ cd, Try.f88.body = some cd → treeOf Try.prog [(ct_term_identical, g0)] ann_term_identical ct_term_identical Try.f88 cd = tree_term_identical := by
  intro cd h
  injection h with h
  subst h
  kernel_rfl
theorem fok_term_identical {g0 : List D → Option (List D)} {g : List D → Option (List D)} (h0 : FOk ct_term_identical g0) (h : ∀ ds outs, WfA ct_term_identical.ars ds → g ds = some outs → tree_term_identical.go (tblS [(ct_term_identical, g0)]) (fun o => o = outs) ds fun _ _ => False) : FOk ct_term_identical g :=
  fok_of ann_term_identical Try.f88 _ (.cons h0 .nil) rfl rfl enter_term_identical (by decide) fun ds outs hw hg => by rw [code_term_identical g0 _ rfl]; exact h ds outs hw hg

def ct_term_Same : Ct := ⟨63, [.val (.st 23), .val (.st 23)], [(.bool, false)], [], none⟩
theorem enter_term_Same (args : Array Value) (w : World) : (callFunc ct_term_Same.f args).run Try.prog w = .ok (.enter ct_term_Same.f args) w := by kernel_rfl
def ann_term_Same : Ann := ⟨[0, 1, 2, 3, 4], []⟩
def tree_term_Same : Tree := (.need [(.ok 0 [(.tok 0)]), (.imp (.call 0 0 [(.tok 0)]) (.ok 0 [(.tok 1)])), (.imp (.and (.call 0 0 [(.tok 0)]) (.call 0 0 [(.tok 1)])) (.ok 1 [(.tok 0), (.tok 1)]))] (.leaf [(.and (.and (.call 0 0 [(.tok 0)]) (.call 0 0 [(.tok 1)])) (.call 1 0 [(.tok 0), (.tok 1)]))]))
set_option maxRecDepth 100000 in
theorem code_term_Same (g0 g1 : List D → Option (List D)) : ∀ cd, Try.f63.body = some cd → treeOf Try.prog [(ct_term_Valid, g0), (ct_term_identical, g1)] ann_term_Same ct_term_Same Try.f63 cd = tree_term_Same := by
  intro cd h
  injection h with h
  subst h
  kernel_rfl
theorem fok_term_Same {g0 g1 : List D → Option (List D)} {g : List D → Option (List D)} (h0 : FOk ct_term_Valid g0) (h1 : FOk ct_term_identical g1) (h : ∀ ds outs, WfA ct_term_Same.ars ds → g ds = some outs → tree_term_Same.go (tblS [(ct_term_Valid, g0), (ct_term_identical, g1)]) (fun o => o = outs) ds fun _ _ => False) : FOk ct_term_Same g :=
  fok_of ann_term_Same Try.f63 _ (.cons h0 (.cons h1 .nil)) rfl rfl enter_term_Same (by decide) fun ds outs hw hg => by rw [code_term_Same g0 g1 _ rfl]; exact h ds outs hw hg

def ct_body_Valid : Ct := ⟨26, [.val (.st 34)], [(.bool, false)], [], none⟩
theorem enter_body_Valid (args : Array Value) (w : World) : (callFunc ct_body_Valid.f args).run Try.prog w = .ok (.enter ct_body_Valid.f args) w := by kernel_rfl
def ann_body_Valid : Ann := ⟨[0, 1, 2, 3, 4, 5, 20, 35], []⟩
def tree_body_Valid : Tree := (.need [(.ok 0 [(.fld (.tok 0) 0)]), (.imp (.not (.not (.call 0 0 [(.fld (.tok 0) 0)]))) (.ok 1 [(.fld (.tok 0) 0)])), (.imp (.not (.or (.not (.call 0 0 [(.fld (.tok 0) 0)])) (.not (.call 1 0 [(.fld (.tok 0) 0)])))) (.ok 2 [(.tok 0)]))] (.br (.or (.or (.not (.call 0 0 [(.fld (.tok 0) 0)])) (.not (.call 1 0 [(.fld (.tok 0) 0)]))) (.not (.call 2 0 [(.tok 0)]))) (.leaf [(.lit (.b .false))]) (.need [(.ok 3 [(.fld (.tok 0) 1)])] (.need [(.imp (.not (.not (.call 3 1 [(.fld (.tok 0) 1)]))) (.ok 4 [(.call 3 0 [(.fld (.tok 0) 1)]), (.fld (.tok 0) 1)]))] (.br (.or (.not (.call 3 1 [(.fld (.tok 0) 1)])) (.not (.call 4 0 [(.call 3 0 [(.fld (.tok 0) 1)]), (.fld (.tok 0) 1)]))) (.leaf [(.lit (.b .false))]) (.need [(.ok 5 [(.tok 0)])] (.need [(.imp (.le (.call 5 1 [(.tok 0)]) (.lit (.i 64))) (.ok 4 [(.fld (.call 5 0 [(.tok 0)]) 0), (.fld (.tok 0) 0)])), (.imp (.and (.le (.call 5 1 [(.tok 0)]) (.lit (.i 64))) (.call 4 0 [(.fld (.call 5 0 [(.tok 0)]) 0), (.fld (.tok 0) 0)])) (.ok 4 [(.fld (.call 5 0 [(.tok 0)]) 1), (.fld (.tok 0) 1)]))] (.leaf [(.and (.and (.le (.call 5 1 [(.tok 0)]) (.lit (.i 64))) (.call 4 0 [(.fld (.call 5 0 [(.tok 0)]) 0), (.fld (.tok 0) 0)])) (.call 4 0 [(.fld (.call 5 0 [(.tok 0)]) 1), (.fld (.tok 0) 1)]))]))))))))
set_option maxRecDepth 100000 in
theorem code_body_Valid (g0 g1 g2 g3 g4 g5 : List D → Option (List D)) : ∀ cd, Try.f26.body = some cd → treeOf Try.prog [(ct_term_Valid, g0), (ct_body_callable, g1), (ct_body_fits, g2), (ct_body_Goal, g3), (ct_term_Same, g4), (ct_body_canonical, g5)] ann_body_Valid ct_body_Valid Try.f26 cd = tree_body_Valid := by
  intro cd h
  injection h with h
  subst h
  kernel_rfl
theorem fok_body_Valid {g0 g1 g2 g3 g4 g5 : List D → Option (List D)} {g : List D → Option (List D)} (h0 : FOk ct_term_Valid g0) (h1 : FOk ct_body_callable g1) (h2 : FOk ct_body_fits g2) (h3 : FOk ct_body_Goal g3) (h4 : FOk ct_term_Same g4) (h5 : FOk ct_body_canonical g5) (h : ∀ ds outs, WfA ct_body_Valid.ars ds → g ds = some outs → tree_body_Valid.go (tblS [(ct_term_Valid, g0), (ct_body_callable, g1), (ct_body_fits, g2), (ct_body_Goal, g3), (ct_term_Same, g4), (ct_body_canonical, g5)]) (fun o => o = outs) ds fun _ _ => False) : FOk ct_body_Valid g :=
  fok_of ann_body_Valid Try.f26 _ (.cons h0 (.cons h1 (.cons h2 (.cons h3 (.cons h4 (.cons h5 .nil)))))) rfl rfl enter_body_Valid (by decide) fun ds outs hw hg => by rw [code_body_Valid g0 g1 g2 g3 g4 g5 _ rfl]; exact h ds outs hw hg

def ct_ref03_SameAll : Ct := ⟨64, [.val (.row 24), .val (.row 24)], [(.bool, false)], [], none⟩
theorem enter_ref03_SameAll (args : Array Value) (w : World) : (callFunc ct_ref03_SameAll.f args).run Try.prog w = .ok (.enter ct_ref03_SameAll.f args) w := by kernel_rfl
def ann_ref03_SameAll : Ann := ⟨[0, 1, 4, 5, 10, 14, 26], [(4, ⟨[(4, .bool, false), (5, .int .i64, false)], [], [11, 12, 13, 14, 17, 18, 19, 20, 21, 22, 23, 24, 25, 26, 15, 16], []⟩)]⟩
def tree_ref03_SameAll : Tree := (.br (.not (.eq (.len (.tok 0)) (.len (.tok 1)))) (.leaf [(.lit (.b .false))]) (.loop 4 2 [(.lit (.b .false)), (.lit (.i 0))] (.br (.lt (.tok 3) (.len (.tok 0))) (.need [(.ok 0 [(.get (.tok 0) (.tok 3)), (.get (.tok 1) (.tok 3))]), (.le (.lit (.i 0)) (.tok 3)), (.lt (.tok 3) (.len (.tok 1))), (.le (.lit (.i 0)) (.tok 3)), (.lt (.tok 3) (.len (.tok 0)))] (.br (.not (.call 0 0 [(.get (.tok 0) (.tok 3)), (.get (.tok 1) (.tok 3))])) (.leaf [(.lit (.b .false))]) (.need [(.rng .i64 (.add (.tok 3) (.lit (.i 1))))] (.back 4 [(.tok 2), (.add (.tok 3) (.lit (.i 1)))])))) (.leaf [(.lit (.b .true))]))))
set_option maxRecDepth 100000 in
theorem code_ref03_SameAll (g0 : List D → Option (List D)) : ∀ cd, Try.f64.body = some cd → treeOf Try.prog [(ct_ref03_Same, g0)] ann_ref03_SameAll ct_ref03_SameAll Try.f64 cd = tree_ref03_SameAll := by
  intro cd h
  injection h with h
  subst h
  kernel_rfl
theorem fok_ref03_SameAll {g0 : List D → Option (List D)} {g : List D → Option (List D)} (h0 : FOk ct_ref03_Same g0) (h : ∀ ds outs, WfA ct_ref03_SameAll.ars ds → g ds = some outs → tree_ref03_SameAll.go (tblS [(ct_ref03_Same, g0)]) (fun o => o = outs) ds fun _ _ => False) : FOk ct_ref03_SameAll g :=
  fok_of ann_ref03_SameAll Try.f64 _ (.cons h0 .nil) rfl rfl enter_ref03_SameAll (by decide) fun ds outs hw hg => by rw [code_ref03_SameAll g0 _ rfl]; exact h ds outs hw hg

def ct_ref16_Valid : Ct := ⟨27, [.val (.st 34)], [(.bool, false)], [], none⟩
theorem enter_ref16_Valid (args : Array Value) (w : World) : (callFunc ct_ref16_Valid.f args).run Try.prog w = .ok (.enter ct_ref16_Valid.f args) w := by kernel_rfl
def ann_ref16_Valid : Ann := ⟨[0, 1, 2, 3, 4, 5, 27, 52], []⟩
def tree_ref16_Valid : Tree := (.need [(.ok 0 [(.fld (.tok 0) 0)]), (.imp (.not (.not (.call 0 0 [(.fld (.tok 0) 0)]))) (.ok 0 [(.fld (.tok 0) 1)]))] (.br (.or (.or (.not (.call 0 0 [(.fld (.tok 0) 0)])) (.not (.call 0 0 [(.fld (.tok 0) 1)]))) (.and (.not (.eq (.fld (.fld (.tok 0) 0) 0) (.lit (.i 2)))) (.not (.eq (.fld (.fld (.tok 0) 0) 0) (.lit (.i 3)))))) (.leaf [(.lit (.b .false))]) (.need [(.ok 1 [(.fld (.tok 0) 1)])] (.need [(.imp (.not (.or (.not (.call 1 1 [(.fld (.tok 0) 1)])) (.not (.call 2 0 [(.call 1 0 [(.fld (.tok 0) 1)]), (.fld (.tok 0) 1)])))) (.rng .i64 (.add (.call 3 0 [(.fld (.tok 0) 0)]) (.call 3 0 [(.fld (.tok 0) 1)])))), (.imp (.not (.or (.not (.call 1 1 [(.fld (.tok 0) 1)])) (.not (.call 2 0 [(.call 1 0 [(.fld (.tok 0) 1)]), (.fld (.tok 0) 1)])))) (.ok 3 [(.fld (.tok 0) 1)])), (.imp (.not (.or (.not (.call 1 1 [(.fld (.tok 0) 1)])) (.not (.call 2 0 [(.call 1 0 [(.fld (.tok 0) 1)]), (.fld (.tok 0) 1)])))) (.ok 3 [(.fld (.tok 0) 0)])), (.imp (.not (.or (.not (.call 1 1 [(.fld (.tok 0) 1)])) (.not (.call 2 0 [(.call 1 0 [(.fld (.tok 0) 1)]), (.fld (.tok 0) 1)])))) (.ok 3 [(.fld (.tok 0) 0)])), (.imp (.not (.not (.call 1 1 [(.fld (.tok 0) 1)]))) (.ok 2 [(.call 1 0 [(.fld (.tok 0) 1)]), (.fld (.tok 0) 1)]))] (.br (.or (.or (.not (.call 1 1 [(.fld (.tok 0) 1)])) (.not (.call 2 0 [(.call 1 0 [(.fld (.tok 0) 1)]), (.fld (.tok 0) 1)]))) (.lt (.lit (.i 2000)) (.add (.call 3 0 [(.fld (.tok 0) 0)]) (.call 3 0 [(.fld (.tok 0) 1)])))) (.leaf [(.lit (.b .false))]) (.need [(.ok 4 [(.row [(.fld (.tok 0) 0), (.fld (.tok 0) 1)])]), (.imp (.le (.len (.call 4 0 [(.row [(.fld (.tok 0) 0), (.fld (.tok 0) 1)])])) (.lit (.i 64))) (.ok 5 [(.row [(.fld (.tok 0) 0), (.fld (.tok 0) 1)])])), (.imp (.le (.len (.call 4 0 [(.row [(.fld (.tok 0) 0), (.fld (.tok 0) 1)])])) (.lit (.i 64))) (.ok 6 [(.call 5 0 [(.row [(.fld (.tok 0) 0), (.fld (.tok 0) 1)])]), (.row [(.fld (.tok 0) 0), (.fld (.tok 0) 1)])]))] (.leaf [(.and (.le (.len (.call 4 0 [(.row [(.fld (.tok 0) 0), (.fld (.tok 0) 1)])])) (.lit (.i 64))) (.call 6 0 [(.call 5 0 [(.row [(.fld (.tok 0) 0), (.fld (.tok 0) 1)])]), (.row [(.fld (.tok 0) 0), (.fld (.tok 0) 1)])]))])))))))
set_option maxRecDepth 100000 in
theorem code_ref16_Valid (g0 g1 g2 g3 g4 g5 g6 : List D → Option (List D)) : ∀ cd, Try.f27.body = some cd → treeOf Try.prog [(ct_ref03_Valid, g0), (ct_ref16_convert, g1), (ct_ref03_Same, g2), (ct_ref03_Size, g3), (ct_ref03_VarsAll, g4), (ct_ref03_CanonAll, g5), (ct_ref03_SameAll, g6)] ann_ref16_Valid ct_ref16_Valid Try.f27 cd = tree_ref16_Valid := by
  intro cd h
  injection h with h
  subst h
  kernel_rfl
theorem fok_ref16_Valid {g0 g1 g2 g3 g4 g5 g6 : List D → Option (List D)} {g : List D → Option (List D)} (h0 : FOk ct_ref03_Valid g0) (h1 : FOk ct_ref16_convert g1) (h2 : FOk ct_ref03_Same g2) (h3 : FOk ct_ref03_Size g3) (h4 : FOk ct_ref03_VarsAll g4) (h5 : FOk ct_ref03_CanonAll g5) (h6 : FOk ct_ref03_SameAll g6) (h : ∀ ds outs, WfA ct_ref16_Valid.ars ds → g ds = some outs → tree_ref16_Valid.go (tblS [(ct_ref03_Valid, g0), (ct_ref16_convert, g1), (ct_ref03_Same, g2), (ct_ref03_Size, g3), (ct_ref03_VarsAll, g4), (ct_ref03_CanonAll, g5), (ct_ref03_SameAll, g6)]) (fun o => o = outs) ds fun _ _ => False) : FOk ct_ref16_Valid g :=
  fok_of ann_ref16_Valid Try.f27 _ (.cons h0 (.cons h1 (.cons h2 (.cons h3 (.cons h4 (.cons h5 (.cons h6 .nil))))))) rfl rfl enter_ref16_Valid (by decide) fun ds outs hw hg => by rw [code_ref16_Valid g0 g1 g2 g3 g4 g5 g6 _ rfl]; exact h ds outs hw hg

def ct_body_Term : Ct := ⟨28, [.val (.st 34)], [(.st 23, false)], [], none⟩
theorem enter_body_Term (args : Array Value) (w : World) : (callFunc ct_body_Term.f args).run Try.prog w = .ok (.enter ct_body_Term.f args) w := by kernel_rfl
def ann_body_Term : Ann := ⟨[0, 1, 2, 3, 6, 38], []⟩
def tree_body_Term : Tree := (.need [(.ok 0 [(.tok 0)])] (.br (.not (.call 0 0 [(.tok 0)])) (.leaf [(.lit (.a [(.i 0), (.i 0), (.s ⟨#[]⟩), (.r [])]))]) (.br (.and (.and (.eq (.fld (.fld (.tok 0) 1) 0) (.lit (.i 2))) (.eq (.fld (.fld (.tok 0) 1) 2) (.lit (.s ⟨#[116, 114, 117, 101]⟩)))) (.not (.and (.and (.eq (.fld (.fld (.tok 0) 0) 0) (.lit (.i 3))) (.eq (.fld (.fld (.tok 0) 0) 2) (.lit (.s ⟨#[58, 45]⟩)))) (.eq (.len (.fld (.fld (.tok 0) 0) 3)) (.lit (.i 2)))))) (.need [(.ok 1 [(.fld (.tok 0) 0)])] (.leaf [(.call 1 0 [(.fld (.tok 0) 0)])])) (.need [(.ok 2 [(.lit (.s ⟨#[58, 45]⟩)), (.row [(.fld (.tok 0) 0), (.fld (.tok 0) 1)])])] (.leaf [(.call 2 0 [(.lit (.s ⟨#[58, 45]⟩)), (.row [(.fld (.tok 0) 0), (.fld (.tok 0) 1)])])])))))
set_option maxRecDepth 100000 in
theorem code_body_Term (g0 g1 g2 : List D → Option (List D)) : ∀ cd, Try.f28.body = some cd → treeOf Try.prog [(ct_body_Valid, g0), (ct_term_Clone, g1), (ct_term_Struct, g2)] ann_body_Term ct_body_Term Try.f28 cd = tree_body_Term := by
  intro cd h
  injection h with h
  subst h
  kernel_rfl
theorem fok_body_Term {g0 g1 g2 : List D → Option (List D)} {g : List D → Option (List D)} (h0 : FOk ct_body_Valid g0) (h1 : FOk ct_term_Clone g1) (h2 : FOk ct_term_Struct g2) (h : ∀ ds outs, WfA ct_body_Term.ars ds → g ds = some outs → tree_body_Term.go (tblS [(ct_body_Valid, g0), (ct_term_Clone, g1), (ct_term_Struct, g2)]) (fun o => o = outs) ds fun _ _ => False) : FOk ct_body_Term g :=
  fok_of ann_body_Term Try.f28 _ (.cons h0 (.cons h1 (.cons h2 .nil))) rfl rfl enter_body_Term (by decide) fun ds outs hw hg => by rw [code_body_Term g0 g1 g2 _ rfl]; exact h ds outs hw hg

def ct_ref16_Term : Ct := ⟨29, [.val (.st 34)], [(.st 23, false)], [], none⟩
theorem enter_ref16_Term (args : Array Value) (w : World) : (callFunc ct_ref16_Term.f args).run Try.prog w = .ok (.enter ct_ref16_Term.f args) w := by kernel_rfl
def ann_ref16_Term : Ann := ⟨[0, 1, 2, 5, 15], []⟩
def tree_ref16_Term : Tree := (.need [(.ok 0 [(.tok 0)])] (.br (.not (.call 0 0 [(.tok 0)])) (.leaf [(.lit (.a [(.i 0), (.i 0), (.s ⟨#[]⟩), (.r [])]))]) (.need [(.ok 1 [(.fld (.tok 0) 1), (.lit (.s ⟨#[116, 114, 117, 101]⟩)), (.lit (.i 0))]), (.imp (.call 1 0 [(.fld (.tok 0) 1), (.lit (.s ⟨#[116, 114, 117, 101]⟩)), (.lit (.i 0))]) (.ok 1 [(.fld (.tok 0) 0), (.lit (.s ⟨#[58, 45]⟩)), (.lit (.i 2))]))] (.br (.and (.call 1 0 [(.fld (.tok 0) 1), (.lit (.s ⟨#[116, 114, 117, 101]⟩)), (.lit (.i 0))]) (.not (.call 1 0 [(.fld (.tok 0) 0), (.lit (.s ⟨#[58, 45]⟩)), (.lit (.i 2))]))) (.need [(.ok 2 [(.fld (.tok 0) 0)])] (.leaf [(.call 2 0 [(.fld (.tok 0) 0)])])) (.need [(.ok 2 [(.set (.set (.set (.lit (.a [(.i 0), (.i 0), (.s ⟨#[]⟩), (.r [])])) 0 (.lit (.i 3))) 2 (.lit (.s ⟨#[58, 45]⟩))) 3 (.row [(.fld (.tok 0) 0), (.fld (.tok 0) 1)]))])] (.leaf [(.call 2 0 [(.set (.set (.set (.lit (.a [(.i 0), (.i 0), (.s ⟨#[]⟩), (.r [])])) 0 (.lit (.i 3))) 2 (.lit (.s ⟨#[58, 45]⟩))) 3 (.row [(.fld (.tok 0) 0), (.fld (.tok 0) 1)]))])]))))))
set_option maxRecDepth 100000 in
theorem code_ref16_Term (g0 g1 g2 : List D → Option (List D)) : ∀ cd, Try.f29.body = some cd → treeOf Try.prog [(ct_ref16_Valid, g0), (ct_ref16_Is, g1), (ct_ref03_Clone, g2)] ann_ref16_Term ct_ref16_Term Try.f29 cd = tree_ref16_Term := by
  intro cd h
  injection h with h
  subst h
  kernel_rfl
theorem fok_ref16_Term {g0 g1 g2 : List D → Option (List D)} {g : List D → Option (List D)} (h0 : FOk ct_ref16_Valid g0) (h1 : FOk ct_ref16_Is g1) (h2 : FOk ct_ref03_Clone g2) (h : ∀ ds outs, WfA ct_ref16_Term.ars ds → g ds = some outs → tree_ref16_Term.go (tblS [(ct_ref16_Valid, g0), (ct_ref16_Is, g1), (ct_ref03_Clone, g2)]) (fun o => o = outs) ds fun _ _ => False) : FOk ct_ref16_Term g :=
  fok_of ann_ref16_Term Try.f29 _ (.cons h0 (.cons h1 (.cons h2 .nil))) rfl rfl enter_ref16_Term (by decide) fun ds outs hw hg => by rw [code_ref16_Term g0 g1 g2 _ rfl]; exact h ds outs hw hg

def ct_law16_BodyTerms : Ct := ⟨8, [.val (.st 34)], [(.bool, false)], [], none⟩
theorem enter_law16_BodyTerms (args : Array Value) (w : World) : (callFunc ct_law16_BodyTerms.f args).run Try.prog w = .ok (.enter ct_law16_BodyTerms.f args) w := by kernel_rfl
def ann_law16_BodyTerms : Ann := ⟨[0, 1, 2], []⟩
def tree_law16_BodyTerms : Tree := (.need [(.imp (.and (.eq (.call 0 0 [(.tok 0)]) (.call 1 0 [(.tok 0)])) (.call 4 0 [(.call 2 0 [(.tok 0)]), (.call 3 0 [(.tok 0)])])) (.ok 5 [])), (.imp (.eq (.call 0 0 [(.tok 0)]) (.call 1 0 [(.tok 0)])) (.ok 4 [(.call 2 0 [(.tok 0)]), (.call 3 0 [(.tok 0)])])), (.imp (.eq (.call 0 0 [(.tok 0)]) (.call 1 0 [(.tok 0)])) (.ok 3 [(.tok 0)])), (.imp (.eq (.call 0 0 [(.tok 0)]) (.call 1 0 [(.tok 0)])) (.ok 2 [(.tok 0)])), (.ok 1 [(.tok 0)]), (.ok 0 [(.tok 0)])] (.leaf [(.and (.and (.eq (.call 0 0 [(.tok 0)]) (.call 1 0 [(.tok 0)])) (.call 4 0 [(.call 2 0 [(.tok 0)]), (.call 3 0 [(.tok 0)])])) (.call 5 0 []))]))
set_option maxRecDepth 100000 in
theorem code_law16_BodyTerms (g0 g1 g2 g3 g4 g5 : List D → Option (List D)) : ∀ cd, Try.f8.body = some cd → treeOf Try.prog [(ct_body_Valid, g0), (ct_ref16_Valid, g1), (ct_body_Term, g2), (ct_ref16_Term, g3), (ct_law16_same, g4), (ct_law16_awake, g5)] ann_law16_BodyTerms ct_law16_BodyTerms Try.f8 cd = tree_law16_BodyTerms := by
  intro cd h
  injection h with h
  subst h
  kernel_rfl
theorem fok_law16_BodyTerms {g0 g1 g2 g3 g4 g5 : List D → Option (List D)} {g : List D → Option (List D)} (h0 : FOk ct_body_Valid g0) (h1 : FOk ct_ref16_Valid g1) (h2 : FOk ct_body_Term g2) (h3 : FOk ct_ref16_Term g3) (h4 : FOk ct_law16_same g4) (h5 : FOk ct_law16_awake g5) (h : ∀ ds outs, WfA ct_law16_BodyTerms.ars ds → g ds = some outs → tree_law16_BodyTerms.go (tblS [(ct_body_Valid, g0), (ct_ref16_Valid, g1), (ct_body_Term, g2), (ct_ref16_Term, g3), (ct_law16_same, g4), (ct_law16_awake, g5)]) (fun o => o = outs) ds fun _ _ => False) : FOk ct_law16_BodyTerms g :=
  fok_of ann_law16_BodyTerms Try.f8 _ (.cons h0 (.cons h1 (.cons h2 (.cons h3 (.cons h4 (.cons h5 .nil)))))) rfl rfl enter_law16_BodyTerms (by decide) fun ds outs hw hg => by rw [code_law16_BodyTerms g0 g1 g2 g3 g4 g5 _ rfl]; exact h ds outs hw hg

def ct_ref03_shift : Ct := ⟨66, [.val (.st 23), .val (.int .i64)], [(.st 23, false)], [], none⟩
theorem enter_ref03_shift (args : Array Value) (w : World) : (callFunc ct_ref03_shift.f args).run Try.prog w = .ok (.enter ct_ref03_shift.f args) w := by kernel_rfl
def ann_ref03_shift : Ann := ⟨[0, 1, 2, 4, 5, 6, 16, 26], [(5, ⟨[(6, .int .i64, false)], [5], [22, 23, 24, 25, 26, 29, 30, 31, 32, 33, 34, 35, 36, 37, 38, 39, 40, 27, 28], []⟩)]⟩
def tree_ref03_shift : Tree := (.br (.eq (.fld (.tok 0) 0) (.lit (.i 0))) (.need [(.rng .i64 (.add (.fld (.tok 0) 1) (.tok 1)))] (.loop 5 2 [(.lit (.i 0)), (.set (.set (.set (.set (.lit (.a [(.i 0), (.i 0), (.s ⟨#[]⟩), (.r [])])) 0 (.fld (.tok 0) 0)) 1 (.fld (.tok 0) 1)) 2 (.fld (.tok 0) 2)) 1 (.add (.fld (.tok 0) 1) (.tok 1)))] (.br (.lt (.tok 2) (.len (.fld (.tok 0) 3))) (.need [(.le (.lit (.i 0)) (.tok 2)), (.lt (.tok 2) (.len (.fld (.tok 0) 3))), (.ok 0 [(.get (.fld (.tok 0) 3) (.tok 2)), (.tok 1)]), (.le (.add (.len (.fld (.tok 3) 3)) (.lit (.i 1))) (.lit (.i 2513169434843)))] (.need [(.rng .i64 (.add (.tok 2) (.lit (.i 1))))] (.back 5 [(.add (.tok 2) (.lit (.i 1))), (.set (.tok 3) 3 (.app (.fld (.tok 3) 3) (.row [(.call 0 0 [(.get (.fld (.tok 0) 3) (.tok 2)), (.tok 1)])])))]))) (.leaf [(.tok 3)])))) (.loop 5 2 [(.lit (.i 0)), (.set (.set (.set (.lit (.a [(.i 0), (.i 0), (.s ⟨#[]⟩), (.r [])])) 0 (.fld (.tok 0) 0)) 1 (.fld (.tok 0) 1)) 2 (.fld (.tok 0) 2))] (.br (.lt (.tok 2) (.len (.fld (.tok 0) 3))) (.need [(.le (.lit (.i 0)) (.tok 2)), (.lt (.tok 2) (.len (.fld (.tok 0) 3))), (.ok 0 [(.get (.fld (.tok 0) 3) (.tok 2)), (.tok 1)]), (.le (.add (.len (.fld (.tok 3) 3)) (.lit (.i 1))) (.lit (.i 2513169434843)))] (.need [(.rng .i64 (.add (.tok 2) (.lit (.i 1))))] (.back 5 [(.add (.tok 2) (.lit (.i 1))), (.set (.tok 3) 3 (.app (.fld (.tok 3) 3) (.row [(.call 0 0 [(.get (.fld (.tok 0) 3) (.tok 2)), (.tok 1)])])))]))) (.leaf [(.tok 3)]))))
set_option maxRecDepth 100000 in
theorem code_ref03_shift (g0 : List D → Option (List D)) : ∀ cd, Try.f66.body = some cd → treeOf Try.prog [(ct_ref03_shift, g0)] ann_ref03_shift ct_ref03_shift Try.f66 cd = tree_ref03_shift := by
  intro cd h
  injection h with h
  subst h
  kernel_rfl
theorem fok_ref03_shift {g0 : List D → Option (List D)} {g : List D → Option (List D)} (h0 : FOk ct_ref03_shift g0) (h : ∀ ds outs, WfA ct_ref03_shift.ars ds → g ds = some outs → tree_ref03_shift.go (tblS [(ct_ref03_shift, g0)]) (fun o => o = outs) ds fun _ _ => False) : FOk ct_ref03_shift g :=
  fok_of ann_ref03_shift Try.f66 _ (.cons h0 .nil) rfl rfl enter_ref03_shift (by decide) fun ds outs hw hg => by rw [code_ref03_shift g0 _ rfl]; exact h ds outs hw hg

def ct_ref03_Rename : Ct := ⟨30, [.val (.st 23), .val (.int .i64)], [(.st 23, false), (.int .i64, false)], [], none⟩
theorem enter_ref03_Rename (args : Array Value) (w : World) : (callFunc ct_ref03_Rename.f args).run Try.prog w = .ok (.enter ct_ref03_Rename.f args) w := by kernel_rfl
def ann_ref03_Rename : Ann := ⟨[0, 1, 2, 4, 5, 6, 7, 18, 25, 34], [(5, ⟨[(5, .int .i64, false), (7, .int .i64, false)], [4], [22, 23, 24, 25, 28, 29, 30, 31, 32, 33, 34, 35, 26, 27], []⟩)]⟩
def tree_ref03_Rename : Tree := (.need [(.ok 0 [(.tok 0)])] (.br (.or (.or (.not (.call 0 0 [(.tok 0)])) (.lt (.tok 1) (.lit (.i 0)))) (.lt (.lit (.i 1099511627776)) (.tok 1))) (.leaf [(.lit (.a [(.i 0), (.i 0), (.s ⟨#[]⟩), (.r [])])), (.lit (.i 1))]) (.need [(.ok 1 [(.lit (.r [])), (.tok 0)])] (.loop 5 2 [(.lit (.i 0)), (.lit (.i 0)), (.lit (.a [(.i 0), (.i 0), (.s ⟨#[]⟩), (.r [])]))] (.br (.lt (.tok 3) (.len (.call 1 0 [(.lit (.r [])), (.tok 0)]))) (.need [(.le (.lit (.i 0)) (.tok 3)), (.lt (.tok 3) (.len (.call 1 0 [(.lit (.r [])), (.tok 0)]))), (.rng .i64 (.add (.get (.call 1 0 [(.lit (.r [])), (.tok 0)]) (.tok 3)) (.tok 1)))] (.br (.lt (.lit (.i 1099511627776)) (.add (.get (.call 1 0 [(.lit (.r [])), (.tok 0)]) (.tok 3)) (.tok 1))) (.leaf [(.lit (.a [(.i 0), (.i 0), (.s ⟨#[]⟩), (.r [])])), (.lit (.i 2))]) (.need [(.rng .i64 (.add (.tok 3) (.lit (.i 1))))] (.back 5 [(.tok 2), (.add (.tok 3) (.lit (.i 1))), (.tok 4)])))) (.need [(.ok 2 [(.tok 0), (.tok 1)])] (.leaf [(.call 2 0 [(.tok 0), (.tok 1)]), (.lit (.i 0))])))))))
set_option maxRecDepth 100000 in
theorem code_ref03_Rename (g0 g1 g2 : List D → Option (List D)) : ∀ cd, Try.f30.body = some cd → treeOf Try.prog [(ct_ref03_Valid, g0), (ct_ref03_vars, g1), (ct_ref03_shift, g2)] ann_ref03_Rename ct_ref03_Rename Try.f30 cd = tree_ref03_Rename := by
  intro cd h
  injection h with h
  subst h
  kernel_rfl
theorem fok_ref03_Rename {g0 g1 g2 : List D → Option (List D)} {g : List D → Option (List D)} (h0 : FOk ct_ref03_Valid g0) (h1 : FOk ct_ref03_vars g1) (h2 : FOk ct_ref03_shift g2) (h : ∀ ds outs, WfA ct_ref03_Rename.ars ds → g ds = some outs → tree_ref03_Rename.go (tblS [(ct_ref03_Valid, g0), (ct_ref03_vars, g1), (ct_ref03_shift, g2)]) (fun o => o = outs) ds fun _ _ => False) : FOk ct_ref03_Rename g :=
  fok_of ann_ref03_Rename Try.f30 _ (.cons h0 (.cons h1 (.cons h2 .nil))) rfl rfl enter_ref03_Rename (by decide) fun ds outs hw hg => by rw [code_ref03_Rename g0 g1 g2 _ rfl]; exact h ds outs hw hg

def ct_law16_BodyRound : Ct := ⟨9, [.val (.st 23), .val (.int .i64)], [(.bool, false)], [], none⟩
theorem enter_law16_BodyRound (args : Array Value) (w : World) : (callFunc ct_law16_BodyRound.f args).run Try.prog w = .ok (.enter ct_law16_BodyRound.f args) w := by kernel_rfl
def ann_law16_BodyRound : Ann := ⟨[0, 1, 2, 4, 5, 7, 8, 9, 10, 12, 13, 15, 23, 27, 35, 49, 58], []⟩
def tree_law16_BodyRound : Tree := (.need [(.ok 0 [(.tok 0)])] (.br (.not (.eq (.call 0 2 [(.tok 0)]) (.lit (.i 0)))) (.need [(.ok 1 [])] (.leaf [(.call 1 0 [])])) (.need [(.ok 2 [(.call 0 0 [(.tok 0)])])] (.br (.not (.call 2 0 [(.call 0 0 [(.tok 0)])])) (.leaf [(.lit (.b .false))]) (.need [(.ok 3 [(.tok 0), (.tok 1)])] (.br (.eq (.call 3 1 [(.tok 0), (.tok 1)]) (.lit (.i 0))) (.need [(.ok 0 [(.call 3 0 [(.tok 0), (.tok 1)])])] (.need [(.imp (.not (.not (.eq (.call 0 2 [(.call 3 0 [(.tok 0), (.tok 1)])]) (.lit (.i 0))))) (.ok 4 [(.call 0 0 [(.tok 0)]), (.call 0 0 [(.call 3 0 [(.tok 0), (.tok 1)])])]))] (.br (.or (.not (.eq (.call 0 2 [(.call 3 0 [(.tok 0), (.tok 1)])]) (.lit (.i 0)))) (.not (.call 4 0 [(.call 0 0 [(.tok 0)]), (.call 0 0 [(.call 3 0 [(.tok 0), (.tok 1)])])]))) (.leaf [(.lit (.b .false))]) (.need [(.ok 5 [(.fld (.call 0 0 [(.tok 0)]) 1)]), (.rng .i64 (.add (.add (.call 5 0 [(.fld (.call 0 0 [(.tok 0)]) 0)]) (.call 5 0 [(.fld (.call 0 0 [(.tok 0)]) 1)])) (.lit (.i 1)))), (.rng .i64 (.add (.call 5 0 [(.fld (.call 0 0 [(.tok 0)]) 0)]) (.call 5 0 [(.fld (.call 0 0 [(.tok 0)]) 1)]))), (.ok 5 [(.fld (.call 0 0 [(.tok 0)]) 0)])] (.br (.lt (.lit (.i 2000)) (.add (.add (.call 5 0 [(.fld (.call 0 0 [(.tok 0)]) 0)]) (.call 5 0 [(.fld (.call 0 0 [(.tok 0)]) 1)])) (.lit (.i 1)))) (.need [(.ok 1 [])] (.leaf [(.call 1 0 [])])) (.need [(.ok 6 [(.call 0 0 [(.tok 0)])]), (.ok 0 [(.call 6 0 [(.call 0 0 [(.tok 0)])])])] (.need [(.imp (.eq (.call 0 2 [(.call 6 0 [(.call 0 0 [(.tok 0)])])]) (.lit (.i 0))) (.ok 4 [(.call 0 0 [(.tok 0)]), (.call 0 0 [(.call 6 0 [(.call 0 0 [(.tok 0)])])])])), (.imp (.and (.eq (.call 0 2 [(.call 6 0 [(.call 0 0 [(.tok 0)])])]) (.lit (.i 0))) (.call 4 0 [(.call 0 0 [(.tok 0)]), (.call 0 0 [(.call 6 0 [(.call 0 0 [(.tok 0)])])])])) (.ok 1 []))] (.leaf [(.and (.and (.eq (.call 0 2 [(.call 6 0 [(.call 0 0 [(.tok 0)])])]) (.lit (.i 0))) (.call 4 0 [(.call 0 0 [(.tok 0)]), (.call 0 0 [(.call 6 0 [(.call 0 0 [(.tok 0)])])])])) (.call 1 0 []))])))))))) (.need [(.ok 5 [(.fld (.call 0 0 [(.tok 0)]) 1)]), (.rng .i64 (.add (.add (.call 5 0 [(.fld (.call 0 0 [(.tok 0)]) 0)]) (.call 5 0 [(.fld (.call 0 0 [(.tok 0)]) 1)])) (.lit (.i 1)))), (.rng .i64 (.add (.call 5 0 [(.fld (.call 0 0 [(.tok 0)]) 0)]) (.call 5 0 [(.fld (.call 0 0 [(.tok 0)]) 1)]))), (.ok 5 [(.fld (.call 0 0 [(.tok 0)]) 0)])] (.br (.lt (.lit (.i 2000)) (.add (.add (.call 5 0 [(.fld (.call 0 0 [(.tok 0)]) 0)]) (.call 5 0 [(.fld (.call 0 0 [(.tok 0)]) 1)])) (.lit (.i 1)))) (.need [(.ok 1 [])] (.leaf [(.call 1 0 [])])) (.need [(.ok 6 [(.call 0 0 [(.tok 0)])]), (.ok 0 [(.call 6 0 [(.call 0 0 [(.tok 0)])])])] (.need [(.imp (.eq (.call 0 2 [(.call 6 0 [(.call 0 0 [(.tok 0)])])]) (.lit (.i 0))) (.ok 4 [(.call 0 0 [(.tok 0)]), (.call 0 0 [(.call 6 0 [(.call 0 0 [(.tok 0)])])])])), (.imp (.and (.eq (.call 0 2 [(.call 6 0 [(.call 0 0 [(.tok 0)])])]) (.lit (.i 0))) (.call 4 0 [(.call 0 0 [(.tok 0)]), (.call 0 0 [(.call 6 0 [(.call 0 0 [(.tok 0)])])])])) (.ok 1 []))] (.leaf [(.and (.and (.eq (.call 0 2 [(.call 6 0 [(.call 0 0 [(.tok 0)])])]) (.lit (.i 0))) (.call 4 0 [(.call 0 0 [(.tok 0)]), (.call 0 0 [(.call 6 0 [(.call 0 0 [(.tok 0)])])])])) (.call 1 0 []))])))))))))))
set_option maxRecDepth 100000 in
theorem code_law16_BodyRound (g0 g1 g2 g3 g4 g5 g6 : List D → Option (List D)) : ∀ cd, Try.f9.body = some cd → treeOf Try.prog [(ct_body_Clause, g0), (ct_law16_awake, g1), (ct_body_Valid, g2), (ct_ref03_Rename, g3), (ct_ref16_SameClause, g4), (ct_ref03_Size, g5), (ct_body_Term, g6)] ann_law16_BodyRound ct_law16_BodyRound Try.f9 cd = tree_law16_BodyRound := by
  intro cd h
  injection h with h
  subst h
  kernel_rfl
theorem fok_law16_BodyRound {g0 g1 g2 g3 g4 g5 g6 : List D → Option (List D)} {g : List D → Option (List D)} (h0 : FOk ct_body_Clause g0) (h1 : FOk ct_law16_awake g1) (h2 : FOk ct_body_Valid g2) (h3 : FOk ct_ref03_Rename g3) (h4 : FOk ct_ref16_SameClause g4) (h5 : FOk ct_ref03_Size g5) (h6 : FOk ct_body_Term g6) (h : ∀ ds outs, WfA ct_law16_BodyRound.ars ds → g ds = some outs → tree_law16_BodyRound.go (tblS [(ct_body_Clause, g0), (ct_law16_awake, g1), (ct_body_Valid, g2), (ct_ref03_Rename, g3), (ct_ref16_SameClause, g4), (ct_ref03_Size, g5), (ct_body_Term, g6)]) (fun o => o = outs) ds fun _ _ => False) : FOk ct_law16_BodyRound g :=
  fok_of ann_law16_BodyRound Try.f9 _ (.cons h0 (.cons h1 (.cons h2 (.cons h3 (.cons h4 (.cons h5 (.cons h6 .nil))))))) rfl rfl enter_law16_BodyRound (by decide) fun ds outs hw hg => by rw [code_law16_BodyRound g0 g1 g2 g3 g4 g5 g6 _ rfl]; exact h ds outs hw hg

end Go.Proofs.Ytflahdpkkgmpeaa
