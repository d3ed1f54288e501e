/-
  Lemmas of the walk and plain laws, put together. No condition.
-/
import Derived.ChangeArms
import Derived.OpenShut
import Derived.ProofKit
import Derived.SizedLaws
import Derived.Test.YtloekfnlidclcaaRows
import Derived.Test.YtloekfnlidclcaaKc
namespace Go.Proofs.Ytloekfnlidclcaa
open Go.RowKit
set_option linter.unusedVariables false
set_option maxRecDepth 100000

def allB (e : Ev) : List X → Bool
  | [] => true
  | x :: l => (x.ev e).tt && allB e l
theorem allB_ok {e : Ev} : ∀ {l : List X}, allB e l = true → allSay e l
  | [], _ => trivial
  | x :: l, h => by
    simp only [allB, Bool.and_eq_true] at h
    exact ⟨h.1, allB_ok h.2⟩

def itf (f : List D → Option (Nat × List D)) (id : Nat) : Nat → List D → Option (Nat × List D)
  | 0, _ => none
  | k + 1, st => match f st with
    | some (j, st') => if Nat.beq j (id + 1) then itf f id k st' else some (j, st')
    | none => none

def sameOut : Nat × List D → Nat × List D → Bool := fun a b => Nat.beq a.1 b.1 && D.beqs a.2 b.2

def Tree.den (S : Nat → List D → Option (List D)) (fuel : Nat) : Tree → List D → Option (Nat × List D)
  | .bad _, _ => none
  | .need ns t, l => if allB (evl S l) ns then t.den S fuel l else none
  | .br x t e, l => if (x.ev (evl S l)).tt then t.den S fuel l else e.den S fuel l
  | .amb x neg t e, l => if (x.ev (evl S l)).rs.isEmpty then (match t.den S fuel l, e.den S fuel l with
      | some a, some b => if sameOut a b then some a else none
      | _, _ => none) else if neg then t.den S fuel l else e.den S fuel l
  | .leaf xs, l => some (0, X.evs (evl S l) xs)
  | .back id xs, l => some (id + 1, X.evs (evl S l) xs)
  | .loop id n init body, l => itf (fun st => body.den S fuel (l.take n ++ st)) id fuel (X.evs (evl S l) init)

def outOk (R : List D → Prop) (B : Nat → List D → Prop) : Nat × List D → Prop
  | (0, xs) => R xs
  | (id + 1, xs) => B id xs

theorem beqs_eq : ∀ {l m : List D}, D.beqs l m = true → l = m
  | [], [], _ => rfl
  | x :: l, y :: m, h => by
    simp only [D.beqs, Bool.and_eq_true] at h
    rw [(D.q0e _ _).1 h.1, beqs_eq h.2]
  | [], _ :: _, h => by simp [D.beqs] at h
  | _ :: _, [], h => by simp [D.beqs] at h

theorem sameOut_ok {a b : Nat × List D} (h : sameOut a b = true) : a = b := by
  obtain ⟨i, l⟩ := a
  obtain ⟨j, m⟩ := b
  simp only [sameOut, Bool.and_eq_true] at h
  rw [Nat.eq_of_beq_eq_true h.1, beqs_eq h.2]

theorem least_of {P : Nat → Prop} (h : ∃ k, P k) : ∃ m, P m ∧ ∀ k, P k → m ≤ k := by
  obtain ⟨k, hk⟩ := h
  induction k using Nat.strongRecOn with
  | _ k ih =>
    by_cases hl : ∃ j, j < k ∧ P j
    · obtain ⟨j, hj, hp⟩ := hl
      exact ih j hj hp
    · exact ⟨k, hk, fun j hj => Nat.le_of_not_lt fun hlt => hl ⟨j, hlt, hj⟩⟩
open Classical in
noncomputable def leastN (P : Nat → Prop) : Nat := if h : ∃ k, P k then (least_of h).choose else 0
theorem leastN_ok {P : Nat → Prop} (h : ∃ k, P k) : P (leastN P) ∧ ∀ k, P k → leastN P ≤ k := by
  unfold leastN
  rw [dif_pos h]
  exact (least_of h).choose_spec

theorem go_of_den {S : Nat → List D → Option (List D)} {fuel : Nat} {R : List D → Prop} : ∀ (t : Tree) {l : List D} {B : Nat → List D → Prop} {out : Nat × List D}, t.den S fuel l = some out → outOk R B out → t.go S R l B := by
  intro t
  induction t with
  | bad n => intro l B out h; cases h
  | need ns t ih =>
    intro l B out h ho
    unfold Tree.den at h
    split at h
    · rename_i hs
      exact ⟨allB_ok hs, ih h ho⟩
    · cases h
  | br x t e iht ihe =>
    intro l B out h ho
    unfold Tree.den at h
    refine ⟨fun hx => ?_, fun hx => ?_⟩
    · rw [if_pos hx] at h
      exact iht h ho
    · rw [if_neg (by rw [hx]; decide)] at h
      exact ihe h ho
  | amb x neg t e iht ihe =>
    intro l B out h ho
    unfold Tree.den at h
    split at h
    · split at h
      · rename_i a b ha hb
        split at h
        · rename_i hs
          injection h with h
          subst h
          have := sameOut_ok hs
          subst this
          exact ⟨fun _ => iht ha ho, fun _ => ihe hb ho⟩
        · cases h
      · cases h
    · rename_i hne
      have hne' : ¬ (x.ev (evl S l)).rs = [] := fun e => hne (by rw [e]; rfl)
      split at h
      · rename_i hn
        exact ⟨fun _ => iht h ho, fun hc => absurd (hc hn) hne'⟩
      · rename_i hn
        exact ⟨fun hc => absurd (hc (by simpa using hn)) hne', fun _ => ihe h ho⟩
  | leaf xs =>
    intro l B out h ho
    simp only [Tree.den, Option.some.injEq] at h
    subst h
    exact ho
  | back id xs =>
    intro l B out h ho
    simp only [Tree.den, Option.some.injEq] at h
    subst h
    exact ho
  | loop id n init body ih =>
    intro l B out h ho
    unfold Tree.den at h
    generalize hf : (fun st => body.den S fuel (l.take n ++ st)) = f at h
    have hfe : ∀ st, body.den S fuel (l.take n ++ st) = f st := fun st => by rw [← hf]
    -- more rounds answer alike
    have mono : ∀ k st o, itf f id k st = some o → itf f id (k + 1) st = some o := by
      intro k
      induction k with
      | zero => intro st o h; cases h
      | succ k ihk =>
        intro st o h
        unfold itf at h ⊢
        split at h
        · rename_i j st' hj
          split at h
          · rename_i hb
            rw [if_pos hb]
            exact ihk _ _ h
          · rename_i hb
            rw [if_neg hb]
            exact h
        · cases h
    refine ⟨fun st => ∃ k o, itf f id k st = some o ∧ outOk R B o, fun st => leastN fun k => (itf f id k st).isSome = true, ⟨fuel, out, h, ho⟩, ?_⟩
    rintro st - ⟨k, o, hk, hoo⟩
    have hex : ∃ k, (itf f id k st).isSome = true := ⟨k, by rw [hk]; rfl⟩
    obtain ⟨hmin, -⟩ := leastN_ok hex
    obtain ⟨o', ho'⟩ := Option.isSome_iff_exists.1 hmin
    have up : ∀ a b st o, itf f id a st = some o → itf f id (a + b) st = some o := by
      intro a b
      induction b with
      | zero => intro st o h; exact h
      | succ b ihb => intro st o h; exact mono _ _ _ (ihb st o h)
    have hoo' : o' = o := by
      have h1 := up _ k st o' ho'
      have h2 := up k (leastN fun k => (itf f id k st).isSome = true) st o hk
      rw [Nat.add_comm] at h2
      exact Option.some.inj (h1.symm.trans h2)
    rw [hoo'] at ho'
    cases hm : leastN (fun k => (itf f id k st).isSome = true) with
    | zero => rw [hm] at ho'; cases ho'
    | succ m =>
      rw [hm] at ho'
      unfold itf at ho'
      split at ho'
      · rename_i j st' hj
        refine ih ((hfe st).trans hj) ?_
        split at ho'
        · rename_i hb
          obtain rfl := Nat.eq_of_beq_eq_true hb
          show updB B id _ id st'
          unfold updB
          rw [if_pos rfl]
          refine ⟨⟨m, o, ho', hoo⟩, ?_⟩
          have hex' : ∃ k, (itf f id k st').isSome = true := ⟨m, by rw [ho']; rfl⟩
          show _ < leastN (fun k => (itf f id k st).isSome = true)
          rw [hm]
          exact Nat.lt_succ_of_le ((leastN_ok hex').2 m (by rw [ho']; rfl))
        · rename_i hb
          injection ho' with ho'
          subst ho'
          cases j with
          | zero => exact hoo
          | succ j =>
            show updB B id _ j st'
            unfold updB
            rw [if_neg]
            · exact hoo
            · intro e
              subst e
              exact hb (Nat.beq_refl _)
      · cases ho'

def outs0 : Option (Nat × List D) → Option (List D)
  | some (0, xs) => some xs
  | _ => none
theorem outs0_ok {o : Option (Nat × List D)} {xs : List D} (h : outs0 o = some xs) : o = some (0, xs) := by
  unfold outs0 at h
  split at h
  · injection h with h; rw [h]
  · cases h

def denF (tbl : Tbl) (fuel : Nat) (t : Tree) : List D → Option (List D) := fun ds => outs0 (t.den (tblS tbl) fuel ds)
theorem go_denF {tbl : Tbl} {fuel : Nat} {t : Tree} {ds outs : List D} (h : denF tbl fuel t ds = some outs) : t.go (tblS tbl) (fun o => o = outs) ds fun _ _ => False :=
  go_of_den t (outs0_ok h) rfl

theorem FOk.none {ct : Ct} (hen : ∀ args w, (callFunc ct.f args).run Try.prog w = .ok (.enter ct.f args) w) : FOk ct fun _ => Option.none := ⟨hen, fun A p w vs us ds outs h => by cases h⟩
def cutM (m : List D → Nat) (n : Nat) (g : List D → Option (List D)) : List D → Option (List D) := fun ds => if m ds < n then g ds else none
theorem fok_cut {ct : Ct} {m : List D → Nat} {g : List D → Option (List D)} (hen : ∀ args w, (callFunc ct.f args).run Try.prog w = .ok (.enter ct.f args) w) (h : ∀ n, FOk ct (cutM m n g) → FOk ct (cutM m (n + 1) g)) : FOk ct g := by
  have key : ∀ n, FOk ct (cutM m n g) := by
    intro n
    induction n with
    | zero => exact ⟨hen, fun A p w vs us ds outs h => by simp [cutM] at h⟩
    | succ n ih => exact h n ih
  refine ⟨hen, fun A p w vs us ds outs hg hp hl ha => (key (m ds + 1)).call A p w vs us ds outs ?_ hp hl ha⟩
  simp only [cutM, if_pos (Nat.lt_succ_self _)]
  exact hg
theorem FOk.sub {ct : Ct} {g g' : List D → Option (List D)} (h : FOk ct g) (hs : ∀ ds outs, g' ds = some outs → g ds = some outs) : FOk ct g' := ⟨h.enter, fun A p w vs us ds outs hg hp hl ha => h.call A p w vs us ds outs (hs ds outs hg) hp hl ha⟩
end Go.Proofs.Ytloekfnlidclcaa


namespace Go.Proofs.Ytloekfnlidclcaa
open Go.RowKit
set_option linter.unusedVariables false
set_option maxRecDepth 100000

section
variable {A A' : Nat → Prop} {p : Pins} {w : World} (hA : ∀ b, b < w.heap.size → A b → A' b)
include hA

theorem FFD.chA {dep : List Nat} {b : Nat} (hb : b < w.heap.size) (h : FFD A p dep b) : FFD A' p dep b := by
  rcases h with ⟨h1, h2⟩ | h
  · exact .inl ⟨hA b hb h1, h2⟩
  · exact .inr h

theorem Rd.chA {dep : List Nat} {d : D} {t : Ty} {cs : List Value} (h : Rd w (FFD A p dep) d t cs) : Rd w (FFD A' p dep) d t cs := Rd.mono (fun b hb hf => hf.chA hA hb) h

theorem Fl.chA {dep : List Nat} {o : Option Nat} {d : D} {t : Ty} {cs : List Value} (h : Fl A p w dep o d t cs) : Fl A' p w dep o d t cs := by
  cases o with
  | none => exact Rd.chA hA h
  | some pin =>
    rcases h with ⟨E, te, l, v, e1, hte, e2, e3, hv⟩ | h
    · refine .inl ⟨E, te, l, v, e1, hte, e2, e3, ?_⟩
      rcases hv with hv | ⟨g, cap, cur, e4, hg, hh, q1, q2, q3, q4, q5⟩
      · exact .inl hv
      · refine .inr ⟨g, cap, cur, e4, hg, hh, q1, q2, q3, q4, fun i hi => ?_⟩
        obtain ⟨vs, hr1, hd⟩ := q5 i hi
        exact ⟨vs, hr1, Rd.chA hA hd⟩
    · exact .inr h

theorem Fls.chA {dep : List Nat} {own : List (Nat × Nat)} : ∀ {ds : List D} {j : Nat} {fs : List Ty} {cs : List Value}, Fls A p w dep own j ds fs cs → Fls A' p w dep own j ds fs cs
  | [], _, _, _, h => h
  | d :: ds, j, fs, cs, ⟨t, ts, c1, c2, e1, e2, h1, h2⟩ => ⟨t, ts, c1, c2, e1, e2, Fl.chA hA h1, Fls.chA h2⟩

theorem Con.chA {dep : List Nat} {own : List (Nat × Nat)} {d : D} {t : Ty} {cs : List Value} (h : Con A p w d t own dep cs) : Con A' p w d t own dep cs := by
  unfold Con at h ⊢
  split
  · obtain ⟨fs, ds, hf, e, h⟩ := h
    exact ⟨fs, ds, hf, e, Fls.chA hA h⟩
  · rename_i hne
    split at h
    · rename_i T; exact absurd rfl (hne T)
    · exact Fl.chA hA h
end

mutual
/-- No word of a snapshot within. -/
def AV.plain : AV → Bool
  | .sn _ _ => false
  | .pt _ _ _ _ => false
  | .ar _ _ _ => false
  | .lv _ _ => false
  | .ax _ _ _ _ => false
  | .tup l => avsPlain l
  | .gd _ a => AV.plain a
  | .fn _ l => avsPlain l
  | .bx _ _ a => AV.plain a
  | .fr _ a => AV.plain a
  | _ => true
def avsPlain : List AV → Bool
  | [] => true
  | a :: l => AV.plain a && avsPlain l
end

section
variable {c c' : Cx} {p : Pins} {w : World}
mutual
theorem AV.chA (hA : ∀ b, b < w.heap.size → c.A b → c'.A b) (hv : c.v = c'.v) (hT : c.At = c'.At) : ∀ (x : AV) (v : Value), x.plain = true → x.pd c p w v → x.pd c' p w v
  | .any, v, _, h => h
  | .undef, v, _, h => h
  | .nilS, v, _, h => h
  | .nb x neg, v, _, ⟨b, e, h⟩ => ⟨b, e, by rw [← hv]; exact h⟩
  | .nilP, v, _, h => h
  | .ref k q o t, v, _, ⟨g, hg, e, ha⟩ => ⟨g, hg, e, by rw [← hT]; exact ha⟩
  | .v x t own dep, v, _, ⟨cs, hp, hc⟩ => ⟨cs, hp, by rw [← hv]; exact hc.chA hA⟩
  | .rd x t dep wr, v, _, ⟨b, o, cs, e, hf, hr, h0, hd, hw⟩ => by
    refine ⟨b, o, cs, e, hf.chA hA (rangeAt_lt hr h0), hr, h0, by rw [← hv]; exact Rd.chA hA hd, ?_⟩
    match wr, hw with
    | none, _ => trivial
    | some (pin, i, pt, q, te), hw =>
      refine ⟨hw.1, ?_⟩
      rw [← hv]
      exact hw.2
  | .tup l, v, hb, ⟨vs, e, h⟩ => ⟨vs, e, pds_chA hA hv hT l vs (by simpa [AV.plain] using hb) h⟩
  | .gd cs a, v, hb, h => by
    rw [show AV.pd c' p w (.gd cs a) v = ((hold c'.v cs = true → AV.pd c' p w a v) ∧ (hold c'.v cs = false → v = Go.undef)) from rfl, ← hv]
    exact ⟨fun hc => AV.chA hA hv hT a v (by simpa [AV.plain] using hb) (h.1 hc), h.2⟩
  | .fn f l, v, hb, ⟨vs, e, h⟩ => ⟨vs, e, pds_chA hA hv hT l vs (by simpa [AV.plain] using hb) h⟩
  | .bx k T a, v, hb, ⟨g, u, hg, e, hh, h⟩ => ⟨g, u, ⟨hg.1, by rw [← hT]; exact hg.2⟩, e, hh, AV.chA hA hv hT a u (by simpa [AV.plain] using hb) h⟩
  | .sn t a, v, hb, h => by simp [AV.plain] at hb
  | .pt _ _ _ _, v, hb, h => by simp [AV.plain] at hb
  | .ar _ _ _, v, hb, h => by simp [AV.plain] at hb
  | .lv _ _, v, hb, h => by simp [AV.plain] at hb
  | .ax _ _ _ _, v, hb, h => by simp [AV.plain] at hb
  | .fr T a, v, hb, ⟨g, u, ha, hf, e, hh, h⟩ => ⟨g, u, hA g (Array.getElem?_eq_some_iff.1 hh).1 ha, hf, e, hh, AV.chA hA hv hT a u (by simpa [AV.plain] using hb) h⟩
theorem pds_chA (hA : ∀ b, b < w.heap.size → c.A b → c'.A b) (hv : c.v = c'.v) (hT : c.At = c'.At) : ∀ (l : List AV) (vs : List Value), avsPlain l = true → pds c p w l vs → pds c' p w l vs
  | [], vs, _, h => h
  | a :: l, vs, hb, ⟨v, r, e, ha, hl⟩ => by
    simp only [avsPlain, Bool.and_eq_true] at hb
    exact ⟨v, r, e, AV.chA hA hv hT a v hb.1 ha, pds_chA hA hv hT l r hb.2 hl⟩
end

theorem EntOk.chA (hA : ∀ b, b < w.heap.size → c.A b → c'.A b) (hv : c.v = c'.v) {k : Nat} {e : Ent} (h : EntOk c p w k e) : EntOk c' p w k e := by
  obtain ⟨g, cs, T, hg, hh, hc⟩ := h
  exact ⟨g, cs, T, hg, hh, by rw [← hv]; exact hc.chA hA⟩

def snT (l : List (Nat × AV)) : List (Nat × AV) := l.map fun e => (e.1, .sn e.1 e.2)
def plainT (l : List (Nat × AV)) : Bool := l.all fun e => e.2.plain

theorem lkA_mapK {α β : Type} {f : Nat → α → β} {l : List (Nat × α)} {k : Nat} {y : β} (h : lkA (l.map fun e => (e.1, f e.1 e.2)) k = some y) : ∃ x, lkA l k = some x ∧ y = f k x := by
  induction l with
  | nil => cases h
  | cons e l ih =>
    obtain ⟨m, x⟩ := e
    by_cases hm : m = k
    · subst hm
      rw [List.map_cons, q00] at h
      injection h with h
      exact ⟨x, q00, h.symm⟩
    · rw [List.map_cons, q01 hm] at h
      rw [q01 hm]
      exact ih h

theorem SF.snap (hA : ∀ b, b < w.heap.size → c.A b → c'.A b) (hv : c.v = c'.v) (hT : c.At = c'.At) {σ : St} {a : Act} (hs : ∀ t v, a.tmps[t]? = some v → c'.snap t = v) (hp : plainT σ.t = true) (h : SF c σ p w a) : SF c' ⟨snT σ.t, σ.m⟩ p w a := by
  refine ⟨fun t x hx => ?_, fun k e he => (h.m k e he).chA hA hv⟩
  obtain ⟨y, hy, rfl⟩ := lkA_mapK (f := fun t x => AV.sn t x) hx
  obtain ⟨v, h1, h2⟩ := h.t t y hy
  exact ⟨v, h1, (hs t v h1).symm, AV.chA hA hv hT y v (List.all_eq_true.1 hp _ (q1f hy)) h2⟩
theorem SF.other {σ : St} {a b : Act} (hs : ∀ t, a.tmps[t]? = some (c.snap t) ∨ a.tmps[t]? = none) (hsz : b.tmps.size ≤ a.tmps.size) (hall : ∀ t x, lkA σ.t t = some x → ∃ y, x = .sn t y) (h : SF c σ p w b) : SF c σ p w a := by
  refine ⟨fun t x hx => ?_, h.m⟩
  obtain ⟨y, rfl⟩ := hall t x hx
  obtain ⟨v, h1, h2, h3⟩ := h.t t _ hx
  have hlt := (Array.getElem?_eq_some_iff.1 h1).1
  rcases hs t with h4 | h4
  · exact ⟨v, by rw [h4, h2], h2, h3⟩
  · rw [Array.getElem?_eq_none_iff] at h4
    omega
end

section
variable {A : Nat → Prop} {p p' : Pins} {w w' w0 : World} {S0 : Nat → Prop}

theorem Bs.comp (h : Bs A w0 S0 p w) (h' : Bs A w (pinned p) p' w') : Bs A w0 S0 p' w' := by
  refine ⟨h'.inj, h'.bd, ⟨h'.but.os.trans h.but.os, h'.but.tape.trans h.but.tape, h'.but.output.trans h.but.output, Nat.le_trans h.but.size h'.but.size, fun k hk hn => ?_⟩, fun x b hx => ?_, h.new, h'.pa, h'.obj⟩
  · have hkw : k < w.heap.size := Nat.lt_of_lt_of_le hk h.but.size
    refine (h'.but.block k hkw fun ⟨x, hx⟩ => ?_).trans (h.but.block k hk hn)
    rcases h.pin x k hx with h1 | h1
    · exact hn h1
    · omega
  · rcases h'.pin x b hx with ⟨y, hy⟩ | h1
    · exact h.pin y b hy
    · exact .inr (Nat.le_trans h.but.size h1)

end
end Go.Proofs.Ytloekfnlidclcaa


namespace Go.Proofs.Ytloekfnlidclcaa
open Go.RowKit
set_option linter.unusedVariables false
set_option maxRecDepth 100000

end Go.Proofs.Ytloekfnlidclcaa


namespace Go.Proofs.Ytloekfnlidclcaa
open Go.RowKit
set_option linter.unusedVariables false
set_option maxRecDepth 100000

section
variable {c : Cx} {p : Pins} {w w' w0 : World} {S0 : Nat → Prop} {a : Act} {σ σ' : St} {d : List Deferred} {z : Nat} {tbl : Tbl} {A : Nat → Prop}

theorem SF.same (hs : Stab c.A no no p w p w') (h : SF c σ p w a) : SF c σ p w' a := by
  refine ⟨fun t x hx => ?_, fun k e he => (h.m k e he).kept hs (fun _ _ => ⟨rfl, rfl⟩) ⟨rfl, rfl⟩⟩
  obtain ⟨v, h1, h2⟩ := h.t t x hx
  exact ⟨v, h1, AV.kept hs x v (fun _ _ => ⟨rfl, rfl⟩) (fun _ _ => rfl) h2⟩

end
end Go.Proofs.Ytloekfnlidclcaa


namespace Go.Proofs.Ytloekfnlidclcaa
open Go.RowKit
set_option linter.unusedVariables false
set_option maxRecDepth 100000

theorem Bs.up {A A' : Nat → Prop} {p p' : Pins} {w w' w0 : World} {S0 : Nat → Prop} (h : Bs A w0 S0 p w) (h' : Bs A' w (pinned p) p' w') (hA : ∀ b, A' b → A b) : Bs A w0 S0 p' w' :=
  h.comp ⟨h'.inj, h'.bd, h'.but, h'.pin, fun b hb => h.new b (Nat.le_trans h.but.size hb), fun x b hx => hA b (h'.pa x b hx), h'.obj⟩

section
variable {lo z : Nat} {tbl : Tbl}

end
end Go.Proofs.Ytloekfnlidclcaa


namespace Go.Proofs.Ytloekfnlidclcaa
open Go.RowKit
set_option linter.unusedVariables false
set_option maxRecDepth 100000

theorem ResL.chA {A A' : Nat → Prop} {p : Pins} {w : World} (hA : ∀ b, b < w.heap.size → A b → A' b) : ∀ {rs : List (Ty × Bool)} {k : Nat} {vs : List Value} {ds : List D}, ResL A p w rs k vs ds → ResL A' p w rs k vs ds
  | [], _, _, _, h => h
  | (t, own) :: l, k, vs, ds, ⟨v, r, d, ds', e1, e2, ⟨cs, hp, hc⟩, h⟩ => ⟨v, r, d, ds', e1, e2, ⟨cs, hp, hc.chA hA⟩, ResL.chA hA h⟩
theorem RefL.chA {A A' : Nat → Prop} {p p' : Pins} {w : World} (hA : ∀ b, b < w.heap.size → A b → A' b) : ∀ {all : List (Nat × Ar)} {ds : List D}, RefL A p p' w all ds → RefL A' p p' w all ds
  | [], _, h => h
  | (i, r) :: l, ds, h => by
    cases r with
    | ref t =>
      obtain ⟨d, ds', e, ⟨g, cs, T, h1, h2, h3, hc⟩, h⟩ := h
      exact ⟨d, ds', e, ⟨g, cs, T, h1, h2, h3, hc.chA hA⟩, RefL.chA hA h⟩
    | mref t =>
      obtain ⟨d, ds', e, ⟨g, h1, h2, hc⟩, h⟩ := h
      exact ⟨d, ds', e, ⟨g, h1, h2, hc.chA hA⟩, RefL.chA hA h⟩
    | _ => exact RefL.chA hA (all := l) h

end Go.Proofs.Ytloekfnlidclcaa


namespace Go.Proofs.Ytloekfnlidclcaa
open Go.RowKit
set_option linter.unusedVariables false
set_option maxRecDepth 100000

abbrev T_Terms : Ty := .row 24
abbrev T_Term : Ty := .st 23
def q0s : Ct := ⟨88, [.val (.st 23), .ref (.int .i64), .cell 67 3], [], [(.cell 2, .fn 88 [1, 2])], none⟩
theorem enter_term_Size_1 (args : Array Value) (w : World) : (callFunc q0s.f args).run Try.prog w = .ok (.enter q0s.f args) w := by kernel_rfl
def ann_term_Size_1 : Ann := ⟨[0, 1, 2, 3, 4, 15], [(3, ⟨[(4, .int .i64, false)], [1], [7, 8, 9, 10, 11, 12, 13, 14, 15, 18, 19, 20, 21, 22, 23, 24, 16, 17], []⟩)]⟩
def q29 : Tree := (.need [(.rng .i64 (.sub (.tok 1) (.lit (.i 1))))] (.loop 3 2 [(.lit (.i 0)), (.sub (.tok 1) (.lit (.i 1)))] (.br (.and (.lt (.tok 2) (.len (.fld (.tok 0) 3))) (.lt (.lit (.i 0)) (.tok 3))) (.need [(.ok 0 [(.get (.fld (.tok 0) 3) (.tok 2)), (.tok 3)]), (.le (.lit (.i 0)) (.tok 2)), (.lt (.tok 2) (.len (.fld (.tok 0) 3)))] (.need [(.rng .i64 (.add (.tok 2) (.lit (.i 1))))] (.back 3 [(.add (.tok 2) (.lit (.i 1))), (.call 0 0 [(.get (.fld (.tok 0) 3) (.tok 2)), (.tok 3)])]))) (.leaf [(.tok 3)]))))
set_option maxRecDepth 100000 in
theorem code_term_Size_1 (g0 : List D → Option (List D)) : ∀ cd, Try.f88.body = some cd → treeOf Try.prog [(q0s, g0)] ann_term_Size_1 q0s Try.f88 cd = q29 := by
  intro cd h
  injection h with h
  subst h
  kernel_rfl
theorem fok_term_Size_1 {g0 : List D → Option (List D)} {g : List D → Option (List D)} (h0 : FOk q0s g0) (h : ∀ ds outs, WfA q0s.ars ds → g ds = some outs → q29.go (tblS [(q0s, g0)]) (fun o => o = outs) ds fun _ _ => False) : FOk q0s g :=
  q0f ann_term_Size_1 Try.f88 _ (.cons h0 .nil) rfl rfl enter_term_Size_1 (by decide) fun ds outs hw hg => by rw [code_term_Size_1 g0 _ rfl]; exact h ds outs hw hg

def q0y : Ct := ⟨79, [.val (.st 23)], [(.int .i64, false)], [], none⟩
theorem enter_term_Size (args : Array Value) (w : World) : (callFunc q0y.f args).run Try.prog w = .ok (.enter q0y.f args) w := by kernel_rfl
def ann_term_Size : Ann := ⟨[0, 1, 2, 3, 4], []⟩
def q31 : Tree := (.need [(.ok 0 [(.tok 0), (.lit (.i 2001))])] (.need [(.rng .i64 (.sub (.lit (.i 2001)) (.call 0 0 [(.tok 0), (.lit (.i 2001))])))] (.leaf [(.sub (.lit (.i 2001)) (.call 0 0 [(.tok 0), (.lit (.i 2001))]))])))
set_option maxRecDepth 100000 in
theorem code_term_Size (g0 : List D → Option (List D)) : ∀ cd, Try.f79.body = some cd → treeOf Try.prog [(q0s, g0)] ann_term_Size q0y Try.f79 cd = q31 := by
  intro cd h
  injection h with h
  subst h
  kernel_rfl
theorem fok_term_Size {g0 : List D → Option (List D)} {g : List D → Option (List D)} (h0 : FOk q0s g0) (h : ∀ ds outs, WfA q0y.ars ds → g ds = some outs → q31.go (tblS [(q0s, g0)]) (fun o => o = outs) ds fun _ _ => False) : FOk q0y g :=
  q0f ann_term_Size Try.f79 _ (.cons h0 .nil) rfl rfl enter_term_Size (by decide) fun ds outs hw hg => by rw [code_term_Size g0 _ rfl]; exact h ds outs hw hg

def q0o : Ct := ⟨80, [.val (.st 23)], [(.bool, false)], [], none⟩
theorem enter_term_fits (args : Array Value) (w : World) : (callFunc q0o.f args).run Try.prog w = .ok (.enter q0o.f args) w := by kernel_rfl
def ann_term_fits : Ann := ⟨[0, 1, 2, 3, 4, 6, 7, 28, 39, 56, 86], [(12, ⟨[(3, .bool, false), (4, .int .i64, false)], [], [79, 80, 81, 82, 83, 84, 85, 86, 89, 90, 91, 92, 93, 94, 87, 88], []⟩)]⟩
def q32 : Tree := (.br (.eq (.fld (.tok 0) 0) (.lit (.i 0))) (.loop 12 1 [(.and (.and (.and (.le (.lit (.i 0)) (.fld (.tok 0) 1)) (.le (.fld (.tok 0) 1) (.lit (.i 1099511627776)))) (.eq (.fld (.tok 0) 2) (.lit (.s ⟨#[]⟩)))) (.eq (.len (.fld (.tok 0) 3)) (.lit (.i 0)))), (.lit (.i 0))] (.br (.and (.lt (.tok 2) (.len (.fld (.tok 0) 3))) (.tok 1)) (.need [(.le (.lit (.i 0)) (.tok 2)), (.lt (.tok 2) (.len (.fld (.tok 0) 3))), (.ok 0 [(.get (.fld (.tok 0) 3) (.tok 2))])] (.need [(.rng .i64 (.add (.tok 2) (.lit (.i 1))))] (.back 12 [(.call 0 0 [(.get (.fld (.tok 0) 3) (.tok 2))]), (.add (.tok 2) (.lit (.i 1)))]))) (.leaf [(.tok 1)]))) (.br (.eq (.fld (.tok 0) 0) (.lit (.i 1))) (.loop 12 1 [(.and (.eq (.fld (.tok 0) 2) (.lit (.s ⟨#[]⟩))) (.eq (.len (.fld (.tok 0) 3)) (.lit (.i 0)))), (.lit (.i 0))] (.br (.and (.lt (.tok 2) (.len (.fld (.tok 0) 3))) (.tok 1)) (.need [(.le (.lit (.i 0)) (.tok 2)), (.lt (.tok 2) (.len (.fld (.tok 0) 3))), (.ok 0 [(.get (.fld (.tok 0) 3) (.tok 2))])] (.need [(.rng .i64 (.add (.tok 2) (.lit (.i 1))))] (.back 12 [(.call 0 0 [(.get (.fld (.tok 0) 3) (.tok 2))]), (.add (.tok 2) (.lit (.i 1)))]))) (.leaf [(.tok 1)]))) (.br (.eq (.fld (.tok 0) 0) (.lit (.i 2))) (.loop 12 1 [(.and (.and (.eq (.fld (.tok 0) 1) (.lit (.i 0))) (.le (.slen (.fld (.tok 0) 2)) (.lit (.i 100)))) (.eq (.len (.fld (.tok 0) 3)) (.lit (.i 0)))), (.lit (.i 0))] (.br (.and (.lt (.tok 2) (.len (.fld (.tok 0) 3))) (.tok 1)) (.need [(.le (.lit (.i 0)) (.tok 2)), (.lt (.tok 2) (.len (.fld (.tok 0) 3))), (.ok 0 [(.get (.fld (.tok 0) 3) (.tok 2))])] (.need [(.rng .i64 (.add (.tok 2) (.lit (.i 1))))] (.back 12 [(.call 0 0 [(.get (.fld (.tok 0) 3) (.tok 2))]), (.add (.tok 2) (.lit (.i 1)))]))) (.leaf [(.tok 1)]))) (.br (.eq (.fld (.tok 0) 0) (.lit (.i 3))) (.loop 12 1 [(.and (.and (.and (.eq (.fld (.tok 0) 1) (.lit (.i 0))) (.le (.slen (.fld (.tok 0) 2)) (.lit (.i 100)))) (.lt (.lit (.i 0)) (.len (.fld (.tok 0) 3)))) (.le (.len (.fld (.tok 0) 3)) (.lit (.i 8)))), (.lit (.i 0))] (.br (.and (.lt (.tok 2) (.len (.fld (.tok 0) 3))) (.tok 1)) (.need [(.le (.lit (.i 0)) (.tok 2)), (.lt (.tok 2) (.len (.fld (.tok 0) 3))), (.ok 0 [(.get (.fld (.tok 0) 3) (.tok 2))])] (.need [(.rng .i64 (.add (.tok 2) (.lit (.i 1))))] (.back 12 [(.call 0 0 [(.get (.fld (.tok 0) 3) (.tok 2))]), (.add (.tok 2) (.lit (.i 1)))]))) (.leaf [(.tok 1)]))) (.loop 12 1 [(.lit (.b .false)), (.lit (.i 0))] (.br (.and (.lt (.tok 2) (.len (.fld (.tok 0) 3))) (.tok 1)) (.need [(.le (.lit (.i 0)) (.tok 2)), (.lt (.tok 2) (.len (.fld (.tok 0) 3))), (.ok 0 [(.get (.fld (.tok 0) 3) (.tok 2))])] (.need [(.rng .i64 (.add (.tok 2) (.lit (.i 1))))] (.back 12 [(.call 0 0 [(.get (.fld (.tok 0) 3) (.tok 2))]), (.add (.tok 2) (.lit (.i 1)))]))) (.leaf [(.tok 1)])))))))
set_option maxRecDepth 100000 in
theorem code_term_fits (g0 : List D → Option (List D)) : ∀ cd, Try.f80.body = some cd → treeOf Try.prog [(q0o, g0)] ann_term_fits q0o Try.f80 cd = q32 := by
  intro cd h
  injection h with h
  subst h
  kernel_rfl
theorem fok_term_fits {g0 : List D → Option (List D)} {g : List D → Option (List D)} (h0 : FOk q0o g0) (h : ∀ ds outs, WfA q0o.ars ds → g ds = some outs → q32.go (tblS [(q0o, g0)]) (fun o => o = outs) ds fun _ _ => False) : FOk q0o g :=
  q0f ann_term_fits Try.f80 _ (.cons h0 .nil) rfl rfl enter_term_fits (by decide) fun ds outs hw hg => by rw [code_term_fits g0 _ rfl]; exact h ds outs hw hg

def q0b : Ct := ⟨61, [.val (.st 23)], [(.bool, false)], [], none⟩
theorem enter_term_Valid (args : Array Value) (w : World) : (callFunc q0b.f args).run Try.prog w = .ok (.enter q0b.f args) w := by kernel_rfl
def ann_term_Valid : Ann := ⟨[0, 1, 2], []⟩
def q2m : Tree := (.need [(.ok 0 [(.tok 0)]), (.imp (.le (.call 0 0 [(.tok 0)]) (.lit (.i 2000))) (.ok 1 [(.tok 0)]))] (.leaf [(.and (.le (.call 0 0 [(.tok 0)]) (.lit (.i 2000))) (.call 1 0 [(.tok 0)]))]))
set_option maxRecDepth 100000 in
theorem code_term_Valid (g0 g1 : List D → Option (List D)) : ∀ cd, Try.f61.body = some cd → treeOf Try.prog [(q0y, g0), (q0o, g1)] ann_term_Valid q0b Try.f61 cd = q2m := by
  intro cd h
  injection h with h
  subst h
  kernel_rfl
theorem fok_term_Valid {g0 g1 : List D → Option (List D)} {g : List D → Option (List D)} (h0 : FOk q0y g0) (h1 : FOk q0o g1) (h : ∀ ds outs, WfA q0b.ars ds → g ds = some outs → q2m.go (tblS [(q0y, g0), (q0o, g1)]) (fun o => o = outs) ds fun _ _ => False) : FOk q0b g :=
  q0f ann_term_Valid Try.f61 _ (.cons h0 (.cons h1 .nil)) rfl rfl enter_term_Valid (by decide) fun ds outs hw hg => by rw [code_term_Valid g0 g1 _ rfl]; exact h ds outs hw hg

def q14 : Ct := ⟨82, [.val (.st 23)], [(.st 23, false)], [], none⟩
theorem enter_term_Clone_1 (args : Array Value) (w : World) : (callFunc q14.f args).run Try.prog w = .ok (.enter q14.f args) w := by kernel_rfl
def ann_term_Clone_1 : Ann := ⟨[0, 1, 2], []⟩
def q21 : Tree := (.leaf [(.tok 0)])
set_option maxRecDepth 100000 in
theorem code_term_Clone_1 : ∀ cd, Try.f82.body = some cd → treeOf Try.prog [] ann_term_Clone_1 q14 Try.f82 cd = q21 := by
  intro cd h
  injection h with h
  subst h
  kernel_rfl
theorem fok_term_Clone_1 {g : List D → Option (List D)}  (h : ∀ ds outs, WfA q14.ars ds → g ds = some outs → q21.go (tblS []) (fun o => o = outs) ds fun _ _ => False) : FOk q14 g :=
  q0f ann_term_Clone_1 Try.f82 _ .nil rfl rfl enter_term_Clone_1 (by decide) fun ds outs hw hg => by rw [code_term_Clone_1  _ rfl]; exact h ds outs hw hg

def q0w : Ct := ⟨81, [.val (.st 23), .fn 82 []], [(.st 23, false)], [], none⟩
theorem enter_term_apply (args : Array Value) (w : World) : (callFunc q0w.f args).run Try.prog w = .ok (.enter q0w.f args) w := by kernel_rfl
def ann_term_apply : Ann := ⟨[0, 1, 2, 4, 5, 7, 10, 22, 23, 24, 25], [(5, ⟨[(24, .int .i64, false)], [5], [25, 26, 27, 7, 28, 29, 30, 31, 32, 33, 34, 35, 36], []⟩)]⟩
def q2p : Tree := (.br (.eq (.fld (.tok 0) 0) (.lit (.i 0))) (.need [(.ok 0 [(.tok 0)])] (.leaf [(.call 0 0 [(.tok 0)])])) (.loop 5 1 [(.lit (.i 0)), (.set (.set (.set (.lit (.a [(.i 0), (.i 0), (.s ⟨#[]⟩), (.r [])])) 0 (.fld (.tok 0) 0)) 1 (.fld (.tok 0) 1)) 2 (.fld (.tok 0) 2))] (.br (.lt (.tok 1) (.len (.fld (.tok 0) 3))) (.need [(.le (.lit (.i 0)) (.tok 1)), (.lt (.tok 1) (.len (.fld (.tok 0) 3)))] (.need [(.le (.add (.len (.fld (.tok 2) 3)) (.lit (.i 1))) (.lit (.i 2513169434843))), (.ok 1 [(.get (.fld (.tok 0) 3) (.tok 1))])] (.need [(.rng .i64 (.add (.tok 1) (.lit (.i 1))))] (.back 5 [(.add (.tok 1) (.lit (.i 1))), (.set (.tok 2) 3 (.app (.fld (.tok 2) 3) (.row [(.call 1 0 [(.get (.fld (.tok 0) 3) (.tok 1))])])))])))) (.leaf [(.tok 2)]))))
set_option maxRecDepth 100000 in
theorem code_term_apply (g0 g1 : List D → Option (List D)) : ∀ cd, Try.f81.body = some cd → treeOf Try.prog [(q14, g0), (q0w, g1)] ann_term_apply q0w Try.f81 cd = q2p := by
  intro cd h
  injection h with h
  subst h
  kernel_rfl
theorem fok_term_apply {g0 g1 : List D → Option (List D)} {g : List D → Option (List D)} (h0 : FOk q14 g0) (h1 : FOk q0w g1) (h : ∀ ds outs, WfA q0w.ars ds → g ds = some outs → q2p.go (tblS [(q14, g0), (q0w, g1)]) (fun o => o = outs) ds fun _ _ => False) : FOk q0w g :=
  q0f ann_term_apply Try.f81 _ (.cons h0 (.cons h1 .nil)) rfl rfl enter_term_apply (by decide) fun ds outs hw hg => by rw [code_term_apply g0 g1 _ rfl]; exact h ds outs hw hg

def q0h : Ct := ⟨62, [.val (.st 23)], [(.st 23, false)], [], none⟩
theorem enter_term_Clone (args : Array Value) (w : World) : (callFunc q0h.f args).run Try.prog w = .ok (.enter q0h.f args) w := by kernel_rfl
def ann_term_Clone : Ann := ⟨[0, 1, 2, 5], []⟩
def q2u : Tree := (.need [(.ok 0 [(.tok 0)])] (.br (.not (.call 0 0 [(.tok 0)])) (.leaf [(.lit (.a [(.i 0), (.i 0), (.s ⟨#[]⟩), (.r [])]))]) (.need [(.ok 1 [(.tok 0)])] (.leaf [(.call 1 0 [(.tok 0)])]))))
set_option maxRecDepth 100000 in
theorem code_term_Clone (g0 g1 : List D → Option (List D)) : ∀ cd, Try.f62.body = some cd → treeOf Try.prog [(q0b, g0), (q0w, g1)] ann_term_Clone q0h Try.f62 cd = q2u := by
  intro cd h
  injection h with h
  subst h
  kernel_rfl
theorem fok_term_Clone {g0 g1 : List D → Option (List D)} {g : List D → Option (List D)} (h0 : FOk q0b g0) (h1 : FOk q0w g1) (h : ∀ ds outs, WfA q0h.ars ds → g ds = some outs → q2u.go (tblS [(q0b, g0), (q0w, g1)]) (fun o => o = outs) ds fun _ _ => False) : FOk q0h g :=
  q0f ann_term_Clone Try.f62 _ (.cons h0 (.cons h1 .nil)) rfl rfl enter_term_Clone (by decide) fun ds outs hw hg => by rw [code_term_Clone g0 g1 _ rfl]; exact h ds outs hw hg

def q0j : Ct := ⟨85, [.val (.str)], [(.st 23, false)], [], none⟩
theorem enter_term_Atom (args : Array Value) (w : World) : (callFunc q0j.f args).run Try.prog w = .ok (.enter q0j.f args) w := by kernel_rfl
def ann_term_Atom : Ann := ⟨[0, 2], []⟩
def q2z : Tree := (.need [(.ok 0 [(.set (.set (.lit (.a [(.i 0), (.i 0), (.s ⟨#[]⟩), (.r [])])) 0 (.lit (.i 2))) 2 (.tok 0))])] (.leaf [(.call 0 0 [(.set (.set (.lit (.a [(.i 0), (.i 0), (.s ⟨#[]⟩), (.r [])])) 0 (.lit (.i 2))) 2 (.tok 0))])]))
set_option maxRecDepth 100000 in
theorem code_term_Atom (g0 : List D → Option (List D)) : ∀ cd, Try.f85.body = some cd → treeOf Try.prog [(q0h, g0)] ann_term_Atom q0j Try.f85 cd = q2z := by
  intro cd h
  injection h with h
  subst h
  kernel_rfl
theorem fok_term_Atom {g0 : List D → Option (List D)} {g : List D → Option (List D)} (h0 : FOk q0h g0) (h : ∀ ds outs, WfA q0j.ars ds → g ds = some outs → q2z.go (tblS [(q0h, g0)]) (fun o => o = outs) ds fun _ _ => False) : FOk q0j g :=
  q0f ann_term_Atom Try.f85 _ (.cons h0 .nil) rfl rfl enter_term_Atom (by decide) fun ds outs hw hg => by rw [code_term_Atom g0 _ rfl]; exact h ds outs hw hg

def q19 : Ct := ⟨86, [.val (.str), .val (.row 24)], [(.st 23, false)], [], none⟩
theorem enter_term_Struct (args : Array Value) (w : World) : (callFunc q19.f args).run Try.prog w = .ok (.enter q19.f args) w := by kernel_rfl
def ann_term_Struct : Ann := ⟨[0, 1, 4, 7], []⟩
def q2c : Tree := (.br (.eq (.len (.tok 1)) (.lit (.i 0))) (.need [(.ok 0 [(.tok 0)])] (.leaf [(.call 0 0 [(.tok 0)])])) (.need [(.ok 1 [(.set (.set (.set (.lit (.a [(.i 0), (.i 0), (.s ⟨#[]⟩), (.r [])])) 0 (.lit (.i 3))) 2 (.tok 0)) 3 (.tok 1))])] (.leaf [(.call 1 0 [(.set (.set (.set (.lit (.a [(.i 0), (.i 0), (.s ⟨#[]⟩), (.r [])])) 0 (.lit (.i 3))) 2 (.tok 0)) 3 (.tok 1))])])))
set_option maxRecDepth 100000 in
theorem code_term_Struct (g0 g1 : List D → Option (List D)) : ∀ cd, Try.f86.body = some cd → treeOf Try.prog [(q0j, g0), (q0h, g1)] ann_term_Struct q19 Try.f86 cd = q2c := by
  intro cd h
  injection h with h
  subst h
  kernel_rfl
theorem fok_term_Struct {g0 g1 : List D → Option (List D)} {g : List D → Option (List D)} (h0 : FOk q0j g0) (h1 : FOk q0h g1) (h : ∀ ds outs, WfA q19.ars ds → g ds = some outs → q2c.go (tblS [(q0j, g0), (q0h, g1)]) (fun o => o = outs) ds fun _ _ => False) : FOk q19 g :=
  q0f ann_term_Struct Try.f86 _ (.cons h0 (.cons h1 .nil)) rfl rfl enter_term_Struct (by decide) fun ds outs hw hg => by rw [code_term_Struct g0 g1 _ rfl]; exact h ds outs hw hg

def q0c : Ct := ⟨70, [.val (.str), .val (.row 24)], [(.st 23, false)], [], none⟩
theorem enter_balls_raise (args : Array Value) (w : World) : (callFunc q0c.f args).run Try.prog w = .ok (.enter q0c.f args) w := by kernel_rfl
def ann_balls_raise : Ann := ⟨[0, 1, 4], []⟩
def q2a : Tree := (.need [(.ok 0 [(.tok 0), (.tok 1)]), (.ok 1 [(.lit (.s ⟨#[91, 93]⟩))]), (.ok 0 [(.lit (.s ⟨#[101, 114, 114, 111, 114]⟩)), (.row [(.call 0 0 [(.tok 0), (.tok 1)]), (.call 1 0 [(.lit (.s ⟨#[91, 93]⟩))])])])] (.leaf [(.call 0 0 [(.lit (.s ⟨#[101, 114, 114, 111, 114]⟩)), (.row [(.call 0 0 [(.tok 0), (.tok 1)]), (.call 1 0 [(.lit (.s ⟨#[91, 93]⟩))])])])]))
set_option maxRecDepth 100000 in
theorem code_balls_raise (g0 g1 : List D → Option (List D)) : ∀ cd, Try.f70.body = some cd → treeOf Try.prog [(q19, g0), (q0j, g1)] ann_balls_raise q0c Try.f70 cd = q2a := by
  intro cd h
  injection h with h
  subst h
  kernel_rfl
theorem fok_balls_raise {g0 g1 : List D → Option (List D)} {g : List D → Option (List D)} (h0 : FOk q19 g0) (h1 : FOk q0j g1) (h : ∀ ds outs, WfA q0c.ars ds → g ds = some outs → q2a.go (tblS [(q19, g0), (q0j, g1)]) (fun o => o = outs) ds fun _ _ => False) : FOk q0c g :=
  q0f ann_balls_raise Try.f70 _ (.cons h0 (.cons h1 .nil)) rfl rfl enter_balls_raise (by decide) fun ds outs hw hg => by rw [code_balls_raise g0 g1 _ rfl]; exact h ds outs hw hg

def q0l : Ct := ⟨32, [], [(.st 23, false)], [], none⟩
theorem enter_balls_Inst (args : Array Value) (w : World) : (callFunc q0l.f args).run Try.prog w = .ok (.enter q0l.f args) w := by kernel_rfl
def ann_balls_Inst : Ann := ⟨[0], []⟩
def q2v : Tree := (.need [(.ok 0 [(.lit (.s ⟨#[105, 110, 115, 116, 97, 110, 116, 105, 97, 116, 105, 111, 110, 95, 101, 114, 114, 111, 114]⟩)), (.lit (.r []))])] (.leaf [(.call 0 0 [(.lit (.s ⟨#[105, 110, 115, 116, 97, 110, 116, 105, 97, 116, 105, 111, 110, 95, 101, 114, 114, 111, 114]⟩)), (.lit (.r []))])]))
set_option maxRecDepth 100000 in
theorem code_balls_Inst (g0 : List D → Option (List D)) : ∀ cd, Try.f32.body = some cd → treeOf Try.prog [(q0c, g0)] ann_balls_Inst q0l Try.f32 cd = q2v := by
  intro cd h
  injection h with h
  subst h
  kernel_rfl
theorem fok_balls_Inst {g0 : List D → Option (List D)} {g : List D → Option (List D)} (h0 : FOk q0c g0) (h : ∀ ds outs, WfA q0l.ars ds → g ds = some outs → q2v.go (tblS [(q0c, g0)]) (fun o => o = outs) ds fun _ _ => False) : FOk q0l g :=
  q0f ann_balls_Inst Try.f32 _ (.cons h0 .nil) rfl rfl enter_balls_Inst (by decide) fun ds outs hw hg => by rw [code_balls_Inst g0 _ rfl]; exact h ds outs hw hg

def q0g : Ct := ⟨67, [.val (.st 23)], [(.st 23, false), (.bool, false)], [], none⟩
theorem enter_balls_bound (args : Array Value) (w : World) : (callFunc q0g.f args).run Try.prog w = .ok (.enter q0g.f args) w := by kernel_rfl
def ann_balls_bound : Ann := ⟨[0, 1, 2, 3, 6, 10], []⟩
def q2e : Tree := (.need [(.ok 0 [(.tok 0)])] (.br (.not (.call 0 0 [(.tok 0)])) (.leaf [(.lit (.a [(.i 0), (.i 0), (.s ⟨#[]⟩), (.r [])])), (.lit (.b .false))]) (.br (.eq (.fld (.tok 0) 0) (.lit (.i 0))) (.need [(.ok 1 [])] (.leaf [(.call 1 0 []), (.lit (.b .false))])) (.leaf [(.lit (.a [(.i 0), (.i 0), (.s ⟨#[]⟩), (.r [])])), (.lit (.b .true))]))))
set_option maxRecDepth 100000 in
theorem code_balls_bound (g0 g1 : List D → Option (List D)) : ∀ cd, Try.f67.body = some cd → treeOf Try.prog [(q0b, g0), (q0l, g1)] ann_balls_bound q0g Try.f67 cd = q2e := by
  intro cd h
  injection h with h
  subst h
  kernel_rfl
theorem fok_balls_bound {g0 g1 : List D → Option (List D)} {g : List D → Option (List D)} (h0 : FOk q0b g0) (h1 : FOk q0l g1) (h : ∀ ds outs, WfA q0g.ars ds → g ds = some outs → q2e.go (tblS [(q0b, g0), (q0l, g1)]) (fun o => o = outs) ds fun _ _ => False) : FOk q0g g :=
  q0f ann_balls_bound Try.f67 _ (.cons h0 (.cons h1 .nil)) rfl rfl enter_balls_bound (by decide) fun ds outs hw hg => by rw [code_balls_bound g0 g1 _ rfl]; exact h ds outs hw hg

def q09 : Ct := ⟨68, [.val (.st 23), .val (.str), .val (.row 9)], [(.st 23, false)], [], none⟩
theorem enter_balls_about (args : Array Value) (w : World) : (callFunc q09.f args).run Try.prog w = .ok (.enter q09.f args) w := by kernel_rfl
def ann_balls_about : Ann := ⟨[0, 1, 2, 3, 6, 7, 9, 12, 14, 15, 16, 17, 22, 36], [(5, ⟨[(7, .row 24, false), (16, .int .i64, false)], [6], [17, 18, 19, 9, 20, 21, 22, 23, 24, 25, 26, 27, 28, 29], []⟩)]⟩
def q1u : Tree := (.need [(.ok 0 [(.tok 0)])] (.br (.not (.call 0 0 [(.tok 0)])) (.leaf [(.lit (.a [(.i 0), (.i 0), (.s ⟨#[]⟩), (.r [])]))]) (.loop 5 3 [(.lit (.r [])), (.lit (.i 0)), (.lit (.a [(.i 0), (.i 0), (.s ⟨#[]⟩), (.r [])]))] (.br (.lt (.tok 4) (.len (.tok 2))) (.need [(.le (.lit (.i 0)) (.tok 4)), (.lt (.tok 4) (.len (.tok 2)))] (.br (.lt (.lit (.i 100)) (.slen (.get (.tok 2) (.tok 4)))) (.leaf [(.lit (.a [(.i 0), (.i 0), (.s ⟨#[]⟩), (.r [])]))]) (.need [(.ok 1 [(.get (.tok 2) (.tok 4))]), (.le (.add (.len (.tok 3)) (.lit (.i 1))) (.lit (.i 2513169434843)))] (.need [(.rng .i64 (.add (.tok 4) (.lit (.i 1))))] (.back 5 [(.app (.tok 3) (.row [(.call 1 0 [(.get (.tok 2) (.tok 4))])])), (.add (.tok 4) (.lit (.i 1))), (.tok 5)]))))) (.need [(.rng .i64 (.add (.lit (.i 3)) (.len (.tok 2)))), (.ok 2 [(.tok 0)]), (.rng .i64 (.add (.add (.lit (.i 3)) (.len (.tok 2))) (.call 2 0 [(.tok 0)])))] (.br (.lt (.lit (.i 2000)) (.add (.add (.lit (.i 3)) (.len (.tok 2))) (.call 2 0 [(.tok 0)]))) (.need [(.ok 1 [(.lit (.s ⟨#[46, 46, 46]⟩))])] (.need [(.le (.add (.len (.tok 3)) (.lit (.i 1))) (.lit (.i 2513169434843))), (.ok 3 [(.tok 1), (.app (.tok 3) (.row [(.call 1 0 [(.lit (.s ⟨#[46, 46, 46]⟩))])]))])] (.leaf [(.call 3 0 [(.tok 1), (.app (.tok 3) (.row [(.call 1 0 [(.lit (.s ⟨#[46, 46, 46]⟩))])]))])]))) (.need [(.le (.add (.len (.tok 3)) (.lit (.i 1))) (.lit (.i 2513169434843))), (.ok 3 [(.tok 1), (.app (.tok 3) (.row [(.tok 0)]))])] (.leaf [(.call 3 0 [(.tok 1), (.app (.tok 3) (.row [(.tok 0)]))])]))))))))
set_option maxRecDepth 100000 in
theorem code_balls_about (g0 g1 g2 g3 : List D → Option (List D)) : ∀ cd, Try.f68.body = some cd → treeOf Try.prog [(q0b, g0), (q0j, g1), (q0y, g2), (q0c, g3)] ann_balls_about q09 Try.f68 cd = q1u := by
  intro cd h
  injection h with h
  subst h
  kernel_rfl
theorem fok_balls_about {g0 g1 g2 g3 : List D → Option (List D)} {g : List D → Option (List D)} (h0 : FOk q0b g0) (h1 : FOk q0j g1) (h2 : FOk q0y g2) (h3 : FOk q0c g3) (h : ∀ ds outs, WfA q09.ars ds → g ds = some outs → q1u.go (tblS [(q0b, g0), (q0j, g1), (q0y, g2), (q0c, g3)]) (fun o => o = outs) ds fun _ _ => False) : FOk q09 g :=
  q0f ann_balls_about Try.f68 _ (.cons h0 (.cons h1 (.cons h2 (.cons h3 .nil)))) rfl rfl enter_balls_about (by decide) fun ds outs hw hg => by rw [code_balls_about g0 g1 g2 g3 _ rfl]; exact h ds outs hw hg

def q0a : Ct := ⟨25, [.val (.str), .val (.st 23)], [(.st 23, false)], [], none⟩
theorem enter_balls_Type (args : Array Value) (w : World) : (callFunc q0a.f args).run Try.prog w = .ok (.enter q0a.f args) w := by kernel_rfl
def ann_balls_Type : Ann := ⟨[0, 1, 3, 4], []⟩
def q1x : Tree := (.need [(.ok 0 [(.tok 1), (.lit (.s ⟨#[116, 121, 112, 101, 95, 101, 114, 114, 111, 114]⟩)), (.row [(.tok 0)])])] (.leaf [(.call 0 0 [(.tok 1), (.lit (.s ⟨#[116, 121, 112, 101, 95, 101, 114, 114, 111, 114]⟩)), (.row [(.tok 0)])])]))
set_option maxRecDepth 100000 in
theorem code_balls_Type (g0 : List D → Option (List D)) : ∀ cd, Try.f25.body = some cd → treeOf Try.prog [(q09, g0)] ann_balls_Type q0a Try.f25 cd = q1x := by
  intro cd h
  injection h with h
  subst h
  kernel_rfl
theorem fok_balls_Type {g0 : List D → Option (List D)} {g : List D → Option (List D)} (h0 : FOk q09 g0) (h : ∀ ds outs, WfA q0a.ars ds → g ds = some outs → q1x.go (tblS [(q09, g0)]) (fun o => o = outs) ds fun _ _ => False) : FOk q0a g :=
  q0f ann_balls_Type Try.f25 _ (.cons h0 .nil) rfl rfl enter_balls_Type (by decide) fun ds outs hw hg => by rw [code_balls_Type g0 _ rfl]; exact h ds outs hw hg

def q0v : Ct := ⟨53, [.val (.st 23)], [(.str, false), (.st 23, false), (.bool, false)], [], none⟩
theorem enter_balls_Atom (args : Array Value) (w : World) : (callFunc q0v.f args).run Try.prog w = .ok (.enter q0v.f args) w := by kernel_rfl
def ann_balls_Atom : Ann := ⟨[0, 1, 2, 3, 4, 11, 15], []⟩
def q2k : Tree := (.need [(.ok 0 [(.tok 0)])] (.br (.not (.call 0 1 [(.tok 0)])) (.leaf [(.lit (.s ⟨#[]⟩)), (.call 0 0 [(.tok 0)]), (.lit (.b .false))]) (.br (.not (.eq (.fld (.tok 0) 0) (.lit (.i 2)))) (.need [(.ok 1 [(.lit (.s ⟨#[97, 116, 111, 109]⟩)), (.tok 0)])] (.leaf [(.lit (.s ⟨#[]⟩)), (.call 1 0 [(.lit (.s ⟨#[97, 116, 111, 109]⟩)), (.tok 0)]), (.lit (.b .false))])) (.leaf [(.fld (.tok 0) 2), (.lit (.a [(.i 0), (.i 0), (.s ⟨#[]⟩), (.r [])])), (.lit (.b .true))]))))
set_option maxRecDepth 100000 in
theorem code_balls_Atom (g0 g1 : List D → Option (List D)) : ∀ cd, Try.f53.body = some cd → treeOf Try.prog [(q0g, g0), (q0a, g1)] ann_balls_Atom q0v Try.f53 cd = q2k := by
  intro cd h
  injection h with h
  subst h
  kernel_rfl
theorem fok_balls_Atom {g0 g1 : List D → Option (List D)} {g : List D → Option (List D)} (h0 : FOk q0g g0) (h1 : FOk q0a g1) (h : ∀ ds outs, WfA q0v.ars ds → g ds = some outs → q2k.go (tblS [(q0g, g0), (q0a, g1)]) (fun o => o = outs) ds fun _ _ => False) : FOk q0v g :=
  q0f ann_balls_Atom Try.f53 _ (.cons h0 (.cons h1 .nil)) rfl rfl enter_balls_Atom (by decide) fun ds outs hw hg => by rw [code_balls_Atom g0 g1 _ rfl]; exact h ds outs hw hg

def q12 : Ct := ⟨55, [.val (.st 23)], [(.int .i64, false), (.st 23, false), (.bool, false)], [], none⟩
theorem enter_balls_Int (args : Array Value) (w : World) : (callFunc q12.f args).run Try.prog w = .ok (.enter q12.f args) w := by kernel_rfl
def ann_balls_Int : Ann := ⟨[0, 1, 2, 3, 4, 11, 15], []⟩
def q2y : Tree := (.need [(.ok 0 [(.tok 0)])] (.br (.not (.call 0 1 [(.tok 0)])) (.leaf [(.lit (.i 0)), (.call 0 0 [(.tok 0)]), (.lit (.b .false))]) (.br (.not (.eq (.fld (.tok 0) 0) (.lit (.i 1)))) (.need [(.ok 1 [(.lit (.s ⟨#[105, 110, 116, 101, 103, 101, 114]⟩)), (.tok 0)])] (.leaf [(.lit (.i 0)), (.call 1 0 [(.lit (.s ⟨#[105, 110, 116, 101, 103, 101, 114]⟩)), (.tok 0)]), (.lit (.b .false))])) (.leaf [(.fld (.tok 0) 1), (.lit (.a [(.i 0), (.i 0), (.s ⟨#[]⟩), (.r [])])), (.lit (.b .true))]))))
set_option maxRecDepth 100000 in
theorem code_balls_Int (g0 g1 : List D → Option (List D)) : ∀ cd, Try.f55.body = some cd → treeOf Try.prog [(q0g, g0), (q0a, g1)] ann_balls_Int q12 Try.f55 cd = q2y := by
  intro cd h
  injection h with h
  subst h
  kernel_rfl
theorem fok_balls_Int {g0 g1 : List D → Option (List D)} {g : List D → Option (List D)} (h0 : FOk q0g g0) (h1 : FOk q0a g1) (h : ∀ ds outs, WfA q12.ars ds → g ds = some outs → q2y.go (tblS [(q0g, g0), (q0a, g1)]) (fun o => o = outs) ds fun _ _ => False) : FOk q12 g :=
  q0f ann_balls_Int Try.f55 _ (.cons h0 (.cons h1 .nil)) rfl rfl enter_balls_Int (by decide) fun ds outs hw hg => by rw [code_balls_Int g0 g1 _ rfl]; exact h ds outs hw hg

def q16 : Ct := ⟨17, [.val (.st 23)], [(.row 24, false), (.st 23, false), (.bool, false)], [], none⟩
theorem enter_balls_List (args : Array Value) (w : World) : (callFunc q16.f args).run Try.prog w = .ok (.enter q16.f args) w := by kernel_rfl
def ann_balls_List : Ann := ⟨[0, 1, 2, 3, 4, 5, 8, 11, 38, 43], [(4, ⟨[(2, .row 24, false)], [5], [12, 13, 14, 15, 16, 17, 18, 19, 20, 21, 22, 23, 24, 25, 11, 26, 27, 28, 29, 30, 31, 32, 33, 34, 35, 36, 37], []⟩)]⟩
def q2l : Tree := (.need [(.ok 0 [(.tok 0)])] (.br (.not (.call 0 0 [(.tok 0)])) (.leaf [(.lit (.r [])), (.lit (.a [(.i 0), (.i 0), (.s ⟨#[]⟩), (.r [])])), (.lit (.b .false))]) (.loop 4 1 [(.lit (.r [])), (.tok 0)] (.br (.and (.and (.eq (.fld (.tok 2) 0) (.lit (.i 3))) (.eq (.fld (.tok 2) 2) (.lit (.s ⟨#[46]⟩)))) (.eq (.len (.fld (.tok 2) 3)) (.lit (.i 2)))) (.need [(.lit (.b .true)), (.lt (.lit (.i 0)) (.len (.fld (.tok 2) 3))), (.ok 1 [(.get (.fld (.tok 2) 3) (.lit (.i 0)))]), (.le (.add (.len (.tok 1)) (.lit (.i 1))) (.lit (.i 2513169434843)))] (.need [(.lit (.b .true)), (.lt (.lit (.i 1)) (.len (.fld (.tok 2) 3)))] (.back 4 [(.app (.tok 1) (.row [(.call 1 0 [(.get (.fld (.tok 2) 3) (.lit (.i 0)))])])), (.get (.fld (.tok 2) 3) (.lit (.i 1)))]))) (.br (.eq (.fld (.tok 2) 0) (.lit (.i 0))) (.need [(.ok 2 [])] (.leaf [(.lit (.r [])), (.call 2 0 []), (.lit (.b .false))])) (.br (.and (.eq (.fld (.tok 2) 0) (.lit (.i 2))) (.eq (.fld (.tok 2) 2) (.lit (.s ⟨#[91, 93]⟩)))) (.leaf [(.tok 1), (.lit (.a [(.i 0), (.i 0), (.s ⟨#[]⟩), (.r [])])), (.lit (.b .true))]) (.need [(.ok 3 [(.lit (.s ⟨#[108, 105, 115, 116]⟩)), (.tok 0)])] (.leaf [(.lit (.r [])), (.call 3 0 [(.lit (.s ⟨#[108, 105, 115, 116]⟩)), (.tok 0)]), (.lit (.b .false))]))))))))
set_option maxRecDepth 100000 in
theorem code_balls_List (g0 g1 g2 g3 : List D → Option (List D)) : ∀ cd, Try.f17.body = some cd → treeOf Try.prog [(q0b, g0), (q0h, g1), (q0l, g2), (q0a, g3)] ann_balls_List q16 Try.f17 cd = q2l := by
  intro cd h
  injection h with h
  subst h
  kernel_rfl
theorem fok_balls_List {g0 g1 g2 g3 : List D → Option (List D)} {g : List D → Option (List D)} (h0 : FOk q0b g0) (h1 : FOk q0h g1) (h2 : FOk q0l g2) (h3 : FOk q0a g3) (h : ∀ ds outs, WfA q16.ars ds → g ds = some outs → q2l.go (tblS [(q0b, g0), (q0h, g1), (q0l, g2), (q0a, g3)]) (fun o => o = outs) ds fun _ _ => False) : FOk q16 g :=
  q0f ann_balls_List Try.f17 _ (.cons h0 (.cons h1 (.cons h2 (.cons h3 .nil)))) rfl rfl enter_balls_List (by decide) fun ds outs hw hg => by rw [code_balls_List g0 g1 g2 g3 _ rfl]; exact h ds outs hw hg

def q1m : Ct := ⟨46, [.val (.st 23)], [(.int .i64, false), (.st 23, false), (.bool, false)], [], none⟩
theorem enter_balls_Char (args : Array Value) (w : World) : (callFunc q1m.f args).run Try.prog w = .ok (.enter q1m.f args) w := by kernel_rfl
def ann_balls_Char : Ann := ⟨[0, 1, 2, 3, 4, 11, 21], []⟩
def q2i : Tree := (.need [(.ok 0 [(.tok 0)])] (.br (.not (.call 0 1 [(.tok 0)])) (.leaf [(.lit (.i 0)), (.call 0 0 [(.tok 0)]), (.lit (.b .false))]) (.br (.or (.not (.eq (.fld (.tok 0) 0) (.lit (.i 2)))) (.not (.eq (.slen (.fld (.tok 0) 2)) (.lit (.i 1))))) (.need [(.ok 1 [(.lit (.s ⟨#[99, 104, 97, 114, 97, 99, 116, 101, 114]⟩)), (.tok 0)])] (.leaf [(.lit (.i 0)), (.call 1 0 [(.lit (.s ⟨#[99, 104, 97, 114, 97, 99, 116, 101, 114]⟩)), (.tok 0)]), (.lit (.b .false))])) (.need [(.lit (.b .true)), (.lt (.lit (.i 0)) (.slen (.fld (.tok 0) 2))), (.rng .i64 (.sget (.fld (.tok 0) 2) (.lit (.i 0))))] (.leaf [(.sget (.fld (.tok 0) 2) (.lit (.i 0))), (.lit (.a [(.i 0), (.i 0), (.s ⟨#[]⟩), (.r [])])), (.lit (.b .true))])))))
set_option maxRecDepth 100000 in
theorem code_balls_Char (g0 g1 : List D → Option (List D)) : ∀ cd, Try.f46.body = some cd → treeOf Try.prog [(q0g, g0), (q0a, g1)] ann_balls_Char q1m Try.f46 cd = q2i := by
  intro cd h
  injection h with h
  subst h
  kernel_rfl
theorem fok_balls_Char {g0 g1 : List D → Option (List D)} {g : List D → Option (List D)} (h0 : FOk q0g g0) (h1 : FOk q0a g1) (h : ∀ ds outs, WfA q1m.ars ds → g ds = some outs → q2i.go (tblS [(q0g, g0), (q0a, g1)]) (fun o => o = outs) ds fun _ _ => False) : FOk q1m g :=
  q0f ann_balls_Char Try.f46 _ (.cons h0 (.cons h1 .nil)) rfl rfl enter_balls_Char (by decide) fun ds outs hw hg => by rw [code_balls_Char g0 g1 _ rfl]; exact h ds outs hw hg

def q0n : Ct := ⟨71, [.val (.str), .val (.str)], [(.st 23, false)], [], none⟩
theorem enter_balls_named (args : Array Value) (w : World) : (callFunc q0n.f args).run Try.prog w = .ok (.enter q0n.f args) w := by kernel_rfl
def ann_balls_named : Ann := ⟨[0, 1, 4, 7], []⟩
def q2g : Tree := (.br (.lt (.lit (.i 100)) (.slen (.tok 1))) (.leaf [(.lit (.a [(.i 0), (.i 0), (.s ⟨#[]⟩), (.r [])]))]) (.need [(.ok 0 [(.tok 1)]), (.ok 1 [(.tok 0), (.row [(.call 0 0 [(.tok 1)])])])] (.leaf [(.call 1 0 [(.tok 0), (.row [(.call 0 0 [(.tok 1)])])])])))
set_option maxRecDepth 100000 in
theorem code_balls_named (g0 g1 : List D → Option (List D)) : ∀ cd, Try.f71.body = some cd → treeOf Try.prog [(q0j, g0), (q0c, g1)] ann_balls_named q0n Try.f71 cd = q2g := by
  intro cd h
  injection h with h
  subst h
  kernel_rfl
theorem fok_balls_named {g0 g1 : List D → Option (List D)} {g : List D → Option (List D)} (h0 : FOk q0j g0) (h1 : FOk q0c g1) (h : ∀ ds outs, WfA q0n.ars ds → g ds = some outs → q2g.go (tblS [(q0j, g0), (q0c, g1)]) (fun o => o = outs) ds fun _ _ => False) : FOk q0n g :=
  q0f ann_balls_named Try.f71 _ (.cons h0 (.cons h1 .nil)) rfl rfl enter_balls_named (by decide) fun ds outs hw hg => by rw [code_balls_named g0 g1 _ rfl]; exact h ds outs hw hg

def q08 : Ct := ⟨33, [.val (.str)], [(.st 23, false)], [], none⟩
theorem q34 (args : Array Value) (w : World) : (callFunc q08.f args).run Try.prog w = .ok (.enter q08.f args) w := by kernel_rfl
def q1y : Ann := ⟨[0, 2], []⟩
def q1n : Tree := (.need [(.ok 0 [(.lit (.s ⟨#[114, 101, 112, 114, 101, 115, 101, 110, 116, 97, 116, 105, 111, 110, 95, 101, 114, 114, 111, 114]⟩)), (.tok 0)])] (.leaf [(.call 0 0 [(.lit (.s ⟨#[114, 101, 112, 114, 101, 115, 101, 110, 116, 97, 116, 105, 111, 110, 95, 101, 114, 114, 111, 114]⟩)), (.tok 0)])]))
set_option maxRecDepth 100000 in
theorem q35 (g0 : List D → Option (List D)) : ∀ cd, Try.f33.body = some cd → treeOf Try.prog [(q0n, g0)] q1y q08 Try.f33 cd = q1n := by
  intro cd h
  injection h with h
  subst h
  kernel_rfl
theorem q37 {g0 : List D → Option (List D)} {g : List D → Option (List D)} (h0 : FOk q0n g0) (h : ∀ ds outs, WfA q08.ars ds → g ds = some outs → q1n.go (tblS [(q0n, g0)]) (fun o => o = outs) ds fun _ _ => False) : FOk q08 g :=
  q0f q1y Try.f33 _ (.cons h0 .nil) rfl rfl q34 (by decide) fun ds outs hw hg => by rw [q35 g0 _ rfl]; exact h ds outs hw hg

def q18 : Ct := ⟨48, [.val (.st 23)], [(.int .i64, false), (.st 23, false), (.bool, false)], [], none⟩
theorem enter_balls_Code (args : Array Value) (w : World) : (callFunc q18.f args).run Try.prog w = .ok (.enter q18.f args) w := by kernel_rfl
def ann_balls_Code : Ann := ⟨[0, 1, 2, 3, 4, 5, 13, 20], []⟩
def q2q : Tree := (.need [(.ok 0 [(.tok 0)])] (.br (.not (.call 0 2 [(.tok 0)])) (.leaf [(.lit (.i 0)), (.call 0 1 [(.tok 0)]), (.lit (.b .false))]) (.br (.or (.lt (.call 0 0 [(.tok 0)]) (.lit (.i 0))) (.lt (.lit (.i 255)) (.call 0 0 [(.tok 0)]))) (.need [(.ok 1 [(.lit (.s ⟨#[99, 104, 97, 114, 97, 99, 116, 101, 114, 95, 99, 111, 100, 101]⟩))])] (.leaf [(.lit (.i 0)), (.call 1 0 [(.lit (.s ⟨#[99, 104, 97, 114, 97, 99, 116, 101, 114, 95, 99, 111, 100, 101]⟩))]), (.lit (.b .false))])) (.leaf [(.call 0 0 [(.tok 0)]), (.lit (.a [(.i 0), (.i 0), (.s ⟨#[]⟩), (.r [])])), (.lit (.b .true))]))))
set_option maxRecDepth 100000 in
theorem code_balls_Code (g0 g1 : List D → Option (List D)) : ∀ cd, Try.f48.body = some cd → treeOf Try.prog [(q12, g0), (q08, g1)] ann_balls_Code q18 Try.f48 cd = q2q := by
  intro cd h
  injection h with h
  subst h
  kernel_rfl
theorem fok_balls_Code {g0 g1 : List D → Option (List D)} {g : List D → Option (List D)} (h0 : FOk q12 g0) (h1 : FOk q08 g1) (h : ∀ ds outs, WfA q18.ars ds → g ds = some outs → q2q.go (tblS [(q12, g0), (q08, g1)]) (fun o => o = outs) ds fun _ _ => False) : FOk q18 g :=
  q0f ann_balls_Code Try.f48 _ (.cons h0 (.cons h1 .nil)) rfl rfl enter_balls_Code (by decide) fun ds outs hw hg => by rw [code_balls_Code g0 g1 _ rfl]; exact h ds outs hw hg

def q15 : Ct := ⟨28, [.val (.str), .val (.st 23)], [(.st 23, false)], [], none⟩
theorem enter_balls_Domain (args : Array Value) (w : World) : (callFunc q15.f args).run Try.prog w = .ok (.enter q15.f args) w := by kernel_rfl
def ann_balls_Domain : Ann := ⟨[0, 1, 3, 4], []⟩
def q22 : Tree := (.need [(.ok 0 [(.tok 1), (.lit (.s ⟨#[100, 111, 109, 97, 105, 110, 95, 101, 114, 114, 111, 114]⟩)), (.row [(.tok 0)])])] (.leaf [(.call 0 0 [(.tok 1), (.lit (.s ⟨#[100, 111, 109, 97, 105, 110, 95, 101, 114, 114, 111, 114]⟩)), (.row [(.tok 0)])])]))
set_option maxRecDepth 100000 in
theorem code_balls_Domain (g0 : List D → Option (List D)) : ∀ cd, Try.f28.body = some cd → treeOf Try.prog [(q09, g0)] ann_balls_Domain q15 Try.f28 cd = q22 := by
  intro cd h
  injection h with h
  subst h
  kernel_rfl
theorem fok_balls_Domain {g0 : List D → Option (List D)} {g : List D → Option (List D)} (h0 : FOk q09 g0) (h : ∀ ds outs, WfA q15.ars ds → g ds = some outs → q22.go (tblS [(q09, g0)]) (fun o => o = outs) ds fun _ _ => False) : FOk q15 g :=
  q0f ann_balls_Domain Try.f28 _ (.cons h0 .nil) rfl rfl enter_balls_Domain (by decide) fun ds outs hw hg => by rw [code_balls_Domain g0 _ rfl]; exact h ds outs hw hg

def q0m : Ct := ⟨24, [.val (.st 23)], [(.str, false), (.int .i64, false), (.st 23, false), (.bool, false)], [], none⟩
theorem enter_balls_Indicator (args : Array Value) (w : World) : (callFunc q0m.f args).run Try.prog w = .ok (.enter q0m.f args) w := by kernel_rfl
def q2w : Ann := ⟨[0, 1, 2, 3, 4, 5, 6, 7, 8, 15, 30, 48, 57, 66, 69, 73], []⟩
def q1w : Tree := (.need [(.ok 0 [(.tok 0)])] (.br (.not (.call 0 1 [(.tok 0)])) (.leaf [(.lit (.s ⟨#[]⟩)), (.lit (.i 0)), (.call 0 0 [(.tok 0)]), (.lit (.b .false))]) (.br (.or (.or (.not (.eq (.fld (.tok 0) 0) (.lit (.i 3)))) (.not (.eq (.fld (.tok 0) 2) (.lit (.s ⟨#[47]⟩))))) (.not (.eq (.len (.fld (.tok 0) 3)) (.lit (.i 2))))) (.need [(.ok 1 [(.lit (.s ⟨#[112, 114, 101, 100, 105, 99, 97, 116, 101, 95, 105, 110, 100, 105, 99, 97, 116, 111, 114]⟩)), (.tok 0)])] (.leaf [(.lit (.s ⟨#[]⟩)), (.lit (.i 0)), (.call 1 0 [(.lit (.s ⟨#[112, 114, 101, 100, 105, 99, 97, 116, 101, 95, 105, 110, 100, 105, 99, 97, 116, 111, 114]⟩)), (.tok 0)]), (.lit (.b .false))])) (.need [(.lit (.b .true)), (.lt (.lit (.i 1)) (.len (.fld (.tok 0) 3))), (.lit (.b .true)), (.lt (.lit (.i 0)) (.len (.fld (.tok 0) 3)))] (.br (.or (.eq (.fld (.get (.fld (.tok 0) 3) (.lit (.i 0))) 0) (.lit (.i 0))) (.eq (.fld (.get (.fld (.tok 0) 3) (.lit (.i 1))) 0) (.lit (.i 0)))) (.need [(.ok 2 [])] (.leaf [(.lit (.s ⟨#[]⟩)), (.lit (.i 0)), (.call 2 0 []), (.lit (.b .false))])) (.need [(.ok 3 [(.get (.fld (.tok 0) 3) (.lit (.i 0)))])] (.br (.not (.call 3 2 [(.get (.fld (.tok 0) 3) (.lit (.i 0)))])) (.leaf [(.lit (.s ⟨#[]⟩)), (.lit (.i 0)), (.call 3 1 [(.get (.fld (.tok 0) 3) (.lit (.i 0)))]), (.lit (.b .false))]) (.need [(.ok 4 [(.get (.fld (.tok 0) 3) (.lit (.i 1)))])] (.br (.not (.call 4 2 [(.get (.fld (.tok 0) 3) (.lit (.i 1)))])) (.leaf [(.lit (.s ⟨#[]⟩)), (.lit (.i 0)), (.call 4 1 [(.get (.fld (.tok 0) 3) (.lit (.i 1)))]), (.lit (.b .false))]) (.br (.lt (.call 4 0 [(.get (.fld (.tok 0) 3) (.lit (.i 1)))]) (.lit (.i 0))) (.need [(.ok 5 [(.lit (.s ⟨#[110, 111, 116, 95, 108, 101, 115, 115, 95, 116, 104, 97, 110, 95, 122, 101, 114, 111]⟩)), (.get (.fld (.tok 0) 3) (.lit (.i 1)))])] (.leaf [(.lit (.s ⟨#[]⟩)), (.lit (.i 0)), (.call 5 0 [(.lit (.s ⟨#[110, 111, 116, 95, 108, 101, 115, 115, 95, 116, 104, 97, 110, 95, 122, 101, 114, 111]⟩)), (.get (.fld (.tok 0) 3) (.lit (.i 1)))]), (.lit (.b .false))])) (.br (.lt (.lit (.i 8)) (.call 4 0 [(.get (.fld (.tok 0) 3) (.lit (.i 1)))])) (.need [(.ok 6 [(.lit (.s ⟨#[109, 97, 120, 95, 97, 114, 105, 116, 121]⟩))])] (.leaf [(.lit (.s ⟨#[]⟩)), (.lit (.i 0)), (.call 6 0 [(.lit (.s ⟨#[109, 97, 120, 95, 97, 114, 105, 116, 121]⟩))]), (.lit (.b .false))])) (.leaf [(.call 3 0 [(.get (.fld (.tok 0) 3) (.lit (.i 0)))]), (.call 4 0 [(.get (.fld (.tok 0) 3) (.lit (.i 1)))]), (.lit (.a [(.i 0), (.i 0), (.s ⟨#[]⟩), (.r [])])), (.lit (.b .true))]))))))))))))
set_option maxRecDepth 100000 in
theorem code_balls_Indicator (g0 g1 g2 g3 g4 g5 g6 : List D → Option (List D)) : ∀ cd, Try.f24.body = some cd → treeOf Try.prog [(q0g, g0), (q0a, g1), (q0l, g2), (q0v, g3), (q12, g4), (q15, g5), (q08, g6)] q2w q0m Try.f24 cd = q1w := by
  intro cd h
  injection h with h
  subst h
  kernel_rfl
theorem fok_balls_Indicator {g0 g1 g2 g3 g4 g5 g6 : List D → Option (List D)} {g : List D → Option (List D)} (h0 : FOk q0g g0) (h1 : FOk q0a g1) (h2 : FOk q0l g2) (h3 : FOk q0v g3) (h4 : FOk q12 g4) (h5 : FOk q15 g5) (h6 : FOk q08 g6) (h : ∀ ds outs, WfA q0m.ars ds → g ds = some outs → q1w.go (tblS [(q0g, g0), (q0a, g1), (q0l, g2), (q0v, g3), (q12, g4), (q15, g5), (q08, g6)]) (fun o => o = outs) ds fun _ _ => False) : FOk q0m g :=
  q0f q2w Try.f24 _ (.cons h0 (.cons h1 (.cons h2 (.cons h3 (.cons h4 (.cons h5 (.cons h6 .nil))))))) rfl rfl enter_balls_Indicator (by decide) fun ds outs hw hg => by rw [code_balls_Indicator g0 g1 g2 g3 g4 g5 g6 _ rfl]; exact h ds outs hw hg

def q0q : Ct := ⟨65, [.val (.st 23), .val (.int .i64)], [(.int .i64, false)], [], none⟩
theorem enter_ref03_Count (args : Array Value) (w : World) : (callFunc q0q.f args).run Try.prog w = .ok (.enter q0q.f args) w := by kernel_rfl
def ann_ref03_Count : Ann := ⟨[0, 1, 2, 4, 5, 6, 16], [(3, ⟨[(5, .int .i64, false), (6, .int .i64, false)], [], [7, 8, 9, 10, 11, 12, 13, 14, 15, 16, 19, 20, 21, 22, 23, 24, 25, 26, 27, 28, 29, 17, 18], []⟩)]⟩
def q2b : Tree := (.loop 3 2 [(.lit (.i 1)), (.lit (.i 0))] (.br (.and (.lt (.tok 3) (.len (.fld (.tok 0) 3))) (.lt (.tok 2) (.tok 1))) (.need [(.le (.lit (.i 0)) (.tok 3)), (.lt (.tok 3) (.len (.fld (.tok 0) 3))), (.rng .i64 (.sub (.tok 1) (.tok 2))), (.ok 0 [(.get (.fld (.tok 0) 3) (.tok 3)), (.sub (.tok 1) (.tok 2))]), (.rng .i64 (.add (.tok 2) (.call 0 0 [(.get (.fld (.tok 0) 3) (.tok 3)), (.sub (.tok 1) (.tok 2))])))] (.need [(.rng .i64 (.add (.tok 3) (.lit (.i 1))))] (.back 3 [(.add (.tok 2) (.call 0 0 [(.get (.fld (.tok 0) 3) (.tok 3)), (.sub (.tok 1) (.tok 2))])), (.add (.tok 3) (.lit (.i 1)))]))) (.leaf [(.tok 2)])))
set_option maxRecDepth 100000 in
theorem code_ref03_Count (g0 : List D → Option (List D)) : ∀ cd, Try.f65.body = some cd → treeOf Try.prog [(q0q, g0)] ann_ref03_Count q0q Try.f65 cd = q2b := by
  intro cd h
  injection h with h
  subst h
  kernel_rfl
theorem fok_ref03_Count {g0 : List D → Option (List D)} {g : List D → Option (List D)} (h0 : FOk q0q g0) (h : ∀ ds outs, WfA q0q.ars ds → g ds = some outs → q2b.go (tblS [(q0q, g0)]) (fun o => o = outs) ds fun _ _ => False) : FOk q0q g :=
  q0f ann_ref03_Count Try.f65 _ (.cons h0 .nil) rfl rfl enter_ref03_Count (by decide) fun ds outs hw hg => by rw [code_ref03_Count g0 _ rfl]; exact h ds outs hw hg

def q1c : Ct := ⟨21, [.val (.st 23)], [(.int .i64, false)], [], none⟩
theorem enter_ref03_Size (args : Array Value) (w : World) : (callFunc q1c.f args).run Try.prog w = .ok (.enter q1c.f args) w := by kernel_rfl
def ann_ref03_Size : Ann := ⟨[0, 1, 2], []⟩
def q2j : Tree := (.need [(.ok 0 [(.tok 0), (.lit (.i 2001))])] (.leaf [(.call 0 0 [(.tok 0), (.lit (.i 2001))])]))
set_option maxRecDepth 100000 in
theorem code_ref03_Size (g0 : List D → Option (List D)) : ∀ cd, Try.f21.body = some cd → treeOf Try.prog [(q0q, g0)] ann_ref03_Size q1c Try.f21 cd = q2j := by
  intro cd h
  injection h with h
  subst h
  kernel_rfl
theorem fok_ref03_Size {g0 : List D → Option (List D)} {g : List D → Option (List D)} (h0 : FOk q0q g0) (h : ∀ ds outs, WfA q1c.ars ds → g ds = some outs → q2j.go (tblS [(q0q, g0)]) (fun o => o = outs) ds fun _ _ => False) : FOk q1c g :=
  q0f ann_ref03_Size Try.f21 _ (.cons h0 .nil) rfl rfl enter_ref03_Size (by decide) fun ds outs hw hg => by rw [code_ref03_Size g0 _ rfl]; exact h ds outs hw hg

def q1e : Ct := ⟨84, [.val (.st 23)], [(.bool, false)], [], none⟩
theorem enter_ref03_node (args : Array Value) (w : World) : (callFunc q1e.f args).run Try.prog w = .ok (.enter q1e.f args) w := by kernel_rfl
def ann_ref03_node : Ann := ⟨[0, 1, 2, 4, 5, 26, 37, 54], []⟩
def q2o : Tree := (.br (.eq (.fld (.tok 0) 0) (.lit (.i 0))) (.leaf [(.and (.and (.and (.le (.lit (.i 0)) (.fld (.tok 0) 1)) (.le (.fld (.tok 0) 1) (.lit (.i 1099511627776)))) (.eq (.fld (.tok 0) 2) (.lit (.s ⟨#[]⟩)))) (.eq (.len (.fld (.tok 0) 3)) (.lit (.i 0))))]) (.br (.eq (.fld (.tok 0) 0) (.lit (.i 1))) (.leaf [(.and (.eq (.fld (.tok 0) 2) (.lit (.s ⟨#[]⟩))) (.eq (.len (.fld (.tok 0) 3)) (.lit (.i 0))))]) (.br (.eq (.fld (.tok 0) 0) (.lit (.i 2))) (.leaf [(.and (.and (.eq (.fld (.tok 0) 1) (.lit (.i 0))) (.le (.slen (.fld (.tok 0) 2)) (.lit (.i 100)))) (.eq (.len (.fld (.tok 0) 3)) (.lit (.i 0))))]) (.br (.eq (.fld (.tok 0) 0) (.lit (.i 3))) (.leaf [(.and (.and (.and (.eq (.fld (.tok 0) 1) (.lit (.i 0))) (.le (.slen (.fld (.tok 0) 2)) (.lit (.i 100)))) (.le (.lit (.i 1)) (.len (.fld (.tok 0) 3)))) (.le (.len (.fld (.tok 0) 3)) (.lit (.i 8))))]) (.leaf [(.lit (.b .false))])))))
set_option maxRecDepth 100000 in
theorem code_ref03_node : ∀ cd, Try.f84.body = some cd → treeOf Try.prog [] ann_ref03_node q1e Try.f84 cd = q2o := by
  intro cd h
  injection h with h
  subst h
  kernel_rfl
theorem fok_ref03_node {g : List D → Option (List D)}  (h : ∀ ds outs, WfA q1e.ars ds → g ds = some outs → q2o.go (tblS []) (fun o => o = outs) ds fun _ _ => False) : FOk q1e g :=
  q0f ann_ref03_node Try.f84 _ .nil rfl rfl enter_ref03_node (by decide) fun ds outs hw hg => by rw [code_ref03_node  _ rfl]; exact h ds outs hw hg

def q0r : Ct := ⟨66, [.val (.st 23)], [(.bool, false)], [], none⟩
theorem enter_ref03_nodes (args : Array Value) (w : World) : (callFunc q0r.f args).run Try.prog w = .ok (.enter q0r.f args) w := by kernel_rfl
def ann_ref03_nodes : Ann := ⟨[0, 1, 2, 3, 6, 11, 20], [(4, ⟨[(2, .bool, false), (3, .int .i64, false)], [], [7, 8, 9, 10, 11, 14, 15, 16, 17, 18, 19, 20, 12, 13], []⟩)]⟩
def q2d : Tree := (.need [(.ok 0 [(.tok 0)])] (.br (.not (.call 0 0 [(.tok 0)])) (.leaf [(.lit (.b .false))]) (.loop 4 1 [(.lit (.b .false)), (.lit (.i 0))] (.br (.lt (.tok 2) (.len (.fld (.tok 0) 3))) (.need [(.le (.lit (.i 0)) (.tok 2)), (.lt (.tok 2) (.len (.fld (.tok 0) 3))), (.ok 1 [(.get (.fld (.tok 0) 3) (.tok 2))])] (.br (.not (.call 1 0 [(.get (.fld (.tok 0) 3) (.tok 2))])) (.leaf [(.lit (.b .false))]) (.need [(.rng .i64 (.add (.tok 2) (.lit (.i 1))))] (.back 4 [(.tok 1), (.add (.tok 2) (.lit (.i 1)))])))) (.leaf [(.lit (.b .true))])))))
set_option maxRecDepth 100000 in
theorem code_ref03_nodes (g0 g1 : List D → Option (List D)) : ∀ cd, Try.f66.body = some cd → treeOf Try.prog [(q1e, g0), (q0r, g1)] ann_ref03_nodes q0r Try.f66 cd = q2d := by
  intro cd h
  injection h with h
  subst h
  kernel_rfl
theorem fok_ref03_nodes {g0 g1 : List D → Option (List D)} {g : List D → Option (List D)} (h0 : FOk q1e g0) (h1 : FOk q0r g1) (h : ∀ ds outs, WfA q0r.ars ds → g ds = some outs → q2d.go (tblS [(q1e, g0), (q0r, g1)]) (fun o => o = outs) ds fun _ _ => False) : FOk q0r g :=
  q0f ann_ref03_nodes Try.f66 _ (.cons h0 (.cons h1 .nil)) rfl rfl enter_ref03_nodes (by decide) fun ds outs hw hg => by rw [code_ref03_nodes g0 g1 _ rfl]; exact h ds outs hw hg

def q1a : Ct := ⟨23, [.val (.st 23)], [(.bool, false)], [], none⟩
theorem enter_ref03_Valid (args : Array Value) (w : World) : (callFunc q1a.f args).run Try.prog w = .ok (.enter q1a.f args) w := by kernel_rfl
def ann_ref03_Valid : Ann := ⟨[0, 1, 2], []⟩
def q2f : Tree := (.need [(.ok 0 [(.tok 0)]), (.imp (.le (.call 0 0 [(.tok 0)]) (.lit (.i 2000))) (.ok 1 [(.tok 0)]))] (.leaf [(.and (.le (.call 0 0 [(.tok 0)]) (.lit (.i 2000))) (.call 1 0 [(.tok 0)]))]))
set_option maxRecDepth 100000 in
theorem code_ref03_Valid (g0 g1 : List D → Option (List D)) : ∀ cd, Try.f23.body = some cd → treeOf Try.prog [(q1c, g0), (q0r, g1)] ann_ref03_Valid q1a Try.f23 cd = q2f := by
  intro cd h
  injection h with h
  subst h
  kernel_rfl
theorem fok_ref03_Valid {g0 g1 : List D → Option (List D)} {g : List D → Option (List D)} (h0 : FOk q1c g0) (h1 : FOk q0r g1) (h : ∀ ds outs, WfA q1a.ars ds → g ds = some outs → q2f.go (tblS [(q1c, g0), (q0r, g1)]) (fun o => o = outs) ds fun _ _ => False) : FOk q1a g :=
  q0f ann_ref03_Valid Try.f23 _ (.cons h0 (.cons h1 .nil)) rfl rfl enter_ref03_Valid (by decide) fun ds outs hw hg => by rw [code_ref03_Valid g0 g1 _ rfl]; exact h ds outs hw hg

def q10 : Ct := ⟨12, [.val (.st 23)], [(.st 23, false), (.bool, false)], [], none⟩
theorem enter_balls_Formal (args : Array Value) (w : World) : (callFunc q10.f args).run Try.prog w = .ok (.enter q10.f args) w := by kernel_rfl
def ann_balls_Formal : Ann := ⟨[0, 1, 2, 3, 22], []⟩
def q25 : Tree := (.need [(.ok 0 [(.tok 0)])] (.br (.or (.or (.or (.not (.call 0 0 [(.tok 0)])) (.not (.eq (.fld (.tok 0) 0) (.lit (.i 3))))) (.not (.eq (.fld (.tok 0) 2) (.lit (.s ⟨#[101, 114, 114, 111, 114]⟩))))) (.not (.eq (.len (.fld (.tok 0) 3)) (.lit (.i 2))))) (.leaf [(.lit (.a [(.i 0), (.i 0), (.s ⟨#[]⟩), (.r [])])), (.lit (.b .false))]) (.need [(.lit (.b .true)), (.lt (.lit (.i 0)) (.len (.fld (.tok 0) 3))), (.ok 1 [(.get (.fld (.tok 0) 3) (.lit (.i 0)))])] (.leaf [(.call 1 0 [(.get (.fld (.tok 0) 3) (.lit (.i 0)))]), (.lit (.b .true))]))))
set_option maxRecDepth 100000 in
theorem code_balls_Formal (g0 g1 : List D → Option (List D)) : ∀ cd, Try.f12.body = some cd → treeOf Try.prog [(q0b, g0), (q0h, g1)] ann_balls_Formal q10 Try.f12 cd = q25 := by
  intro cd h
  injection h with h
  subst h
  kernel_rfl
theorem fok_balls_Formal {g0 g1 : List D → Option (List D)} {g : List D → Option (List D)} (h0 : FOk q0b g0) (h1 : FOk q0h g1) (h : ∀ ds outs, WfA q10.ars ds → g ds = some outs → q25.go (tblS [(q0b, g0), (q0h, g1)]) (fun o => o = outs) ds fun _ _ => False) : FOk q10 g :=
  q0f ann_balls_Formal Try.f12 _ (.cons h0 (.cons h1 .nil)) rfl rfl enter_balls_Formal (by decide) fun ds outs hw hg => by rw [code_balls_Formal g0 g1 _ rfl]; exact h ds outs hw hg

def q0k : Ct := ⟨83, [.val (.st 23), .val (.st 23)], [(.bool, false)], [], none⟩
theorem q2h (args : Array Value) (w : World) : (callFunc q0k.f args).run Try.prog w = .ok (.enter q0k.f args) w := by kernel_rfl
def q2x : Ann := ⟨[0, 1, 2, 3, 4, 5, 33, 38, 52], [(4, ⟨[(4, .bool, false), (5, .int .i64, false)], [], [34, 35, 36, 37, 38, 41, 42, 43, 44, 45, 46, 47, 48, 49, 50, 51, 52, 39, 40], []⟩)]⟩
def q1v : Tree := (.br (.or (.or (.or (.not (.eq (.fld (.tok 0) 0) (.fld (.tok 1) 0))) (.not (.eq (.fld (.tok 0) 1) (.fld (.tok 1) 1)))) (.not (.eq (.fld (.tok 0) 2) (.fld (.tok 1) 2)))) (.not (.eq (.len (.fld (.tok 0) 3)) (.len (.fld (.tok 1) 3))))) (.leaf [(.lit (.b .false))]) (.loop 4 2 [(.lit (.b .false)), (.lit (.i 0))] (.br (.lt (.tok 3) (.len (.fld (.tok 0) 3))) (.need [(.ok 0 [(.get (.fld (.tok 0) 3) (.tok 3)), (.get (.fld (.tok 1) 3) (.tok 3))]), (.le (.lit (.i 0)) (.tok 3)), (.lt (.tok 3) (.len (.fld (.tok 1) 3))), (.le (.lit (.i 0)) (.tok 3)), (.lt (.tok 3) (.len (.fld (.tok 0) 3)))] (.br (.not (.call 0 0 [(.get (.fld (.tok 0) 3) (.tok 3)), (.get (.fld (.tok 1) 3) (.tok 3))])) (.leaf [(.lit (.b .false))]) (.need [(.rng .i64 (.add (.tok 3) (.lit (.i 1))))] (.back 4 [(.tok 2), (.add (.tok 3) (.lit (.i 1)))])))) (.leaf [(.lit (.b .true))]))))
set_option maxRecDepth 100000 in
theorem code_ref03_identical (g0 : List D → Option (List D)) : ∀ cd, Try.f83.body = some cd → treeOf Try.prog [(q0k, g0)] q2x q0k Try.f83 cd = q1v := by
  intro cd h
  injection h with h
  subst h
  kernel_rfl
theorem fok_ref03_identical {g0 : List D → Option (List D)} {g : List D → Option (List D)} (h0 : FOk q0k g0) (h : ∀ ds outs, WfA q0k.ars ds → g ds = some outs → q1v.go (tblS [(q0k, g0)]) (fun o => o = outs) ds fun _ _ => False) : FOk q0k g :=
  q0f q2x Try.f83 _ (.cons h0 .nil) rfl rfl q2h (by decide) fun ds outs hw hg => by rw [code_ref03_identical g0 _ rfl]; exact h ds outs hw hg

def q1d : Ct := ⟨63, [.val (.st 23), .val (.st 23)], [(.bool, false)], [], none⟩
theorem enter_ref03_Same (args : Array Value) (w : World) : (callFunc q1d.f args).run Try.prog w = .ok (.enter q1d.f args) w := by kernel_rfl
def ann_ref03_Same : Ann := ⟨[0, 1, 2, 3, 4], []⟩
def q2t : Tree := (.need [(.ok 0 [(.tok 0)]), (.imp (.call 0 0 [(.tok 0)]) (.ok 0 [(.tok 1)])), (.imp (.and (.call 0 0 [(.tok 0)]) (.call 0 0 [(.tok 1)])) (.ok 1 [(.tok 0), (.tok 1)]))] (.leaf [(.and (.and (.call 0 0 [(.tok 0)]) (.call 0 0 [(.tok 1)])) (.call 1 0 [(.tok 0), (.tok 1)]))]))
set_option maxRecDepth 100000 in
theorem code_ref03_Same (g0 g1 : List D → Option (List D)) : ∀ cd, Try.f63.body = some cd → treeOf Try.prog [(q1a, g0), (q0k, g1)] ann_ref03_Same q1d Try.f63 cd = q2t := by
  intro cd h
  injection h with h
  subst h
  kernel_rfl
theorem fok_ref03_Same {g0 g1 : List D → Option (List D)} {g : List D → Option (List D)} (h0 : FOk q1a g0) (h1 : FOk q0k g1) (h : ∀ ds outs, WfA q1d.ars ds → g ds = some outs → q2t.go (tblS [(q1a, g0), (q0k, g1)]) (fun o => o = outs) ds fun _ _ => False) : FOk q1d g :=
  q0f ann_ref03_Same Try.f63 _ (.cons h0 (.cons h1 .nil)) rfl rfl enter_ref03_Same (by decide) fun ds outs hw hg => by rw [code_ref03_Same g0 g1 _ rfl]; exact h ds outs hw hg

def q17 : Ct := ⟨14, [.val (.st 23), .val (.st 23)], [(.bool, false)], [], none⟩
theorem enter_law06_same (args : Array Value) (w : World) : (callFunc q17.f args).run Try.prog w = .ok (.enter q17.f args) w := by kernel_rfl
def ann_law06_same : Ann := ⟨[0, 1, 2, 3, 4], []⟩
def q2r : Tree := (.need [(.ok 0 [(.tok 0), (.tok 1)])] (.leaf [(.call 0 0 [(.tok 0), (.tok 1)])]))
set_option maxRecDepth 100000 in
theorem code_law06_same (g0 : List D → Option (List D)) : ∀ cd, Try.f14.body = some cd → treeOf Try.prog [(q1d, g0)] ann_law06_same q17 Try.f14 cd = q2r := by
  intro cd h
  injection h with h
  subst h
  kernel_rfl
theorem fok_law06_same {g0 : List D → Option (List D)} {g : List D → Option (List D)} (h0 : FOk q1d g0) (h : ∀ ds outs, WfA q17.ars ds → g ds = some outs → q2r.go (tblS [(q1d, g0)]) (fun o => o = outs) ds fun _ _ => False) : FOk q17 g :=
  q0f ann_law06_same Try.f14 _ (.cons h0 .nil) rfl rfl enter_law06_same (by decide) fun ds outs hw hg => by rw [code_law06_same g0 _ rfl]; exact h ds outs hw hg

def q0u : Ct := ⟨19, [.val (.str)], [(.st 23, false)], [], none⟩
theorem enter_law06_a (args : Array Value) (w : World) : (callFunc q0u.f args).run Try.prog w = .ok (.enter q0u.f args) w := by kernel_rfl
def ann_law06_a : Ann := ⟨[0, 2], []⟩
def tree_law06_a : Tree := (.leaf [(.set (.set (.lit (.a [(.i 0), (.i 0), (.s ⟨#[]⟩), (.r [])])) 0 (.lit (.i 2))) 2 (.tok 0))])
set_option maxRecDepth 100000 in
theorem code_law06_a : ∀ cd, Try.f19.body = some cd → treeOf Try.prog [] ann_law06_a q0u Try.f19 cd = tree_law06_a := by
  intro cd h
  injection h with h
  subst h
  kernel_rfl
theorem fok_law06_a {g : List D → Option (List D)}  (h : ∀ ds outs, WfA q0u.ars ds → g ds = some outs → tree_law06_a.go (tblS []) (fun o => o = outs) ds fun _ _ => False) : FOk q0u g :=
  q0f ann_law06_a Try.f19 _ .nil rfl rfl enter_law06_a (by decide) fun ds outs hw hg => by rw [code_law06_a  _ rfl]; exact h ds outs hw hg

def q1b : Ct := ⟨52, [.val (.int .i64)], [(.st 23, false)], [], none⟩
theorem enter_law06_n (args : Array Value) (w : World) : (callFunc q1b.f args).run Try.prog w = .ok (.enter q1b.f args) w := by kernel_rfl
def ann_law06_n : Ann := ⟨[0, 2], []⟩
def tree_law06_n : Tree := (.leaf [(.set (.set (.lit (.a [(.i 0), (.i 0), (.s ⟨#[]⟩), (.r [])])) 0 (.lit (.i 1))) 1 (.tok 0))])
set_option maxRecDepth 100000 in
theorem code_law06_n : ∀ cd, Try.f52.body = some cd → treeOf Try.prog [] ann_law06_n q1b Try.f52 cd = tree_law06_n := by
  intro cd h
  injection h with h
  subst h
  kernel_rfl
theorem fok_law06_n {g : List D → Option (List D)}  (h : ∀ ds outs, WfA q1b.ars ds → g ds = some outs → tree_law06_n.go (tblS []) (fun o => o = outs) ds fun _ _ => False) : FOk q1b g :=
  q0f ann_law06_n Try.f52 _ .nil rfl rfl enter_law06_n (by decide) fun ds outs hw hg => by rw [code_law06_n  _ rfl]; exact h ds outs hw hg

def q0t : Ct := ⟨22, [.val (.str), .val (.row 24)], [(.st 23, false)], [], none⟩
theorem enter_law06_f (args : Array Value) (w : World) : (callFunc q0t.f args).run Try.prog w = .ok (.enter q0t.f args) w := by kernel_rfl
def ann_law06_f : Ann := ⟨[0, 1, 4], []⟩
def tree_law06_f : Tree := (.leaf [(.set (.set (.set (.lit (.a [(.i 0), (.i 0), (.s ⟨#[]⟩), (.r [])])) 0 (.lit (.i 3))) 2 (.tok 0)) 3 (.tok 1))])
set_option maxRecDepth 100000 in
theorem code_law06_f : ∀ cd, Try.f22.body = some cd → treeOf Try.prog [] ann_law06_f q0t Try.f22 cd = tree_law06_f := by
  intro cd h
  injection h with h
  subst h
  kernel_rfl
theorem fok_law06_f {g : List D → Option (List D)}  (h : ∀ ds outs, WfA q0t.ars ds → g ds = some outs → tree_law06_f.go (tblS []) (fun o => o = outs) ds fun _ _ => False) : FOk q0t g :=
  q0f ann_law06_f Try.f22 _ .nil rfl rfl enter_law06_f (by decide) fun ds outs hw hg => by rw [code_law06_f  _ rfl]; exact h ds outs hw hg

def q0p : Ct := ⟨30, [.val (.str), .val (.str), .val (.st 23)], [(.st 23, false)], [], none⟩
theorem enter_balls_Permission (args : Array Value) (w : World) : (callFunc q0p.f args).run Try.prog w = .ok (.enter q0p.f args) w := by kernel_rfl
def q2s : Ann := ⟨[0, 1, 2, 5, 6], []⟩
def q1r : Tree := (.need [(.ok 0 [(.tok 2), (.lit (.s ⟨#[112, 101, 114, 109, 105, 115, 115, 105, 111, 110, 95, 101, 114, 114, 111, 114]⟩)), (.row [(.tok 0), (.tok 1)])])] (.leaf [(.call 0 0 [(.tok 2), (.lit (.s ⟨#[112, 101, 114, 109, 105, 115, 115, 105, 111, 110, 95, 101, 114, 114, 111, 114]⟩)), (.row [(.tok 0), (.tok 1)])])]))
set_option maxRecDepth 100000 in
theorem code_balls_Permission (g0 : List D → Option (List D)) : ∀ cd, Try.f30.body = some cd → treeOf Try.prog [(q09, g0)] q2s q0p Try.f30 cd = q1r := by
  intro cd h
  injection h with h
  subst h
  kernel_rfl
theorem fok_balls_Permission {g0 : List D → Option (List D)} {g : List D → Option (List D)} (h0 : FOk q09 g0) (h : ∀ ds outs, WfA q0p.ars ds → g ds = some outs → q1r.go (tblS [(q09, g0)]) (fun o => o = outs) ds fun _ _ => False) : FOk q0p g :=
  q0f q2s Try.f30 _ (.cons h0 .nil) rfl rfl enter_balls_Permission (by decide) fun ds outs hw hg => by rw [code_balls_Permission g0 _ rfl]; exact h ds outs hw hg

def q1l : Ct := ⟨31, [.val (.int .i64)], [(.st 23, false)], [], none⟩
theorem enter_law06_x (args : Array Value) (w : World) : (callFunc q1l.f args).run Try.prog w = .ok (.enter q1l.f args) w := by kernel_rfl
def ann_law06_x : Ann := ⟨[0, 2], []⟩
def tree_law06_x : Tree := (.leaf [(.set (.lit (.a [(.i 0), (.i 0), (.s ⟨#[]⟩), (.r [])])) 1 (.tok 0))])
set_option maxRecDepth 100000 in
theorem code_law06_x : ∀ cd, Try.f31.body = some cd → treeOf Try.prog [] ann_law06_x q1l Try.f31 cd = tree_law06_x := by
  intro cd h
  injection h with h
  subst h
  kernel_rfl
theorem fok_law06_x {g : List D → Option (List D)}  (h : ∀ ds outs, WfA q1l.ars ds → g ds = some outs → tree_law06_x.go (tblS []) (fun o => o = outs) ds fun _ _ => False) : FOk q1l g :=
  q0f ann_law06_x Try.f31 _ .nil rfl rfl enter_law06_x (by decide) fun ds outs hw hg => by rw [code_law06_x  _ rfl]; exact h ds outs hw hg

def q0z : Ct := ⟨18, [.val (.st 23)], [(.st 23, false)], [], none⟩
theorem enter_law06_error1 (args : Array Value) (w : World) : (callFunc q0z.f args).run Try.prog w = .ok (.enter q0z.f args) w := by kernel_rfl
def ann_law06_error1 : Ann := ⟨[0, 1, 2], []⟩
def q24 : Tree := (.need [(.ok 1 [(.lit (.s ⟨#[101, 114, 114, 111, 114]⟩)), (.row [(.tok 0), (.call 0 0 [(.lit (.s ⟨#[91, 93]⟩))])])]), (.ok 0 [(.lit (.s ⟨#[91, 93]⟩))])] (.leaf [(.call 1 0 [(.lit (.s ⟨#[101, 114, 114, 111, 114]⟩)), (.row [(.tok 0), (.call 0 0 [(.lit (.s ⟨#[91, 93]⟩))])])])]))
set_option maxRecDepth 100000 in
theorem code_law06_error1 (g0 g1 : List D → Option (List D)) : ∀ cd, Try.f18.body = some cd → treeOf Try.prog [(q0u, g0), (q0t, g1)] ann_law06_error1 q0z Try.f18 cd = q24 := by
  intro cd h
  injection h with h
  subst h
  kernel_rfl
theorem fok_law06_error1 {g0 g1 : List D → Option (List D)} {g : List D → Option (List D)} (h0 : FOk q0u g0) (h1 : FOk q0t g1) (h : ∀ ds outs, WfA q0z.ars ds → g ds = some outs → q24.go (tblS [(q0u, g0), (q0t, g1)]) (fun o => o = outs) ds fun _ _ => False) : FOk q0z g :=
  q0f ann_law06_error1 Try.f18 _ (.cons h0 (.cons h1 .nil)) rfl rfl enter_law06_error1 (by decide) fun ds outs hw hg => by rw [code_law06_error1 g0 g1 _ rfl]; exact h ds outs hw hg

def q1g : Ct := ⟨72, [.val (.int .i64)], [(.st 23, false)], [], none⟩
theorem enter_term_Int (args : Array Value) (w : World) : (callFunc q1g.f args).run Try.prog w = .ok (.enter q1g.f args) w := by kernel_rfl
def ann_term_Int : Ann := ⟨[0, 2], []⟩
def q28 : Tree := (.leaf [(.set (.set (.lit (.a [(.i 0), (.i 0), (.s ⟨#[]⟩), (.r [])])) 0 (.lit (.i 1))) 1 (.tok 0))])
set_option maxRecDepth 100000 in
theorem code_term_Int : ∀ cd, Try.f72.body = some cd → treeOf Try.prog [] ann_term_Int q1g Try.f72 cd = q28 := by
  intro cd h
  injection h with h
  subst h
  kernel_rfl
theorem fok_term_Int {g : List D → Option (List D)}  (h : ∀ ds outs, WfA q1g.ars ds → g ds = some outs → q28.go (tblS []) (fun o => o = outs) ds fun _ _ => False) : FOk q1g g :=
  q0f ann_term_Int Try.f72 _ .nil rfl rfl enter_term_Int (by decide) fun ds outs hw hg => by rw [code_term_Int  _ rfl]; exact h ds outs hw hg

def q11 : Ct := ⟨35, [.val (.int .i64)], [(.st 23, false)], [], none⟩
theorem enter_balls_Syntax (args : Array Value) (w : World) : (callFunc q11.f args).run Try.prog w = .ok (.enter q11.f args) w := by kernel_rfl
def ann_balls_Syntax : Ann := ⟨[0, 2, 4], []⟩
def q23 : Tree := (.br (.lt (.tok 0) (.lit (.i 0))) (.leaf [(.lit (.a [(.i 0), (.i 0), (.s ⟨#[]⟩), (.r [])]))]) (.need [(.ok 0 [(.tok 0)]), (.ok 1 [(.lit (.s ⟨#[115, 121, 110, 116, 97, 120, 95, 101, 114, 114, 111, 114]⟩)), (.row [(.call 0 0 [(.tok 0)])])])] (.leaf [(.call 1 0 [(.lit (.s ⟨#[115, 121, 110, 116, 97, 120, 95, 101, 114, 114, 111, 114]⟩)), (.row [(.call 0 0 [(.tok 0)])])])])))
set_option maxRecDepth 100000 in
theorem code_balls_Syntax (g0 g1 : List D → Option (List D)) : ∀ cd, Try.f35.body = some cd → treeOf Try.prog [(q1g, g0), (q0c, g1)] ann_balls_Syntax q11 Try.f35 cd = q23 := by
  intro cd h
  injection h with h
  subst h
  kernel_rfl
theorem fok_balls_Syntax {g0 g1 : List D → Option (List D)} {g : List D → Option (List D)} (h0 : FOk q1g g0) (h1 : FOk q0c g1) (h : ∀ ds outs, WfA q11.ars ds → g ds = some outs → q23.go (tblS [(q1g, g0), (q0c, g1)]) (fun o => o = outs) ds fun _ _ => False) : FOk q11 g :=
  q0f ann_balls_Syntax Try.f35 _ (.cons h0 (.cons h1 .nil)) rfl rfl enter_balls_Syntax (by decide) fun ds outs hw hg => by rw [code_balls_Syntax g0 g1 _ rfl]; exact h ds outs hw hg

def q1k : Ct := ⟨15, [], [(.bool, false)], [], none⟩
theorem enter_law06_awake (args : Array Value) (w : World) : (callFunc q1k.f args).run Try.prog w = .ok (.enter q1k.f args) w := by kernel_rfl
def ann_law06_awake : Ann := ⟨[0, 1, 2, 3, 4, 5, 6, 8, 9, 11, 12, 14, 15, 16, 17, 18, 19], []⟩
def tree_law06_awake : Tree := (.need [(.ok 0 [(.lit (.s ⟨#[102]⟩))]), (.ok 1 [(.lit (.i 1))]), (.ok 2 [(.lit (.s ⟨#[47]⟩)), (.row [(.call 0 0 [(.lit (.s ⟨#[102]⟩))]), (.call 1 0 [(.lit (.i 1))])])]), (.ok 3 [(.lit (.s ⟨#[109, 111, 100, 105, 102, 121]⟩)), (.lit (.s ⟨#[115, 116, 97, 116, 105, 99, 95, 112, 114, 111, 99, 101, 100, 117, 114, 101]⟩)), (.call 2 0 [(.lit (.s ⟨#[47]⟩)), (.row [(.call 0 0 [(.lit (.s ⟨#[102]⟩))]), (.call 1 0 [(.lit (.i 1))])])])])] (.need [(.ok 0 [(.lit (.s ⟨#[97]⟩))]), (.ok 4 [(.lit (.i 0))]), (.ok 2 [(.lit (.s ⟨#[101, 114, 114, 111, 114]⟩)), (.row [(.call 0 0 [(.lit (.s ⟨#[97]⟩))]), (.call 4 0 [(.lit (.i 0))])])]), (.ok 5 [(.call 2 0 [(.lit (.s ⟨#[101, 114, 114, 111, 114]⟩)), (.row [(.call 0 0 [(.lit (.s ⟨#[97]⟩))]), (.call 4 0 [(.lit (.i 0))])])])])] (.need [(.ok 0 [(.lit (.s ⟨#[97, 98, 99]⟩))]), (.ok 6 [(.call 0 0 [(.lit (.s ⟨#[97, 98, 99]⟩))])])] (.need [(.ok 1 [(.lit (.i 3))]), (.ok 6 [(.call 1 0 [(.lit (.i 3))])])] (.need [(.ok 1 [(.lit (.i 256))]), (.ok 7 [(.call 1 0 [(.lit (.i 256))])])] (.need [(.ok 0 [(.lit (.s ⟨#[97]⟩))]), (.ok 0 [(.lit (.s ⟨#[98]⟩))]), (.ok 4 [(.lit (.i 0))]), (.ok 2 [(.lit (.s ⟨#[46]⟩)), (.row [(.call 0 0 [(.lit (.s ⟨#[98]⟩))]), (.call 4 0 [(.lit (.i 0))])])]), (.ok 2 [(.lit (.s ⟨#[46]⟩)), (.row [(.call 0 0 [(.lit (.s ⟨#[97]⟩))]), (.call 2 0 [(.lit (.s ⟨#[46]⟩)), (.row [(.call 0 0 [(.lit (.s ⟨#[98]⟩))]), (.call 4 0 [(.lit (.i 0))])])])])]), (.ok 8 [(.call 2 0 [(.lit (.s ⟨#[46]⟩)), (.row [(.call 0 0 [(.lit (.s ⟨#[97]⟩))]), (.call 2 0 [(.lit (.s ⟨#[46]⟩)), (.row [(.call 0 0 [(.lit (.s ⟨#[98]⟩))]), (.call 4 0 [(.lit (.i 0))])])])])])])] (.need [(.ok 0 [(.lit (.s ⟨#[102]⟩))]), (.ok 1 [(.lit (.i 2))]), (.ok 2 [(.lit (.s ⟨#[47]⟩)), (.row [(.call 0 0 [(.lit (.s ⟨#[102]⟩))]), (.call 1 0 [(.lit (.i 2))])])]), (.ok 9 [(.call 2 0 [(.lit (.s ⟨#[47]⟩)), (.row [(.call 0 0 [(.lit (.s ⟨#[102]⟩))]), (.call 1 0 [(.lit (.i 2))])])])])] (.need [(.imp (.and (.and (.and (.and (.and (.and (.and (.and (.and (.and (.and (.and (.and (.and (.call 11 0 [(.call 3 0 [(.lit (.s ⟨#[109, 111, 100, 105, 102, 121]⟩)), (.lit (.s ⟨#[115, 116, 97, 116, 105, 99, 95, 112, 114, 111, 99, 101, 100, 117, 114, 101]⟩)), (.call 2 0 [(.lit (.s ⟨#[47]⟩)), (.row [(.call 0 0 [(.lit (.s ⟨#[102]⟩))]), (.call 1 0 [(.lit (.i 1))])])])]), (.call 10 0 [(.call 2 0 [(.lit (.s ⟨#[112, 101, 114, 109, 105, 115, 115, 105, 111, 110, 95, 101, 114, 114, 111, 114]⟩)), (.row [(.call 0 0 [(.lit (.s ⟨#[109, 111, 100, 105, 102, 121]⟩))]), (.call 0 0 [(.lit (.s ⟨#[115, 116, 97, 116, 105, 99, 95, 112, 114, 111, 99, 101, 100, 117, 114, 101]⟩))]), (.call 2 0 [(.lit (.s ⟨#[47]⟩)), (.row [(.call 0 0 [(.lit (.s ⟨#[102]⟩))]), (.call 1 0 [(.lit (.i 1))])])])])])])]) (.call 11 0 [(.call 12 0 [(.lit (.i 3))]), (.call 10 0 [(.call 2 0 [(.lit (.s ⟨#[115, 121, 110, 116, 97, 120, 95, 101, 114, 114, 111, 114]⟩)), (.row [(.call 1 0 [(.lit (.i 3))])])])])])) (.call 5 1 [(.call 2 0 [(.lit (.s ⟨#[101, 114, 114, 111, 114]⟩)), (.row [(.call 0 0 [(.lit (.s ⟨#[97]⟩))]), (.call 4 0 [(.lit (.i 0))])])])])) (.call 11 0 [(.call 5 0 [(.call 2 0 [(.lit (.s ⟨#[101, 114, 114, 111, 114]⟩)), (.row [(.call 0 0 [(.lit (.s ⟨#[97]⟩))]), (.call 4 0 [(.lit (.i 0))])])])]), (.call 0 0 [(.lit (.s ⟨#[97]⟩))])])) (.eq (.call 6 0 [(.call 0 0 [(.lit (.s ⟨#[97, 98, 99]⟩))])]) (.lit (.s ⟨#[97, 98, 99]⟩)))) (.call 11 0 [(.call 6 1 [(.call 0 0 [(.lit (.s ⟨#[97, 98, 99]⟩))])]), (.call 4 0 [(.lit (.i 0))])])) (.call 6 2 [(.call 0 0 [(.lit (.s ⟨#[97, 98, 99]⟩))])])) (.call 11 0 [(.call 6 1 [(.call 1 0 [(.lit (.i 3))])]), (.call 10 0 [(.call 2 0 [(.lit (.s ⟨#[116, 121, 112, 101, 95, 101, 114, 114, 111, 114]⟩)), (.row [(.call 0 0 [(.lit (.s ⟨#[97, 116, 111, 109]⟩))]), (.call 1 0 [(.lit (.i 3))])])])])])) (.not (.call 6 2 [(.call 1 0 [(.lit (.i 3))])]))) (.call 11 0 [(.call 7 1 [(.call 1 0 [(.lit (.i 256))])]), (.call 10 0 [(.call 2 0 [(.lit (.s ⟨#[114, 101, 112, 114, 101, 115, 101, 110, 116, 97, 116, 105, 111, 110, 95, 101, 114, 114, 111, 114]⟩)), (.row [(.call 0 0 [(.lit (.s ⟨#[99, 104, 97, 114, 97, 99, 116, 101, 114, 95, 99, 111, 100, 101]⟩))])])])])])) (.not (.call 7 2 [(.call 1 0 [(.lit (.i 256))])]))) (.call 11 0 [(.call 8 1 [(.call 2 0 [(.lit (.s ⟨#[46]⟩)), (.row [(.call 0 0 [(.lit (.s ⟨#[97]⟩))]), (.call 2 0 [(.lit (.s ⟨#[46]⟩)), (.row [(.call 0 0 [(.lit (.s ⟨#[98]⟩))]), (.call 4 0 [(.lit (.i 0))])])])])])]), (.call 10 0 [(.call 0 0 [(.lit (.s ⟨#[105, 110, 115, 116, 97, 110, 116, 105, 97, 116, 105, 111, 110, 95, 101, 114, 114, 111, 114]⟩))])])])) (.not (.call 8 2 [(.call 2 0 [(.lit (.s ⟨#[46]⟩)), (.row [(.call 0 0 [(.lit (.s ⟨#[97]⟩))]), (.call 2 0 [(.lit (.s ⟨#[46]⟩)), (.row [(.call 0 0 [(.lit (.s ⟨#[98]⟩))]), (.call 4 0 [(.lit (.i 0))])])])])])]))) (.eq (.call 9 0 [(.call 2 0 [(.lit (.s ⟨#[47]⟩)), (.row [(.call 0 0 [(.lit (.s ⟨#[102]⟩))]), (.call 1 0 [(.lit (.i 2))])])])]) (.lit (.s ⟨#[102]⟩)))) (.eq (.call 9 1 [(.call 2 0 [(.lit (.s ⟨#[47]⟩)), (.row [(.call 0 0 [(.lit (.s ⟨#[102]⟩))]), (.call 1 0 [(.lit (.i 2))])])])]) (.lit (.i 2)))) (.ok 11 [(.call 9 2 [(.call 2 0 [(.lit (.s ⟨#[47]⟩)), (.row [(.call 0 0 [(.lit (.s ⟨#[102]⟩))]), (.call 1 0 [(.lit (.i 2))])])])]), (.call 4 0 [(.lit (.i 0))])])), (.imp (.and (.and (.and (.and (.and (.and (.and (.and (.and (.and (.and (.and (.and (.and (.call 11 0 [(.call 3 0 [(.lit (.s ⟨#[109, 111, 100, 105, 102, 121]⟩)), (.lit (.s ⟨#[115, 116, 97, 116, 105, 99, 95, 112, 114, 111, 99, 101, 100, 117, 114, 101]⟩)), (.call 2 0 [(.lit (.s ⟨#[47]⟩)), (.row [(.call 0 0 [(.lit (.s ⟨#[102]⟩))]), (.call 1 0 [(.lit (.i 1))])])])]), (.call 10 0 [(.call 2 0 [(.lit (.s ⟨#[112, 101, 114, 109, 105, 115, 115, 105, 111, 110, 95, 101, 114, 114, 111, 114]⟩)), (.row [(.call 0 0 [(.lit (.s ⟨#[109, 111, 100, 105, 102, 121]⟩))]), (.call 0 0 [(.lit (.s ⟨#[115, 116, 97, 116, 105, 99, 95, 112, 114, 111, 99, 101, 100, 117, 114, 101]⟩))]), (.call 2 0 [(.lit (.s ⟨#[47]⟩)), (.row [(.call 0 0 [(.lit (.s ⟨#[102]⟩))]), (.call 1 0 [(.lit (.i 1))])])])])])])]) (.call 11 0 [(.call 12 0 [(.lit (.i 3))]), (.call 10 0 [(.call 2 0 [(.lit (.s ⟨#[115, 121, 110, 116, 97, 120, 95, 101, 114, 114, 111, 114]⟩)), (.row [(.call 1 0 [(.lit (.i 3))])])])])])) (.call 5 1 [(.call 2 0 [(.lit (.s ⟨#[101, 114, 114, 111, 114]⟩)), (.row [(.call 0 0 [(.lit (.s ⟨#[97]⟩))]), (.call 4 0 [(.lit (.i 0))])])])])) (.call 11 0 [(.call 5 0 [(.call 2 0 [(.lit (.s ⟨#[101, 114, 114, 111, 114]⟩)), (.row [(.call 0 0 [(.lit (.s ⟨#[97]⟩))]), (.call 4 0 [(.lit (.i 0))])])])]), (.call 0 0 [(.lit (.s ⟨#[97]⟩))])])) (.eq (.call 6 0 [(.call 0 0 [(.lit (.s ⟨#[97, 98, 99]⟩))])]) (.lit (.s ⟨#[97, 98, 99]⟩)))) (.call 11 0 [(.call 6 1 [(.call 0 0 [(.lit (.s ⟨#[97, 98, 99]⟩))])]), (.call 4 0 [(.lit (.i 0))])])) (.call 6 2 [(.call 0 0 [(.lit (.s ⟨#[97, 98, 99]⟩))])])) (.call 11 0 [(.call 6 1 [(.call 1 0 [(.lit (.i 3))])]), (.call 10 0 [(.call 2 0 [(.lit (.s ⟨#[116, 121, 112, 101, 95, 101, 114, 114, 111, 114]⟩)), (.row [(.call 0 0 [(.lit (.s ⟨#[97, 116, 111, 109]⟩))]), (.call 1 0 [(.lit (.i 3))])])])])])) (.not (.call 6 2 [(.call 1 0 [(.lit (.i 3))])]))) (.call 11 0 [(.call 7 1 [(.call 1 0 [(.lit (.i 256))])]), (.call 10 0 [(.call 2 0 [(.lit (.s ⟨#[114, 101, 112, 114, 101, 115, 101, 110, 116, 97, 116, 105, 111, 110, 95, 101, 114, 114, 111, 114]⟩)), (.row [(.call 0 0 [(.lit (.s ⟨#[99, 104, 97, 114, 97, 99, 116, 101, 114, 95, 99, 111, 100, 101]⟩))])])])])])) (.not (.call 7 2 [(.call 1 0 [(.lit (.i 256))])]))) (.call 11 0 [(.call 8 1 [(.call 2 0 [(.lit (.s ⟨#[46]⟩)), (.row [(.call 0 0 [(.lit (.s ⟨#[97]⟩))]), (.call 2 0 [(.lit (.s ⟨#[46]⟩)), (.row [(.call 0 0 [(.lit (.s ⟨#[98]⟩))]), (.call 4 0 [(.lit (.i 0))])])])])])]), (.call 10 0 [(.call 0 0 [(.lit (.s ⟨#[105, 110, 115, 116, 97, 110, 116, 105, 97, 116, 105, 111, 110, 95, 101, 114, 114, 111, 114]⟩))])])])) (.not (.call 8 2 [(.call 2 0 [(.lit (.s ⟨#[46]⟩)), (.row [(.call 0 0 [(.lit (.s ⟨#[97]⟩))]), (.call 2 0 [(.lit (.s ⟨#[46]⟩)), (.row [(.call 0 0 [(.lit (.s ⟨#[98]⟩))]), (.call 4 0 [(.lit (.i 0))])])])])])]))) (.eq (.call 9 0 [(.call 2 0 [(.lit (.s ⟨#[47]⟩)), (.row [(.call 0 0 [(.lit (.s ⟨#[102]⟩))]), (.call 1 0 [(.lit (.i 2))])])])]) (.lit (.s ⟨#[102]⟩)))) (.eq (.call 9 1 [(.call 2 0 [(.lit (.s ⟨#[47]⟩)), (.row [(.call 0 0 [(.lit (.s ⟨#[102]⟩))]), (.call 1 0 [(.lit (.i 2))])])])]) (.lit (.i 2)))) (.ok 4 [(.lit (.i 0))])), (.imp (.and (.and (.and (.and (.and (.and (.and (.and (.and (.and (.call 11 0 [(.call 3 0 [(.lit (.s ⟨#[109, 111, 100, 105, 102, 121]⟩)), (.lit (.s ⟨#[115, 116, 97, 116, 105, 99, 95, 112, 114, 111, 99, 101, 100, 117, 114, 101]⟩)), (.call 2 0 [(.lit (.s ⟨#[47]⟩)), (.row [(.call 0 0 [(.lit (.s ⟨#[102]⟩))]), (.call 1 0 [(.lit (.i 1))])])])]), (.call 10 0 [(.call 2 0 [(.lit (.s ⟨#[112, 101, 114, 109, 105, 115, 115, 105, 111, 110, 95, 101, 114, 114, 111, 114]⟩)), (.row [(.call 0 0 [(.lit (.s ⟨#[109, 111, 100, 105, 102, 121]⟩))]), (.call 0 0 [(.lit (.s ⟨#[115, 116, 97, 116, 105, 99, 95, 112, 114, 111, 99, 101, 100, 117, 114, 101]⟩))]), (.call 2 0 [(.lit (.s ⟨#[47]⟩)), (.row [(.call 0 0 [(.lit (.s ⟨#[102]⟩))]), (.call 1 0 [(.lit (.i 1))])])])])])])]) (.call 11 0 [(.call 12 0 [(.lit (.i 3))]), (.call 10 0 [(.call 2 0 [(.lit (.s ⟨#[115, 121, 110, 116, 97, 120, 95, 101, 114, 114, 111, 114]⟩)), (.row [(.call 1 0 [(.lit (.i 3))])])])])])) (.call 5 1 [(.call 2 0 [(.lit (.s ⟨#[101, 114, 114, 111, 114]⟩)), (.row [(.call 0 0 [(.lit (.s ⟨#[97]⟩))]), (.call 4 0 [(.lit (.i 0))])])])])) (.call 11 0 [(.call 5 0 [(.call 2 0 [(.lit (.s ⟨#[101, 114, 114, 111, 114]⟩)), (.row [(.call 0 0 [(.lit (.s ⟨#[97]⟩))]), (.call 4 0 [(.lit (.i 0))])])])]), (.call 0 0 [(.lit (.s ⟨#[97]⟩))])])) (.eq (.call 6 0 [(.call 0 0 [(.lit (.s ⟨#[97, 98, 99]⟩))])]) (.lit (.s ⟨#[97, 98, 99]⟩)))) (.call 11 0 [(.call 6 1 [(.call 0 0 [(.lit (.s ⟨#[97, 98, 99]⟩))])]), (.call 4 0 [(.lit (.i 0))])])) (.call 6 2 [(.call 0 0 [(.lit (.s ⟨#[97, 98, 99]⟩))])])) (.call 11 0 [(.call 6 1 [(.call 1 0 [(.lit (.i 3))])]), (.call 10 0 [(.call 2 0 [(.lit (.s ⟨#[116, 121, 112, 101, 95, 101, 114, 114, 111, 114]⟩)), (.row [(.call 0 0 [(.lit (.s ⟨#[97, 116, 111, 109]⟩))]), (.call 1 0 [(.lit (.i 3))])])])])])) (.not (.call 6 2 [(.call 1 0 [(.lit (.i 3))])]))) (.call 11 0 [(.call 7 1 [(.call 1 0 [(.lit (.i 256))])]), (.call 10 0 [(.call 2 0 [(.lit (.s ⟨#[114, 101, 112, 114, 101, 115, 101, 110, 116, 97, 116, 105, 111, 110, 95, 101, 114, 114, 111, 114]⟩)), (.row [(.call 0 0 [(.lit (.s ⟨#[99, 104, 97, 114, 97, 99, 116, 101, 114, 95, 99, 111, 100, 101]⟩))])])])])])) (.not (.call 7 2 [(.call 1 0 [(.lit (.i 256))])]))) (.ok 11 [(.call 8 1 [(.call 2 0 [(.lit (.s ⟨#[46]⟩)), (.row [(.call 0 0 [(.lit (.s ⟨#[97]⟩))]), (.call 2 0 [(.lit (.s ⟨#[46]⟩)), (.row [(.call 0 0 [(.lit (.s ⟨#[98]⟩))]), (.call 4 0 [(.lit (.i 0))])])])])])]), (.call 10 0 [(.call 0 0 [(.lit (.s ⟨#[105, 110, 115, 116, 97, 110, 116, 105, 97, 116, 105, 111, 110, 95, 101, 114, 114, 111, 114]⟩))])])])), (.imp (.and (.and (.and (.and (.and (.and (.and (.and (.and (.and (.call 11 0 [(.call 3 0 [(.lit (.s ⟨#[109, 111, 100, 105, 102, 121]⟩)), (.lit (.s ⟨#[115, 116, 97, 116, 105, 99, 95, 112, 114, 111, 99, 101, 100, 117, 114, 101]⟩)), (.call 2 0 [(.lit (.s ⟨#[47]⟩)), (.row [(.call 0 0 [(.lit (.s ⟨#[102]⟩))]), (.call 1 0 [(.lit (.i 1))])])])]), (.call 10 0 [(.call 2 0 [(.lit (.s ⟨#[112, 101, 114, 109, 105, 115, 115, 105, 111, 110, 95, 101, 114, 114, 111, 114]⟩)), (.row [(.call 0 0 [(.lit (.s ⟨#[109, 111, 100, 105, 102, 121]⟩))]), (.call 0 0 [(.lit (.s ⟨#[115, 116, 97, 116, 105, 99, 95, 112, 114, 111, 99, 101, 100, 117, 114, 101]⟩))]), (.call 2 0 [(.lit (.s ⟨#[47]⟩)), (.row [(.call 0 0 [(.lit (.s ⟨#[102]⟩))]), (.call 1 0 [(.lit (.i 1))])])])])])])]) (.call 11 0 [(.call 12 0 [(.lit (.i 3))]), (.call 10 0 [(.call 2 0 [(.lit (.s ⟨#[115, 121, 110, 116, 97, 120, 95, 101, 114, 114, 111, 114]⟩)), (.row [(.call 1 0 [(.lit (.i 3))])])])])])) (.call 5 1 [(.call 2 0 [(.lit (.s ⟨#[101, 114, 114, 111, 114]⟩)), (.row [(.call 0 0 [(.lit (.s ⟨#[97]⟩))]), (.call 4 0 [(.lit (.i 0))])])])])) (.call 11 0 [(.call 5 0 [(.call 2 0 [(.lit (.s ⟨#[101, 114, 114, 111, 114]⟩)), (.row [(.call 0 0 [(.lit (.s ⟨#[97]⟩))]), (.call 4 0 [(.lit (.i 0))])])])]), (.call 0 0 [(.lit (.s ⟨#[97]⟩))])])) (.eq (.call 6 0 [(.call 0 0 [(.lit (.s ⟨#[97, 98, 99]⟩))])]) (.lit (.s ⟨#[97, 98, 99]⟩)))) (.call 11 0 [(.call 6 1 [(.call 0 0 [(.lit (.s ⟨#[97, 98, 99]⟩))])]), (.call 4 0 [(.lit (.i 0))])])) (.call 6 2 [(.call 0 0 [(.lit (.s ⟨#[97, 98, 99]⟩))])])) (.call 11 0 [(.call 6 1 [(.call 1 0 [(.lit (.i 3))])]), (.call 10 0 [(.call 2 0 [(.lit (.s ⟨#[116, 121, 112, 101, 95, 101, 114, 114, 111, 114]⟩)), (.row [(.call 0 0 [(.lit (.s ⟨#[97, 116, 111, 109]⟩))]), (.call 1 0 [(.lit (.i 3))])])])])])) (.not (.call 6 2 [(.call 1 0 [(.lit (.i 3))])]))) (.call 11 0 [(.call 7 1 [(.call 1 0 [(.lit (.i 256))])]), (.call 10 0 [(.call 2 0 [(.lit (.s ⟨#[114, 101, 112, 114, 101, 115, 101, 110, 116, 97, 116, 105, 111, 110, 95, 101, 114, 114, 111, 114]⟩)), (.row [(.call 0 0 [(.lit (.s ⟨#[99, 104, 97, 114, 97, 99, 116, 101, 114, 95, 99, 111, 100, 101]⟩))])])])])])) (.not (.call 7 2 [(.call 1 0 [(.lit (.i 256))])]))) (.ok 10 [(.call 0 0 [(.lit (.s ⟨#[105, 110, 115, 116, 97, 110, 116, 105, 97, 116, 105, 111, 110, 95, 101, 114, 114, 111, 114]⟩))])])), (.imp (.and (.and (.and (.and (.and (.and (.and (.and (.and (.and (.call 11 0 [(.call 3 0 [(.lit (.s ⟨#[109, 111, 100, 105, 102, 121]⟩)), (.lit (.s ⟨#[115, 116, 97, 116, 105, 99, 95, 112, 114, 111, 99, 101, 100, 117, 114, 101]⟩)), (.call 2 0 [(.lit (.s ⟨#[47]⟩)), (.row [(.call 0 0 [(.lit (.s ⟨#[102]⟩))]), (.call 1 0 [(.lit (.i 1))])])])]), (.call 10 0 [(.call 2 0 [(.lit (.s ⟨#[112, 101, 114, 109, 105, 115, 115, 105, 111, 110, 95, 101, 114, 114, 111, 114]⟩)), (.row [(.call 0 0 [(.lit (.s ⟨#[109, 111, 100, 105, 102, 121]⟩))]), (.call 0 0 [(.lit (.s ⟨#[115, 116, 97, 116, 105, 99, 95, 112, 114, 111, 99, 101, 100, 117, 114, 101]⟩))]), (.call 2 0 [(.lit (.s ⟨#[47]⟩)), (.row [(.call 0 0 [(.lit (.s ⟨#[102]⟩))]), (.call 1 0 [(.lit (.i 1))])])])])])])]) (.call 11 0 [(.call 12 0 [(.lit (.i 3))]), (.call 10 0 [(.call 2 0 [(.lit (.s ⟨#[115, 121, 110, 116, 97, 120, 95, 101, 114, 114, 111, 114]⟩)), (.row [(.call 1 0 [(.lit (.i 3))])])])])])) (.call 5 1 [(.call 2 0 [(.lit (.s ⟨#[101, 114, 114, 111, 114]⟩)), (.row [(.call 0 0 [(.lit (.s ⟨#[97]⟩))]), (.call 4 0 [(.lit (.i 0))])])])])) (.call 11 0 [(.call 5 0 [(.call 2 0 [(.lit (.s ⟨#[101, 114, 114, 111, 114]⟩)), (.row [(.call 0 0 [(.lit (.s ⟨#[97]⟩))]), (.call 4 0 [(.lit (.i 0))])])])]), (.call 0 0 [(.lit (.s ⟨#[97]⟩))])])) (.eq (.call 6 0 [(.call 0 0 [(.lit (.s ⟨#[97, 98, 99]⟩))])]) (.lit (.s ⟨#[97, 98, 99]⟩)))) (.call 11 0 [(.call 6 1 [(.call 0 0 [(.lit (.s ⟨#[97, 98, 99]⟩))])]), (.call 4 0 [(.lit (.i 0))])])) (.call 6 2 [(.call 0 0 [(.lit (.s ⟨#[97, 98, 99]⟩))])])) (.call 11 0 [(.call 6 1 [(.call 1 0 [(.lit (.i 3))])]), (.call 10 0 [(.call 2 0 [(.lit (.s ⟨#[116, 121, 112, 101, 95, 101, 114, 114, 111, 114]⟩)), (.row [(.call 0 0 [(.lit (.s ⟨#[97, 116, 111, 109]⟩))]), (.call 1 0 [(.lit (.i 3))])])])])])) (.not (.call 6 2 [(.call 1 0 [(.lit (.i 3))])]))) (.call 11 0 [(.call 7 1 [(.call 1 0 [(.lit (.i 256))])]), (.call 10 0 [(.call 2 0 [(.lit (.s ⟨#[114, 101, 112, 114, 101, 115, 101, 110, 116, 97, 116, 105, 111, 110, 95, 101, 114, 114, 111, 114]⟩)), (.row [(.call 0 0 [(.lit (.s ⟨#[99, 104, 97, 114, 97, 99, 116, 101, 114, 95, 99, 111, 100, 101]⟩))])])])])])) (.not (.call 7 2 [(.call 1 0 [(.lit (.i 256))])]))) (.ok 0 [(.lit (.s ⟨#[105, 110, 115, 116, 97, 110, 116, 105, 97, 116, 105, 111, 110, 95, 101, 114, 114, 111, 114]⟩))])), (.imp (.and (.and (.and (.and (.and (.and (.and (.and (.call 11 0 [(.call 3 0 [(.lit (.s ⟨#[109, 111, 100, 105, 102, 121]⟩)), (.lit (.s ⟨#[115, 116, 97, 116, 105, 99, 95, 112, 114, 111, 99, 101, 100, 117, 114, 101]⟩)), (.call 2 0 [(.lit (.s ⟨#[47]⟩)), (.row [(.call 0 0 [(.lit (.s ⟨#[102]⟩))]), (.call 1 0 [(.lit (.i 1))])])])]), (.call 10 0 [(.call 2 0 [(.lit (.s ⟨#[112, 101, 114, 109, 105, 115, 115, 105, 111, 110, 95, 101, 114, 114, 111, 114]⟩)), (.row [(.call 0 0 [(.lit (.s ⟨#[109, 111, 100, 105, 102, 121]⟩))]), (.call 0 0 [(.lit (.s ⟨#[115, 116, 97, 116, 105, 99, 95, 112, 114, 111, 99, 101, 100, 117, 114, 101]⟩))]), (.call 2 0 [(.lit (.s ⟨#[47]⟩)), (.row [(.call 0 0 [(.lit (.s ⟨#[102]⟩))]), (.call 1 0 [(.lit (.i 1))])])])])])])]) (.call 11 0 [(.call 12 0 [(.lit (.i 3))]), (.call 10 0 [(.call 2 0 [(.lit (.s ⟨#[115, 121, 110, 116, 97, 120, 95, 101, 114, 114, 111, 114]⟩)), (.row [(.call 1 0 [(.lit (.i 3))])])])])])) (.call 5 1 [(.call 2 0 [(.lit (.s ⟨#[101, 114, 114, 111, 114]⟩)), (.row [(.call 0 0 [(.lit (.s ⟨#[97]⟩))]), (.call 4 0 [(.lit (.i 0))])])])])) (.call 11 0 [(.call 5 0 [(.call 2 0 [(.lit (.s ⟨#[101, 114, 114, 111, 114]⟩)), (.row [(.call 0 0 [(.lit (.s ⟨#[97]⟩))]), (.call 4 0 [(.lit (.i 0))])])])]), (.call 0 0 [(.lit (.s ⟨#[97]⟩))])])) (.eq (.call 6 0 [(.call 0 0 [(.lit (.s ⟨#[97, 98, 99]⟩))])]) (.lit (.s ⟨#[97, 98, 99]⟩)))) (.call 11 0 [(.call 6 1 [(.call 0 0 [(.lit (.s ⟨#[97, 98, 99]⟩))])]), (.call 4 0 [(.lit (.i 0))])])) (.call 6 2 [(.call 0 0 [(.lit (.s ⟨#[97, 98, 99]⟩))])])) (.call 11 0 [(.call 6 1 [(.call 1 0 [(.lit (.i 3))])]), (.call 10 0 [(.call 2 0 [(.lit (.s ⟨#[116, 121, 112, 101, 95, 101, 114, 114, 111, 114]⟩)), (.row [(.call 0 0 [(.lit (.s ⟨#[97, 116, 111, 109]⟩))]), (.call 1 0 [(.lit (.i 3))])])])])])) (.not (.call 6 2 [(.call 1 0 [(.lit (.i 3))])]))) (.ok 11 [(.call 7 1 [(.call 1 0 [(.lit (.i 256))])]), (.call 10 0 [(.call 2 0 [(.lit (.s ⟨#[114, 101, 112, 114, 101, 115, 101, 110, 116, 97, 116, 105, 111, 110, 95, 101, 114, 114, 111, 114]⟩)), (.row [(.call 0 0 [(.lit (.s ⟨#[99, 104, 97, 114, 97, 99, 116, 101, 114, 95, 99, 111, 100, 101]⟩))])])])])])), (.imp (.and (.and (.and (.and (.and (.and (.and (.and (.call 11 0 [(.call 3 0 [(.lit (.s ⟨#[109, 111, 100, 105, 102, 121]⟩)), (.lit (.s ⟨#[115, 116, 97, 116, 105, 99, 95, 112, 114, 111, 99, 101, 100, 117, 114, 101]⟩)), (.call 2 0 [(.lit (.s ⟨#[47]⟩)), (.row [(.call 0 0 [(.lit (.s ⟨#[102]⟩))]), (.call 1 0 [(.lit (.i 1))])])])]), (.call 10 0 [(.call 2 0 [(.lit (.s ⟨#[112, 101, 114, 109, 105, 115, 115, 105, 111, 110, 95, 101, 114, 114, 111, 114]⟩)), (.row [(.call 0 0 [(.lit (.s ⟨#[109, 111, 100, 105, 102, 121]⟩))]), (.call 0 0 [(.lit (.s ⟨#[115, 116, 97, 116, 105, 99, 95, 112, 114, 111, 99, 101, 100, 117, 114, 101]⟩))]), (.call 2 0 [(.lit (.s ⟨#[47]⟩)), (.row [(.call 0 0 [(.lit (.s ⟨#[102]⟩))]), (.call 1 0 [(.lit (.i 1))])])])])])])]) (.call 11 0 [(.call 12 0 [(.lit (.i 3))]), (.call 10 0 [(.call 2 0 [(.lit (.s ⟨#[115, 121, 110, 116, 97, 120, 95, 101, 114, 114, 111, 114]⟩)), (.row [(.call 1 0 [(.lit (.i 3))])])])])])) (.call 5 1 [(.call 2 0 [(.lit (.s ⟨#[101, 114, 114, 111, 114]⟩)), (.row [(.call 0 0 [(.lit (.s ⟨#[97]⟩))]), (.call 4 0 [(.lit (.i 0))])])])])) (.call 11 0 [(.call 5 0 [(.call 2 0 [(.lit (.s ⟨#[101, 114, 114, 111, 114]⟩)), (.row [(.call 0 0 [(.lit (.s ⟨#[97]⟩))]), (.call 4 0 [(.lit (.i 0))])])])]), (.call 0 0 [(.lit (.s ⟨#[97]⟩))])])) (.eq (.call 6 0 [(.call 0 0 [(.lit (.s ⟨#[97, 98, 99]⟩))])]) (.lit (.s ⟨#[97, 98, 99]⟩)))) (.call 11 0 [(.call 6 1 [(.call 0 0 [(.lit (.s ⟨#[97, 98, 99]⟩))])]), (.call 4 0 [(.lit (.i 0))])])) (.call 6 2 [(.call 0 0 [(.lit (.s ⟨#[97, 98, 99]⟩))])])) (.call 11 0 [(.call 6 1 [(.call 1 0 [(.lit (.i 3))])]), (.call 10 0 [(.call 2 0 [(.lit (.s ⟨#[116, 121, 112, 101, 95, 101, 114, 114, 111, 114]⟩)), (.row [(.call 0 0 [(.lit (.s ⟨#[97, 116, 111, 109]⟩))]), (.call 1 0 [(.lit (.i 3))])])])])])) (.not (.call 6 2 [(.call 1 0 [(.lit (.i 3))])]))) (.ok 10 [(.call 2 0 [(.lit (.s ⟨#[114, 101, 112, 114, 101, 115, 101, 110, 116, 97, 116, 105, 111, 110, 95, 101, 114, 114, 111, 114]⟩)), (.row [(.call 0 0 [(.lit (.s ⟨#[99, 104, 97, 114, 97, 99, 116, 101, 114, 95, 99, 111, 100, 101]⟩))])])])])), (.imp (.and (.and (.and (.and (.and (.and (.and (.and (.call 11 0 [(.call 3 0 [(.lit (.s ⟨#[109, 111, 100, 105, 102, 121]⟩)), (.lit (.s ⟨#[115, 116, 97, 116, 105, 99, 95, 112, 114, 111, 99, 101, 100, 117, 114, 101]⟩)), (.call 2 0 [(.lit (.s ⟨#[47]⟩)), (.row [(.call 0 0 [(.lit (.s ⟨#[102]⟩))]), (.call 1 0 [(.lit (.i 1))])])])]), (.call 10 0 [(.call 2 0 [(.lit (.s ⟨#[112, 101, 114, 109, 105, 115, 115, 105, 111, 110, 95, 101, 114, 114, 111, 114]⟩)), (.row [(.call 0 0 [(.lit (.s ⟨#[109, 111, 100, 105, 102, 121]⟩))]), (.call 0 0 [(.lit (.s ⟨#[115, 116, 97, 116, 105, 99, 95, 112, 114, 111, 99, 101, 100, 117, 114, 101]⟩))]), (.call 2 0 [(.lit (.s ⟨#[47]⟩)), (.row [(.call 0 0 [(.lit (.s ⟨#[102]⟩))]), (.call 1 0 [(.lit (.i 1))])])])])])])]) (.call 11 0 [(.call 12 0 [(.lit (.i 3))]), (.call 10 0 [(.call 2 0 [(.lit (.s ⟨#[115, 121, 110, 116, 97, 120, 95, 101, 114, 114, 111, 114]⟩)), (.row [(.call 1 0 [(.lit (.i 3))])])])])])) (.call 5 1 [(.call 2 0 [(.lit (.s ⟨#[101, 114, 114, 111, 114]⟩)), (.row [(.call 0 0 [(.lit (.s ⟨#[97]⟩))]), (.call 4 0 [(.lit (.i 0))])])])])) (.call 11 0 [(.call 5 0 [(.call 2 0 [(.lit (.s ⟨#[101, 114, 114, 111, 114]⟩)), (.row [(.call 0 0 [(.lit (.s ⟨#[97]⟩))]), (.call 4 0 [(.lit (.i 0))])])])]), (.call 0 0 [(.lit (.s ⟨#[97]⟩))])])) (.eq (.call 6 0 [(.call 0 0 [(.lit (.s ⟨#[97, 98, 99]⟩))])]) (.lit (.s ⟨#[97, 98, 99]⟩)))) (.call 11 0 [(.call 6 1 [(.call 0 0 [(.lit (.s ⟨#[97, 98, 99]⟩))])]), (.call 4 0 [(.lit (.i 0))])])) (.call 6 2 [(.call 0 0 [(.lit (.s ⟨#[97, 98, 99]⟩))])])) (.call 11 0 [(.call 6 1 [(.call 1 0 [(.lit (.i 3))])]), (.call 10 0 [(.call 2 0 [(.lit (.s ⟨#[116, 121, 112, 101, 95, 101, 114, 114, 111, 114]⟩)), (.row [(.call 0 0 [(.lit (.s ⟨#[97, 116, 111, 109]⟩))]), (.call 1 0 [(.lit (.i 3))])])])])])) (.not (.call 6 2 [(.call 1 0 [(.lit (.i 3))])]))) (.ok 2 [(.lit (.s ⟨#[114, 101, 112, 114, 101, 115, 101, 110, 116, 97, 116, 105, 111, 110, 95, 101, 114, 114, 111, 114]⟩)), (.row [(.call 0 0 [(.lit (.s ⟨#[99, 104, 97, 114, 97, 99, 116, 101, 114, 95, 99, 111, 100, 101]⟩))])])])), (.imp (.and (.and (.and (.and (.and (.and (.and (.and (.call 11 0 [(.call 3 0 [(.lit (.s ⟨#[109, 111, 100, 105, 102, 121]⟩)), (.lit (.s ⟨#[115, 116, 97, 116, 105, 99, 95, 112, 114, 111, 99, 101, 100, 117, 114, 101]⟩)), (.call 2 0 [(.lit (.s ⟨#[47]⟩)), (.row [(.call 0 0 [(.lit (.s ⟨#[102]⟩))]), (.call 1 0 [(.lit (.i 1))])])])]), (.call 10 0 [(.call 2 0 [(.lit (.s ⟨#[112, 101, 114, 109, 105, 115, 115, 105, 111, 110, 95, 101, 114, 114, 111, 114]⟩)), (.row [(.call 0 0 [(.lit (.s ⟨#[109, 111, 100, 105, 102, 121]⟩))]), (.call 0 0 [(.lit (.s ⟨#[115, 116, 97, 116, 105, 99, 95, 112, 114, 111, 99, 101, 100, 117, 114, 101]⟩))]), (.call 2 0 [(.lit (.s ⟨#[47]⟩)), (.row [(.call 0 0 [(.lit (.s ⟨#[102]⟩))]), (.call 1 0 [(.lit (.i 1))])])])])])])]) (.call 11 0 [(.call 12 0 [(.lit (.i 3))]), (.call 10 0 [(.call 2 0 [(.lit (.s ⟨#[115, 121, 110, 116, 97, 120, 95, 101, 114, 114, 111, 114]⟩)), (.row [(.call 1 0 [(.lit (.i 3))])])])])])) (.call 5 1 [(.call 2 0 [(.lit (.s ⟨#[101, 114, 114, 111, 114]⟩)), (.row [(.call 0 0 [(.lit (.s ⟨#[97]⟩))]), (.call 4 0 [(.lit (.i 0))])])])])) (.call 11 0 [(.call 5 0 [(.call 2 0 [(.lit (.s ⟨#[101, 114, 114, 111, 114]⟩)), (.row [(.call 0 0 [(.lit (.s ⟨#[97]⟩))]), (.call 4 0 [(.lit (.i 0))])])])]), (.call 0 0 [(.lit (.s ⟨#[97]⟩))])])) (.eq (.call 6 0 [(.call 0 0 [(.lit (.s ⟨#[97, 98, 99]⟩))])]) (.lit (.s ⟨#[97, 98, 99]⟩)))) (.call 11 0 [(.call 6 1 [(.call 0 0 [(.lit (.s ⟨#[97, 98, 99]⟩))])]), (.call 4 0 [(.lit (.i 0))])])) (.call 6 2 [(.call 0 0 [(.lit (.s ⟨#[97, 98, 99]⟩))])])) (.call 11 0 [(.call 6 1 [(.call 1 0 [(.lit (.i 3))])]), (.call 10 0 [(.call 2 0 [(.lit (.s ⟨#[116, 121, 112, 101, 95, 101, 114, 114, 111, 114]⟩)), (.row [(.call 0 0 [(.lit (.s ⟨#[97, 116, 111, 109]⟩))]), (.call 1 0 [(.lit (.i 3))])])])])])) (.not (.call 6 2 [(.call 1 0 [(.lit (.i 3))])]))) (.ok 0 [(.lit (.s ⟨#[99, 104, 97, 114, 97, 99, 116, 101, 114, 95, 99, 111, 100, 101]⟩))])), (.imp (.and (.and (.and (.and (.and (.and (.call 11 0 [(.call 3 0 [(.lit (.s ⟨#[109, 111, 100, 105, 102, 121]⟩)), (.lit (.s ⟨#[115, 116, 97, 116, 105, 99, 95, 112, 114, 111, 99, 101, 100, 117, 114, 101]⟩)), (.call 2 0 [(.lit (.s ⟨#[47]⟩)), (.row [(.call 0 0 [(.lit (.s ⟨#[102]⟩))]), (.call 1 0 [(.lit (.i 1))])])])]), (.call 10 0 [(.call 2 0 [(.lit (.s ⟨#[112, 101, 114, 109, 105, 115, 115, 105, 111, 110, 95, 101, 114, 114, 111, 114]⟩)), (.row [(.call 0 0 [(.lit (.s ⟨#[109, 111, 100, 105, 102, 121]⟩))]), (.call 0 0 [(.lit (.s ⟨#[115, 116, 97, 116, 105, 99, 95, 112, 114, 111, 99, 101, 100, 117, 114, 101]⟩))]), (.call 2 0 [(.lit (.s ⟨#[47]⟩)), (.row [(.call 0 0 [(.lit (.s ⟨#[102]⟩))]), (.call 1 0 [(.lit (.i 1))])])])])])])]) (.call 11 0 [(.call 12 0 [(.lit (.i 3))]), (.call 10 0 [(.call 2 0 [(.lit (.s ⟨#[115, 121, 110, 116, 97, 120, 95, 101, 114, 114, 111, 114]⟩)), (.row [(.call 1 0 [(.lit (.i 3))])])])])])) (.call 5 1 [(.call 2 0 [(.lit (.s ⟨#[101, 114, 114, 111, 114]⟩)), (.row [(.call 0 0 [(.lit (.s ⟨#[97]⟩))]), (.call 4 0 [(.lit (.i 0))])])])])) (.call 11 0 [(.call 5 0 [(.call 2 0 [(.lit (.s ⟨#[101, 114, 114, 111, 114]⟩)), (.row [(.call 0 0 [(.lit (.s ⟨#[97]⟩))]), (.call 4 0 [(.lit (.i 0))])])])]), (.call 0 0 [(.lit (.s ⟨#[97]⟩))])])) (.eq (.call 6 0 [(.call 0 0 [(.lit (.s ⟨#[97, 98, 99]⟩))])]) (.lit (.s ⟨#[97, 98, 99]⟩)))) (.call 11 0 [(.call 6 1 [(.call 0 0 [(.lit (.s ⟨#[97, 98, 99]⟩))])]), (.call 4 0 [(.lit (.i 0))])])) (.call 6 2 [(.call 0 0 [(.lit (.s ⟨#[97, 98, 99]⟩))])])) (.ok 11 [(.call 6 1 [(.call 1 0 [(.lit (.i 3))])]), (.call 10 0 [(.call 2 0 [(.lit (.s ⟨#[116, 121, 112, 101, 95, 101, 114, 114, 111, 114]⟩)), (.row [(.call 0 0 [(.lit (.s ⟨#[97, 116, 111, 109]⟩))]), (.call 1 0 [(.lit (.i 3))])])])])])), (.imp (.and (.and (.and (.and (.and (.and (.call 11 0 [(.call 3 0 [(.lit (.s ⟨#[109, 111, 100, 105, 102, 121]⟩)), (.lit (.s ⟨#[115, 116, 97, 116, 105, 99, 95, 112, 114, 111, 99, 101, 100, 117, 114, 101]⟩)), (.call 2 0 [(.lit (.s ⟨#[47]⟩)), (.row [(.call 0 0 [(.lit (.s ⟨#[102]⟩))]), (.call 1 0 [(.lit (.i 1))])])])]), (.call 10 0 [(.call 2 0 [(.lit (.s ⟨#[112, 101, 114, 109, 105, 115, 115, 105, 111, 110, 95, 101, 114, 114, 111, 114]⟩)), (.row [(.call 0 0 [(.lit (.s ⟨#[109, 111, 100, 105, 102, 121]⟩))]), (.call 0 0 [(.lit (.s ⟨#[115, 116, 97, 116, 105, 99, 95, 112, 114, 111, 99, 101, 100, 117, 114, 101]⟩))]), (.call 2 0 [(.lit (.s ⟨#[47]⟩)), (.row [(.call 0 0 [(.lit (.s ⟨#[102]⟩))]), (.call 1 0 [(.lit (.i 1))])])])])])])]) (.call 11 0 [(.call 12 0 [(.lit (.i 3))]), (.call 10 0 [(.call 2 0 [(.lit (.s ⟨#[115, 121, 110, 116, 97, 120, 95, 101, 114, 114, 111, 114]⟩)), (.row [(.call 1 0 [(.lit (.i 3))])])])])])) (.call 5 1 [(.call 2 0 [(.lit (.s ⟨#[101, 114, 114, 111, 114]⟩)), (.row [(.call 0 0 [(.lit (.s ⟨#[97]⟩))]), (.call 4 0 [(.lit (.i 0))])])])])) (.call 11 0 [(.call 5 0 [(.call 2 0 [(.lit (.s ⟨#[101, 114, 114, 111, 114]⟩)), (.row [(.call 0 0 [(.lit (.s ⟨#[97]⟩))]), (.call 4 0 [(.lit (.i 0))])])])]), (.call 0 0 [(.lit (.s ⟨#[97]⟩))])])) (.eq (.call 6 0 [(.call 0 0 [(.lit (.s ⟨#[97, 98, 99]⟩))])]) (.lit (.s ⟨#[97, 98, 99]⟩)))) (.call 11 0 [(.call 6 1 [(.call 0 0 [(.lit (.s ⟨#[97, 98, 99]⟩))])]), (.call 4 0 [(.lit (.i 0))])])) (.call 6 2 [(.call 0 0 [(.lit (.s ⟨#[97, 98, 99]⟩))])])) (.ok 10 [(.call 2 0 [(.lit (.s ⟨#[116, 121, 112, 101, 95, 101, 114, 114, 111, 114]⟩)), (.row [(.call 0 0 [(.lit (.s ⟨#[97, 116, 111, 109]⟩))]), (.call 1 0 [(.lit (.i 3))])])])])), (.imp (.and (.and (.and (.and (.and (.and (.call 11 0 [(.call 3 0 [(.lit (.s ⟨#[109, 111, 100, 105, 102, 121]⟩)), (.lit (.s ⟨#[115, 116, 97, 116, 105, 99, 95, 112, 114, 111, 99, 101, 100, 117, 114, 101]⟩)), (.call 2 0 [(.lit (.s ⟨#[47]⟩)), (.row [(.call 0 0 [(.lit (.s ⟨#[102]⟩))]), (.call 1 0 [(.lit (.i 1))])])])]), (.call 10 0 [(.call 2 0 [(.lit (.s ⟨#[112, 101, 114, 109, 105, 115, 115, 105, 111, 110, 95, 101, 114, 114, 111, 114]⟩)), (.row [(.call 0 0 [(.lit (.s ⟨#[109, 111, 100, 105, 102, 121]⟩))]), (.call 0 0 [(.lit (.s ⟨#[115, 116, 97, 116, 105, 99, 95, 112, 114, 111, 99, 101, 100, 117, 114, 101]⟩))]), (.call 2 0 [(.lit (.s ⟨#[47]⟩)), (.row [(.call 0 0 [(.lit (.s ⟨#[102]⟩))]), (.call 1 0 [(.lit (.i 1))])])])])])])]) (.call 11 0 [(.call 12 0 [(.lit (.i 3))]), (.call 10 0 [(.call 2 0 [(.lit (.s ⟨#[115, 121, 110, 116, 97, 120, 95, 101, 114, 114, 111, 114]⟩)), (.row [(.call 1 0 [(.lit (.i 3))])])])])])) (.call 5 1 [(.call 2 0 [(.lit (.s ⟨#[101, 114, 114, 111, 114]⟩)), (.row [(.call 0 0 [(.lit (.s ⟨#[97]⟩))]), (.call 4 0 [(.lit (.i 0))])])])])) (.call 11 0 [(.call 5 0 [(.call 2 0 [(.lit (.s ⟨#[101, 114, 114, 111, 114]⟩)), (.row [(.call 0 0 [(.lit (.s ⟨#[97]⟩))]), (.call 4 0 [(.lit (.i 0))])])])]), (.call 0 0 [(.lit (.s ⟨#[97]⟩))])])) (.eq (.call 6 0 [(.call 0 0 [(.lit (.s ⟨#[97, 98, 99]⟩))])]) (.lit (.s ⟨#[97, 98, 99]⟩)))) (.call 11 0 [(.call 6 1 [(.call 0 0 [(.lit (.s ⟨#[97, 98, 99]⟩))])]), (.call 4 0 [(.lit (.i 0))])])) (.call 6 2 [(.call 0 0 [(.lit (.s ⟨#[97, 98, 99]⟩))])])) (.ok 2 [(.lit (.s ⟨#[116, 121, 112, 101, 95, 101, 114, 114, 111, 114]⟩)), (.row [(.call 0 0 [(.lit (.s ⟨#[97, 116, 111, 109]⟩))]), (.call 1 0 [(.lit (.i 3))])])])), (.imp (.and (.and (.and (.and (.and (.and (.call 11 0 [(.call 3 0 [(.lit (.s ⟨#[109, 111, 100, 105, 102, 121]⟩)), (.lit (.s ⟨#[115, 116, 97, 116, 105, 99, 95, 112, 114, 111, 99, 101, 100, 117, 114, 101]⟩)), (.call 2 0 [(.lit (.s ⟨#[47]⟩)), (.row [(.call 0 0 [(.lit (.s ⟨#[102]⟩))]), (.call 1 0 [(.lit (.i 1))])])])]), (.call 10 0 [(.call 2 0 [(.lit (.s ⟨#[112, 101, 114, 109, 105, 115, 115, 105, 111, 110, 95, 101, 114, 114, 111, 114]⟩)), (.row [(.call 0 0 [(.lit (.s ⟨#[109, 111, 100, 105, 102, 121]⟩))]), (.call 0 0 [(.lit (.s ⟨#[115, 116, 97, 116, 105, 99, 95, 112, 114, 111, 99, 101, 100, 117, 114, 101]⟩))]), (.call 2 0 [(.lit (.s ⟨#[47]⟩)), (.row [(.call 0 0 [(.lit (.s ⟨#[102]⟩))]), (.call 1 0 [(.lit (.i 1))])])])])])])]) (.call 11 0 [(.call 12 0 [(.lit (.i 3))]), (.call 10 0 [(.call 2 0 [(.lit (.s ⟨#[115, 121, 110, 116, 97, 120, 95, 101, 114, 114, 111, 114]⟩)), (.row [(.call 1 0 [(.lit (.i 3))])])])])])) (.call 5 1 [(.call 2 0 [(.lit (.s ⟨#[101, 114, 114, 111, 114]⟩)), (.row [(.call 0 0 [(.lit (.s ⟨#[97]⟩))]), (.call 4 0 [(.lit (.i 0))])])])])) (.call 11 0 [(.call 5 0 [(.call 2 0 [(.lit (.s ⟨#[101, 114, 114, 111, 114]⟩)), (.row [(.call 0 0 [(.lit (.s ⟨#[97]⟩))]), (.call 4 0 [(.lit (.i 0))])])])]), (.call 0 0 [(.lit (.s ⟨#[97]⟩))])])) (.eq (.call 6 0 [(.call 0 0 [(.lit (.s ⟨#[97, 98, 99]⟩))])]) (.lit (.s ⟨#[97, 98, 99]⟩)))) (.call 11 0 [(.call 6 1 [(.call 0 0 [(.lit (.s ⟨#[97, 98, 99]⟩))])]), (.call 4 0 [(.lit (.i 0))])])) (.call 6 2 [(.call 0 0 [(.lit (.s ⟨#[97, 98, 99]⟩))])])) (.ok 1 [(.lit (.i 3))])), (.imp (.and (.and (.and (.and (.and (.and (.call 11 0 [(.call 3 0 [(.lit (.s ⟨#[109, 111, 100, 105, 102, 121]⟩)), (.lit (.s ⟨#[115, 116, 97, 116, 105, 99, 95, 112, 114, 111, 99, 101, 100, 117, 114, 101]⟩)), (.call 2 0 [(.lit (.s ⟨#[47]⟩)), (.row [(.call 0 0 [(.lit (.s ⟨#[102]⟩))]), (.call 1 0 [(.lit (.i 1))])])])]), (.call 10 0 [(.call 2 0 [(.lit (.s ⟨#[112, 101, 114, 109, 105, 115, 115, 105, 111, 110, 95, 101, 114, 114, 111, 114]⟩)), (.row [(.call 0 0 [(.lit (.s ⟨#[109, 111, 100, 105, 102, 121]⟩))]), (.call 0 0 [(.lit (.s ⟨#[115, 116, 97, 116, 105, 99, 95, 112, 114, 111, 99, 101, 100, 117, 114, 101]⟩))]), (.call 2 0 [(.lit (.s ⟨#[47]⟩)), (.row [(.call 0 0 [(.lit (.s ⟨#[102]⟩))]), (.call 1 0 [(.lit (.i 1))])])])])])])]) (.call 11 0 [(.call 12 0 [(.lit (.i 3))]), (.call 10 0 [(.call 2 0 [(.lit (.s ⟨#[115, 121, 110, 116, 97, 120, 95, 101, 114, 114, 111, 114]⟩)), (.row [(.call 1 0 [(.lit (.i 3))])])])])])) (.call 5 1 [(.call 2 0 [(.lit (.s ⟨#[101, 114, 114, 111, 114]⟩)), (.row [(.call 0 0 [(.lit (.s ⟨#[97]⟩))]), (.call 4 0 [(.lit (.i 0))])])])])) (.call 11 0 [(.call 5 0 [(.call 2 0 [(.lit (.s ⟨#[101, 114, 114, 111, 114]⟩)), (.row [(.call 0 0 [(.lit (.s ⟨#[97]⟩))]), (.call 4 0 [(.lit (.i 0))])])])]), (.call 0 0 [(.lit (.s ⟨#[97]⟩))])])) (.eq (.call 6 0 [(.call 0 0 [(.lit (.s ⟨#[97, 98, 99]⟩))])]) (.lit (.s ⟨#[97, 98, 99]⟩)))) (.call 11 0 [(.call 6 1 [(.call 0 0 [(.lit (.s ⟨#[97, 98, 99]⟩))])]), (.call 4 0 [(.lit (.i 0))])])) (.call 6 2 [(.call 0 0 [(.lit (.s ⟨#[97, 98, 99]⟩))])])) (.ok 0 [(.lit (.s ⟨#[97, 116, 111, 109]⟩))])), (.imp (.and (.and (.and (.and (.call 11 0 [(.call 3 0 [(.lit (.s ⟨#[109, 111, 100, 105, 102, 121]⟩)), (.lit (.s ⟨#[115, 116, 97, 116, 105, 99, 95, 112, 114, 111, 99, 101, 100, 117, 114, 101]⟩)), (.call 2 0 [(.lit (.s ⟨#[47]⟩)), (.row [(.call 0 0 [(.lit (.s ⟨#[102]⟩))]), (.call 1 0 [(.lit (.i 1))])])])]), (.call 10 0 [(.call 2 0 [(.lit (.s ⟨#[112, 101, 114, 109, 105, 115, 115, 105, 111, 110, 95, 101, 114, 114, 111, 114]⟩)), (.row [(.call 0 0 [(.lit (.s ⟨#[109, 111, 100, 105, 102, 121]⟩))]), (.call 0 0 [(.lit (.s ⟨#[115, 116, 97, 116, 105, 99, 95, 112, 114, 111, 99, 101, 100, 117, 114, 101]⟩))]), (.call 2 0 [(.lit (.s ⟨#[47]⟩)), (.row [(.call 0 0 [(.lit (.s ⟨#[102]⟩))]), (.call 1 0 [(.lit (.i 1))])])])])])])]) (.call 11 0 [(.call 12 0 [(.lit (.i 3))]), (.call 10 0 [(.call 2 0 [(.lit (.s ⟨#[115, 121, 110, 116, 97, 120, 95, 101, 114, 114, 111, 114]⟩)), (.row [(.call 1 0 [(.lit (.i 3))])])])])])) (.call 5 1 [(.call 2 0 [(.lit (.s ⟨#[101, 114, 114, 111, 114]⟩)), (.row [(.call 0 0 [(.lit (.s ⟨#[97]⟩))]), (.call 4 0 [(.lit (.i 0))])])])])) (.call 11 0 [(.call 5 0 [(.call 2 0 [(.lit (.s ⟨#[101, 114, 114, 111, 114]⟩)), (.row [(.call 0 0 [(.lit (.s ⟨#[97]⟩))]), (.call 4 0 [(.lit (.i 0))])])])]), (.call 0 0 [(.lit (.s ⟨#[97]⟩))])])) (.eq (.call 6 0 [(.call 0 0 [(.lit (.s ⟨#[97, 98, 99]⟩))])]) (.lit (.s ⟨#[97, 98, 99]⟩)))) (.ok 11 [(.call 6 1 [(.call 0 0 [(.lit (.s ⟨#[97, 98, 99]⟩))])]), (.call 4 0 [(.lit (.i 0))])])), (.imp (.and (.and (.and (.and (.call 11 0 [(.call 3 0 [(.lit (.s ⟨#[109, 111, 100, 105, 102, 121]⟩)), (.lit (.s ⟨#[115, 116, 97, 116, 105, 99, 95, 112, 114, 111, 99, 101, 100, 117, 114, 101]⟩)), (.call 2 0 [(.lit (.s ⟨#[47]⟩)), (.row [(.call 0 0 [(.lit (.s ⟨#[102]⟩))]), (.call 1 0 [(.lit (.i 1))])])])]), (.call 10 0 [(.call 2 0 [(.lit (.s ⟨#[112, 101, 114, 109, 105, 115, 115, 105, 111, 110, 95, 101, 114, 114, 111, 114]⟩)), (.row [(.call 0 0 [(.lit (.s ⟨#[109, 111, 100, 105, 102, 121]⟩))]), (.call 0 0 [(.lit (.s ⟨#[115, 116, 97, 116, 105, 99, 95, 112, 114, 111, 99, 101, 100, 117, 114, 101]⟩))]), (.call 2 0 [(.lit (.s ⟨#[47]⟩)), (.row [(.call 0 0 [(.lit (.s ⟨#[102]⟩))]), (.call 1 0 [(.lit (.i 1))])])])])])])]) (.call 11 0 [(.call 12 0 [(.lit (.i 3))]), (.call 10 0 [(.call 2 0 [(.lit (.s ⟨#[115, 121, 110, 116, 97, 120, 95, 101, 114, 114, 111, 114]⟩)), (.row [(.call 1 0 [(.lit (.i 3))])])])])])) (.call 5 1 [(.call 2 0 [(.lit (.s ⟨#[101, 114, 114, 111, 114]⟩)), (.row [(.call 0 0 [(.lit (.s ⟨#[97]⟩))]), (.call 4 0 [(.lit (.i 0))])])])])) (.call 11 0 [(.call 5 0 [(.call 2 0 [(.lit (.s ⟨#[101, 114, 114, 111, 114]⟩)), (.row [(.call 0 0 [(.lit (.s ⟨#[97]⟩))]), (.call 4 0 [(.lit (.i 0))])])])]), (.call 0 0 [(.lit (.s ⟨#[97]⟩))])])) (.eq (.call 6 0 [(.call 0 0 [(.lit (.s ⟨#[97, 98, 99]⟩))])]) (.lit (.s ⟨#[97, 98, 99]⟩)))) (.ok 4 [(.lit (.i 0))])), (.imp (.and (.and (.call 11 0 [(.call 3 0 [(.lit (.s ⟨#[109, 111, 100, 105, 102, 121]⟩)), (.lit (.s ⟨#[115, 116, 97, 116, 105, 99, 95, 112, 114, 111, 99, 101, 100, 117, 114, 101]⟩)), (.call 2 0 [(.lit (.s ⟨#[47]⟩)), (.row [(.call 0 0 [(.lit (.s ⟨#[102]⟩))]), (.call 1 0 [(.lit (.i 1))])])])]), (.call 10 0 [(.call 2 0 [(.lit (.s ⟨#[112, 101, 114, 109, 105, 115, 115, 105, 111, 110, 95, 101, 114, 114, 111, 114]⟩)), (.row [(.call 0 0 [(.lit (.s ⟨#[109, 111, 100, 105, 102, 121]⟩))]), (.call 0 0 [(.lit (.s ⟨#[115, 116, 97, 116, 105, 99, 95, 112, 114, 111, 99, 101, 100, 117, 114, 101]⟩))]), (.call 2 0 [(.lit (.s ⟨#[47]⟩)), (.row [(.call 0 0 [(.lit (.s ⟨#[102]⟩))]), (.call 1 0 [(.lit (.i 1))])])])])])])]) (.call 11 0 [(.call 12 0 [(.lit (.i 3))]), (.call 10 0 [(.call 2 0 [(.lit (.s ⟨#[115, 121, 110, 116, 97, 120, 95, 101, 114, 114, 111, 114]⟩)), (.row [(.call 1 0 [(.lit (.i 3))])])])])])) (.call 5 1 [(.call 2 0 [(.lit (.s ⟨#[101, 114, 114, 111, 114]⟩)), (.row [(.call 0 0 [(.lit (.s ⟨#[97]⟩))]), (.call 4 0 [(.lit (.i 0))])])])])) (.ok 11 [(.call 5 0 [(.call 2 0 [(.lit (.s ⟨#[101, 114, 114, 111, 114]⟩)), (.row [(.call 0 0 [(.lit (.s ⟨#[97]⟩))]), (.call 4 0 [(.lit (.i 0))])])])]), (.call 0 0 [(.lit (.s ⟨#[97]⟩))])])), (.imp (.and (.and (.call 11 0 [(.call 3 0 [(.lit (.s ⟨#[109, 111, 100, 105, 102, 121]⟩)), (.lit (.s ⟨#[115, 116, 97, 116, 105, 99, 95, 112, 114, 111, 99, 101, 100, 117, 114, 101]⟩)), (.call 2 0 [(.lit (.s ⟨#[47]⟩)), (.row [(.call 0 0 [(.lit (.s ⟨#[102]⟩))]), (.call 1 0 [(.lit (.i 1))])])])]), (.call 10 0 [(.call 2 0 [(.lit (.s ⟨#[112, 101, 114, 109, 105, 115, 115, 105, 111, 110, 95, 101, 114, 114, 111, 114]⟩)), (.row [(.call 0 0 [(.lit (.s ⟨#[109, 111, 100, 105, 102, 121]⟩))]), (.call 0 0 [(.lit (.s ⟨#[115, 116, 97, 116, 105, 99, 95, 112, 114, 111, 99, 101, 100, 117, 114, 101]⟩))]), (.call 2 0 [(.lit (.s ⟨#[47]⟩)), (.row [(.call 0 0 [(.lit (.s ⟨#[102]⟩))]), (.call 1 0 [(.lit (.i 1))])])])])])])]) (.call 11 0 [(.call 12 0 [(.lit (.i 3))]), (.call 10 0 [(.call 2 0 [(.lit (.s ⟨#[115, 121, 110, 116, 97, 120, 95, 101, 114, 114, 111, 114]⟩)), (.row [(.call 1 0 [(.lit (.i 3))])])])])])) (.call 5 1 [(.call 2 0 [(.lit (.s ⟨#[101, 114, 114, 111, 114]⟩)), (.row [(.call 0 0 [(.lit (.s ⟨#[97]⟩))]), (.call 4 0 [(.lit (.i 0))])])])])) (.ok 0 [(.lit (.s ⟨#[97]⟩))])), (.imp (.call 11 0 [(.call 3 0 [(.lit (.s ⟨#[109, 111, 100, 105, 102, 121]⟩)), (.lit (.s ⟨#[115, 116, 97, 116, 105, 99, 95, 112, 114, 111, 99, 101, 100, 117, 114, 101]⟩)), (.call 2 0 [(.lit (.s ⟨#[47]⟩)), (.row [(.call 0 0 [(.lit (.s ⟨#[102]⟩))]), (.call 1 0 [(.lit (.i 1))])])])]), (.call 10 0 [(.call 2 0 [(.lit (.s ⟨#[112, 101, 114, 109, 105, 115, 115, 105, 111, 110, 95, 101, 114, 114, 111, 114]⟩)), (.row [(.call 0 0 [(.lit (.s ⟨#[109, 111, 100, 105, 102, 121]⟩))]), (.call 0 0 [(.lit (.s ⟨#[115, 116, 97, 116, 105, 99, 95, 112, 114, 111, 99, 101, 100, 117, 114, 101]⟩))]), (.call 2 0 [(.lit (.s ⟨#[47]⟩)), (.row [(.call 0 0 [(.lit (.s ⟨#[102]⟩))]), (.call 1 0 [(.lit (.i 1))])])])])])])]) (.ok 11 [(.call 12 0 [(.lit (.i 3))]), (.call 10 0 [(.call 2 0 [(.lit (.s ⟨#[115, 121, 110, 116, 97, 120, 95, 101, 114, 114, 111, 114]⟩)), (.row [(.call 1 0 [(.lit (.i 3))])])])])])), (.imp (.call 11 0 [(.call 3 0 [(.lit (.s ⟨#[109, 111, 100, 105, 102, 121]⟩)), (.lit (.s ⟨#[115, 116, 97, 116, 105, 99, 95, 112, 114, 111, 99, 101, 100, 117, 114, 101]⟩)), (.call 2 0 [(.lit (.s ⟨#[47]⟩)), (.row [(.call 0 0 [(.lit (.s ⟨#[102]⟩))]), (.call 1 0 [(.lit (.i 1))])])])]), (.call 10 0 [(.call 2 0 [(.lit (.s ⟨#[112, 101, 114, 109, 105, 115, 115, 105, 111, 110, 95, 101, 114, 114, 111, 114]⟩)), (.row [(.call 0 0 [(.lit (.s ⟨#[109, 111, 100, 105, 102, 121]⟩))]), (.call 0 0 [(.lit (.s ⟨#[115, 116, 97, 116, 105, 99, 95, 112, 114, 111, 99, 101, 100, 117, 114, 101]⟩))]), (.call 2 0 [(.lit (.s ⟨#[47]⟩)), (.row [(.call 0 0 [(.lit (.s ⟨#[102]⟩))]), (.call 1 0 [(.lit (.i 1))])])])])])])]) (.ok 10 [(.call 2 0 [(.lit (.s ⟨#[115, 121, 110, 116, 97, 120, 95, 101, 114, 114, 111, 114]⟩)), (.row [(.call 1 0 [(.lit (.i 3))])])])])), (.imp (.call 11 0 [(.call 3 0 [(.lit (.s ⟨#[109, 111, 100, 105, 102, 121]⟩)), (.lit (.s ⟨#[115, 116, 97, 116, 105, 99, 95, 112, 114, 111, 99, 101, 100, 117, 114, 101]⟩)), (.call 2 0 [(.lit (.s ⟨#[47]⟩)), (.row [(.call 0 0 [(.lit (.s ⟨#[102]⟩))]), (.call 1 0 [(.lit (.i 1))])])])]), (.call 10 0 [(.call 2 0 [(.lit (.s ⟨#[112, 101, 114, 109, 105, 115, 115, 105, 111, 110, 95, 101, 114, 114, 111, 114]⟩)), (.row [(.call 0 0 [(.lit (.s ⟨#[109, 111, 100, 105, 102, 121]⟩))]), (.call 0 0 [(.lit (.s ⟨#[115, 116, 97, 116, 105, 99, 95, 112, 114, 111, 99, 101, 100, 117, 114, 101]⟩))]), (.call 2 0 [(.lit (.s ⟨#[47]⟩)), (.row [(.call 0 0 [(.lit (.s ⟨#[102]⟩))]), (.call 1 0 [(.lit (.i 1))])])])])])])]) (.ok 2 [(.lit (.s ⟨#[115, 121, 110, 116, 97, 120, 95, 101, 114, 114, 111, 114]⟩)), (.row [(.call 1 0 [(.lit (.i 3))])])])), (.imp (.call 11 0 [(.call 3 0 [(.lit (.s ⟨#[109, 111, 100, 105, 102, 121]⟩)), (.lit (.s ⟨#[115, 116, 97, 116, 105, 99, 95, 112, 114, 111, 99, 101, 100, 117, 114, 101]⟩)), (.call 2 0 [(.lit (.s ⟨#[47]⟩)), (.row [(.call 0 0 [(.lit (.s ⟨#[102]⟩))]), (.call 1 0 [(.lit (.i 1))])])])]), (.call 10 0 [(.call 2 0 [(.lit (.s ⟨#[112, 101, 114, 109, 105, 115, 115, 105, 111, 110, 95, 101, 114, 114, 111, 114]⟩)), (.row [(.call 0 0 [(.lit (.s ⟨#[109, 111, 100, 105, 102, 121]⟩))]), (.call 0 0 [(.lit (.s ⟨#[115, 116, 97, 116, 105, 99, 95, 112, 114, 111, 99, 101, 100, 117, 114, 101]⟩))]), (.call 2 0 [(.lit (.s ⟨#[47]⟩)), (.row [(.call 0 0 [(.lit (.s ⟨#[102]⟩))]), (.call 1 0 [(.lit (.i 1))])])])])])])]) (.ok 1 [(.lit (.i 3))])), (.imp (.call 11 0 [(.call 3 0 [(.lit (.s ⟨#[109, 111, 100, 105, 102, 121]⟩)), (.lit (.s ⟨#[115, 116, 97, 116, 105, 99, 95, 112, 114, 111, 99, 101, 100, 117, 114, 101]⟩)), (.call 2 0 [(.lit (.s ⟨#[47]⟩)), (.row [(.call 0 0 [(.lit (.s ⟨#[102]⟩))]), (.call 1 0 [(.lit (.i 1))])])])]), (.call 10 0 [(.call 2 0 [(.lit (.s ⟨#[112, 101, 114, 109, 105, 115, 115, 105, 111, 110, 95, 101, 114, 114, 111, 114]⟩)), (.row [(.call 0 0 [(.lit (.s ⟨#[109, 111, 100, 105, 102, 121]⟩))]), (.call 0 0 [(.lit (.s ⟨#[115, 116, 97, 116, 105, 99, 95, 112, 114, 111, 99, 101, 100, 117, 114, 101]⟩))]), (.call 2 0 [(.lit (.s ⟨#[47]⟩)), (.row [(.call 0 0 [(.lit (.s ⟨#[102]⟩))]), (.call 1 0 [(.lit (.i 1))])])])])])])]) (.ok 12 [(.lit (.i 3))])), (.ok 11 [(.call 3 0 [(.lit (.s ⟨#[109, 111, 100, 105, 102, 121]⟩)), (.lit (.s ⟨#[115, 116, 97, 116, 105, 99, 95, 112, 114, 111, 99, 101, 100, 117, 114, 101]⟩)), (.call 2 0 [(.lit (.s ⟨#[47]⟩)), (.row [(.call 0 0 [(.lit (.s ⟨#[102]⟩))]), (.call 1 0 [(.lit (.i 1))])])])]), (.call 10 0 [(.call 2 0 [(.lit (.s ⟨#[112, 101, 114, 109, 105, 115, 115, 105, 111, 110, 95, 101, 114, 114, 111, 114]⟩)), (.row [(.call 0 0 [(.lit (.s ⟨#[109, 111, 100, 105, 102, 121]⟩))]), (.call 0 0 [(.lit (.s ⟨#[115, 116, 97, 116, 105, 99, 95, 112, 114, 111, 99, 101, 100, 117, 114, 101]⟩))]), (.call 2 0 [(.lit (.s ⟨#[47]⟩)), (.row [(.call 0 0 [(.lit (.s ⟨#[102]⟩))]), (.call 1 0 [(.lit (.i 1))])])])])])])]), (.ok 10 [(.call 2 0 [(.lit (.s ⟨#[112, 101, 114, 109, 105, 115, 115, 105, 111, 110, 95, 101, 114, 114, 111, 114]⟩)), (.row [(.call 0 0 [(.lit (.s ⟨#[109, 111, 100, 105, 102, 121]⟩))]), (.call 0 0 [(.lit (.s ⟨#[115, 116, 97, 116, 105, 99, 95, 112, 114, 111, 99, 101, 100, 117, 114, 101]⟩))]), (.call 2 0 [(.lit (.s ⟨#[47]⟩)), (.row [(.call 0 0 [(.lit (.s ⟨#[102]⟩))]), (.call 1 0 [(.lit (.i 1))])])])])])]), (.ok 2 [(.lit (.s ⟨#[112, 101, 114, 109, 105, 115, 115, 105, 111, 110, 95, 101, 114, 114, 111, 114]⟩)), (.row [(.call 0 0 [(.lit (.s ⟨#[109, 111, 100, 105, 102, 121]⟩))]), (.call 0 0 [(.lit (.s ⟨#[115, 116, 97, 116, 105, 99, 95, 112, 114, 111, 99, 101, 100, 117, 114, 101]⟩))]), (.call 2 0 [(.lit (.s ⟨#[47]⟩)), (.row [(.call 0 0 [(.lit (.s ⟨#[102]⟩))]), (.call 1 0 [(.lit (.i 1))])])])])]), (.ok 2 [(.lit (.s ⟨#[47]⟩)), (.row [(.call 0 0 [(.lit (.s ⟨#[102]⟩))]), (.call 1 0 [(.lit (.i 1))])])]), (.ok 1 [(.lit (.i 1))]), (.ok 0 [(.lit (.s ⟨#[102]⟩))]), (.ok 0 [(.lit (.s ⟨#[115, 116, 97, 116, 105, 99, 95, 112, 114, 111, 99, 101, 100, 117, 114, 101]⟩))]), (.ok 0 [(.lit (.s ⟨#[109, 111, 100, 105, 102, 121]⟩))])] (.leaf [(.and (.and (.and (.and (.and (.and (.and (.and (.and (.and (.and (.and (.and (.and (.and (.and (.call 11 0 [(.call 3 0 [(.lit (.s ⟨#[109, 111, 100, 105, 102, 121]⟩)), (.lit (.s ⟨#[115, 116, 97, 116, 105, 99, 95, 112, 114, 111, 99, 101, 100, 117, 114, 101]⟩)), (.call 2 0 [(.lit (.s ⟨#[47]⟩)), (.row [(.call 0 0 [(.lit (.s ⟨#[102]⟩))]), (.call 1 0 [(.lit (.i 1))])])])]), (.call 10 0 [(.call 2 0 [(.lit (.s ⟨#[112, 101, 114, 109, 105, 115, 115, 105, 111, 110, 95, 101, 114, 114, 111, 114]⟩)), (.row [(.call 0 0 [(.lit (.s ⟨#[109, 111, 100, 105, 102, 121]⟩))]), (.call 0 0 [(.lit (.s ⟨#[115, 116, 97, 116, 105, 99, 95, 112, 114, 111, 99, 101, 100, 117, 114, 101]⟩))]), (.call 2 0 [(.lit (.s ⟨#[47]⟩)), (.row [(.call 0 0 [(.lit (.s ⟨#[102]⟩))]), (.call 1 0 [(.lit (.i 1))])])])])])])]) (.call 11 0 [(.call 12 0 [(.lit (.i 3))]), (.call 10 0 [(.call 2 0 [(.lit (.s ⟨#[115, 121, 110, 116, 97, 120, 95, 101, 114, 114, 111, 114]⟩)), (.row [(.call 1 0 [(.lit (.i 3))])])])])])) (.call 5 1 [(.call 2 0 [(.lit (.s ⟨#[101, 114, 114, 111, 114]⟩)), (.row [(.call 0 0 [(.lit (.s ⟨#[97]⟩))]), (.call 4 0 [(.lit (.i 0))])])])])) (.call 11 0 [(.call 5 0 [(.call 2 0 [(.lit (.s ⟨#[101, 114, 114, 111, 114]⟩)), (.row [(.call 0 0 [(.lit (.s ⟨#[97]⟩))]), (.call 4 0 [(.lit (.i 0))])])])]), (.call 0 0 [(.lit (.s ⟨#[97]⟩))])])) (.eq (.call 6 0 [(.call 0 0 [(.lit (.s ⟨#[97, 98, 99]⟩))])]) (.lit (.s ⟨#[97, 98, 99]⟩)))) (.call 11 0 [(.call 6 1 [(.call 0 0 [(.lit (.s ⟨#[97, 98, 99]⟩))])]), (.call 4 0 [(.lit (.i 0))])])) (.call 6 2 [(.call 0 0 [(.lit (.s ⟨#[97, 98, 99]⟩))])])) (.call 11 0 [(.call 6 1 [(.call 1 0 [(.lit (.i 3))])]), (.call 10 0 [(.call 2 0 [(.lit (.s ⟨#[116, 121, 112, 101, 95, 101, 114, 114, 111, 114]⟩)), (.row [(.call 0 0 [(.lit (.s ⟨#[97, 116, 111, 109]⟩))]), (.call 1 0 [(.lit (.i 3))])])])])])) (.not (.call 6 2 [(.call 1 0 [(.lit (.i 3))])]))) (.call 11 0 [(.call 7 1 [(.call 1 0 [(.lit (.i 256))])]), (.call 10 0 [(.call 2 0 [(.lit (.s ⟨#[114, 101, 112, 114, 101, 115, 101, 110, 116, 97, 116, 105, 111, 110, 95, 101, 114, 114, 111, 114]⟩)), (.row [(.call 0 0 [(.lit (.s ⟨#[99, 104, 97, 114, 97, 99, 116, 101, 114, 95, 99, 111, 100, 101]⟩))])])])])])) (.not (.call 7 2 [(.call 1 0 [(.lit (.i 256))])]))) (.call 11 0 [(.call 8 1 [(.call 2 0 [(.lit (.s ⟨#[46]⟩)), (.row [(.call 0 0 [(.lit (.s ⟨#[97]⟩))]), (.call 2 0 [(.lit (.s ⟨#[46]⟩)), (.row [(.call 0 0 [(.lit (.s ⟨#[98]⟩))]), (.call 4 0 [(.lit (.i 0))])])])])])]), (.call 10 0 [(.call 0 0 [(.lit (.s ⟨#[105, 110, 115, 116, 97, 110, 116, 105, 97, 116, 105, 111, 110, 95, 101, 114, 114, 111, 114]⟩))])])])) (.not (.call 8 2 [(.call 2 0 [(.lit (.s ⟨#[46]⟩)), (.row [(.call 0 0 [(.lit (.s ⟨#[97]⟩))]), (.call 2 0 [(.lit (.s ⟨#[46]⟩)), (.row [(.call 0 0 [(.lit (.s ⟨#[98]⟩))]), (.call 4 0 [(.lit (.i 0))])])])])])]))) (.eq (.call 9 0 [(.call 2 0 [(.lit (.s ⟨#[47]⟩)), (.row [(.call 0 0 [(.lit (.s ⟨#[102]⟩))]), (.call 1 0 [(.lit (.i 2))])])])]) (.lit (.s ⟨#[102]⟩)))) (.eq (.call 9 1 [(.call 2 0 [(.lit (.s ⟨#[47]⟩)), (.row [(.call 0 0 [(.lit (.s ⟨#[102]⟩))]), (.call 1 0 [(.lit (.i 2))])])])]) (.lit (.i 2)))) (.call 11 0 [(.call 9 2 [(.call 2 0 [(.lit (.s ⟨#[47]⟩)), (.row [(.call 0 0 [(.lit (.s ⟨#[102]⟩))]), (.call 1 0 [(.lit (.i 2))])])])]), (.call 4 0 [(.lit (.i 0))])])) (.call 9 3 [(.call 2 0 [(.lit (.s ⟨#[47]⟩)), (.row [(.call 0 0 [(.lit (.s ⟨#[102]⟩))]), (.call 1 0 [(.lit (.i 2))])])])]))])))))))))
set_option maxRecDepth 100000 in
theorem code_law06_awake (g0 g1 g2 g3 g4 g5 g6 g7 g8 g9 g10 g11 g12 : List D → Option (List D)) : ∀ cd, Try.f15.body = some cd → treeOf Try.prog [(q0u, g0), (q1b, g1), (q0t, g2), (q0p, g3), (q1l, g4), (q10, g5), (q0v, g6), (q18, g7), (q16, g8), (q0m, g9), (q0z, g10), (q17, g11), (q11, g12)] ann_law06_awake q1k Try.f15 cd = tree_law06_awake := by
  intro cd h
  injection h with h
  subst h
  kernel_rfl
theorem fok_law06_awake {g0 g1 g2 g3 g4 g5 g6 g7 g8 g9 g10 g11 g12 : List D → Option (List D)} {g : List D → Option (List D)} (h0 : FOk q0u g0) (h1 : FOk q1b g1) (h2 : FOk q0t g2) (h3 : FOk q0p g3) (h4 : FOk q1l g4) (h5 : FOk q10 g5) (h6 : FOk q0v g6) (h7 : FOk q18 g7) (h8 : FOk q16 g8) (h9 : FOk q0m g9) (h10 : FOk q0z g10) (h11 : FOk q17 g11) (h12 : FOk q11 g12) (h : ∀ ds outs, WfA q1k.ars ds → g ds = some outs → tree_law06_awake.go (tblS [(q0u, g0), (q1b, g1), (q0t, g2), (q0p, g3), (q1l, g4), (q10, g5), (q0v, g6), (q18, g7), (q16, g8), (q0m, g9), (q0z, g10), (q17, g11), (q11, g12)]) (fun o => o = outs) ds fun _ _ => False) : FOk q1k g :=
  q0f ann_law06_awake Try.f15 _ (.cons h0 (.cons h1 (.cons h2 (.cons h3 (.cons h4 (.cons h5 (.cons h6 (.cons h7 (.cons h8 (.cons h9 (.cons h10 (.cons h11 (.cons h12 .nil))))))))))))) rfl rfl enter_law06_awake (by decide) fun ds outs hw hg => by rw [code_law06_awake g0 g1 g2 g3 g4 g5 g6 g7 g8 g9 g10 g11 g12 _ rfl]; exact h ds outs hw hg

end Go.Proofs.Ytloekfnlidclcaa


namespace Go.Proofs.Ytloekfnlidclcaa
open Go.RowKit
set_option linter.unusedVariables false
set_option maxRecDepth 100000

def q0x : Ct := ⟨51, [.val (.int .i64)], [(.st 23, false)], [], none⟩
theorem q36 (args : Array Value) (w : World) : (callFunc q0x.f args).run Try.prog w = .ok (.enter q0x.f args) w := by kernel_rfl
def q27 : Ann := ⟨[0, 2, 3, 4, 8], [(3, ⟨[(4, .int .i64, false)], [3], [6, 7, 8, 11, 12, 13, 14, 9, 10], []⟩)]⟩
def q1p : Tree := (.need [(.ok 0 [(.lit (.s ⟨#[91, 93]⟩))])] (.loop 3 1 [(.lit (.i 0)), (.call 0 0 [(.lit (.s ⟨#[91, 93]⟩))])] (.br (.lt (.tok 1) (.tok 0)) (.need [(.ok 2 [(.lit (.s ⟨#[46]⟩)), (.row [(.call 1 0 [(.lit (.i 1))]), (.tok 2)])]), (.ok 1 [(.lit (.i 1))])] (.need [(.rng .i64 (.add (.tok 1) (.lit (.i 1))))] (.back 3 [(.add (.tok 1) (.lit (.i 1))), (.call 2 0 [(.lit (.s ⟨#[46]⟩)), (.row [(.call 1 0 [(.lit (.i 1))]), (.tok 2)])])]))) (.leaf [(.tok 2)]))))
set_option maxRecDepth 100000 in
theorem code_law06_BallsKnown_1 (g0 g1 g2 : List D → Option (List D)) : ∀ cd, Try.f51.body = some cd → treeOf Try.prog [(q0u, g0), (q1b, g1), (q0t, g2)] q27 q0x Try.f51 cd = q1p := by
  intro cd h
  injection h with h
  subst h
  kernel_rfl
theorem fok_law06_BallsKnown_1 {g0 g1 g2 : List D → Option (List D)} {g : List D → Option (List D)} (h0 : FOk q0u g0) (h1 : FOk q1b g1) (h2 : FOk q0t g2) (h : ∀ ds outs, WfA q0x.ars ds → g ds = some outs → q1p.go (tblS [(q0u, g0), (q1b, g1), (q0t, g2)]) (fun o => o = outs) ds fun _ _ => False) : FOk q0x g :=
  q0f q27 Try.f51 _ (.cons h0 (.cons h1 (.cons h2 .nil))) rfl rfl q36 (by decide) fun ds outs hw hg => by rw [code_law06_BallsKnown_1 g0 g1 g2 _ rfl]; exact h ds outs hw hg

def q1h : Ct := ⟨27, [.val (.st 23)], [(.st 23, false)], [], none⟩
theorem enter_balls_Uninst (args : Array Value) (w : World) : (callFunc q1h.f args).run Try.prog w = .ok (.enter q1h.f args) w := by kernel_rfl
def ann_balls_Uninst : Ann := ⟨[0, 1, 2], []⟩
def q26 : Tree := (.need [(.ok 0 [(.tok 0), (.lit (.s ⟨#[117, 110, 105, 110, 115, 116, 97, 110, 116, 105, 97, 116, 105, 111, 110, 95, 101, 114, 114, 111, 114]⟩)), (.lit (.r []))])] (.leaf [(.call 0 0 [(.tok 0), (.lit (.s ⟨#[117, 110, 105, 110, 115, 116, 97, 110, 116, 105, 97, 116, 105, 111, 110, 95, 101, 114, 114, 111, 114]⟩)), (.lit (.r []))])]))
set_option maxRecDepth 100000 in
theorem code_balls_Uninst (g0 : List D → Option (List D)) : ∀ cd, Try.f27.body = some cd → treeOf Try.prog [(q09, g0)] ann_balls_Uninst q1h Try.f27 cd = q26 := by
  intro cd h
  injection h with h
  subst h
  kernel_rfl
theorem fok_balls_Uninst {g0 : List D → Option (List D)} {g : List D → Option (List D)} (h0 : FOk q09 g0) (h : ∀ ds outs, WfA q1h.ars ds → g ds = some outs → q26.go (tblS [(q09, g0)]) (fun o => o = outs) ds fun _ _ => False) : FOk q1h g :=
  q0f ann_balls_Uninst Try.f27 _ (.cons h0 .nil) rfl rfl enter_balls_Uninst (by decide) fun ds outs hw hg => by rw [code_balls_Uninst g0 _ rfl]; exact h ds outs hw hg

def q13 : Ct := ⟨34, [.val (.str)], [(.st 23, false)], [], none⟩
theorem enter_balls_Evaluation (args : Array Value) (w : World) : (callFunc q13.f args).run Try.prog w = .ok (.enter q13.f args) w := by kernel_rfl
def q2n : Ann := ⟨[0, 2], []⟩
def q1t : Tree := (.need [(.ok 0 [(.lit (.s ⟨#[101, 118, 97, 108, 117, 97, 116, 105, 111, 110, 95, 101, 114, 114, 111, 114]⟩)), (.tok 0)])] (.leaf [(.call 0 0 [(.lit (.s ⟨#[101, 118, 97, 108, 117, 97, 116, 105, 111, 110, 95, 101, 114, 114, 111, 114]⟩)), (.tok 0)])]))
set_option maxRecDepth 100000 in
theorem code_balls_Evaluation (g0 : List D → Option (List D)) : ∀ cd, Try.f34.body = some cd → treeOf Try.prog [(q0n, g0)] q2n q13 Try.f34 cd = q1t := by
  intro cd h
  injection h with h
  subst h
  kernel_rfl
theorem fok_balls_Evaluation {g0 : List D → Option (List D)} {g : List D → Option (List D)} (h0 : FOk q0n g0) (h : ∀ ds outs, WfA q13.ars ds → g ds = some outs → q1t.go (tblS [(q0n, g0)]) (fun o => o = outs) ds fun _ _ => False) : FOk q13 g :=
  q0f q2n Try.f34 _ (.cons h0 .nil) rfl rfl enter_balls_Evaluation (by decide) fun ds outs hw hg => by rw [code_balls_Evaluation g0 _ rfl]; exact h ds outs hw hg

end Go.Proofs.Ytloekfnlidclcaa


namespace Go.Proofs.Ytloekfnlidclcaa
open Go.RowKit
set_option linter.unusedVariables false
set_option linter.unusedSimpArgs false

theorem int_i (n : Int) : (D.i n).int = n := rfl
theorem tt_b (x : Bool) : (D.b x).tt = x := by cases x <;> rfl
theorem rs_r (l : List D) : (D.r l).rs = l := rfl
theorem fs_a (l : List D) : (D.a l).fs = l := rfl
theorem str_s (x : ByteArray) : (D.s x).str = x := rfl
theorem i_inj (m n : Int) : (D.i m = D.i n) = (m = n) := by simp
theorem b_inj (m n : Bool) : (D.b m = D.b n) = (m = n) := by simp
theorem s_inj (m n : ByteArray) : (D.s m = D.s n) = (m = n) := by simp
theorem q03 {S : Nat → List D → Option (List D)} {R : List D → Prop} {ns : List X} {t : Tree} {l : List D} {B : Nat → List D → Prop} : (Tree.need ns t).go S R l B = (allSay (evl S l) ns ∧ t.go S R l B) := rfl
theorem go_br {S : Nat → List D → Option (List D)} {R : List D → Prop} {x : X} {t e : Tree} {l : List D} {B : Nat → List D → Prop} : (Tree.br x t e).go S R l B = (((x.ev (evl S l)).tt = true → t.go S R l B) ∧ ((x.ev (evl S l)).tt = false → e.go S R l B)) := rfl
theorem q04 {S : Nat → List D → Option (List D)} {R : List D → Prop} {xs : List X} {l : List D} {B : Nat → List D → Prop} : (Tree.leaf xs).go S R l B = R (X.evs (evl S l) xs) := rfl
theorem q05 {S : Nat → List D → Option (List D)} {R : List D → Prop} {id : Nat} {xs : List X} {l : List D} {B : Nat → List D → Prop} : (Tree.back id xs).go S R l B = B id (X.evs (evl S l) xs) := rfl
theorem go_loop {S : Nat → List D → Option (List D)} {R : List D → Prop} {id n : Nat} {init : List X} {body : Tree} {l : List D} {B : Nat → List D → Prop} : (Tree.loop id n init body).go S R l B = ∃ (I : List D → Prop) (μ : List D → Nat), I (X.evs (evl S l) init) ∧
      ∀ st, st.length = init.length → I st → body.go S R (l.take n ++ st) (updB B id fun st' => I st' ∧ μ st' < μ st) := rfl
theorem rng64 {n : Int} : rngB .i64 n = true ↔ -9223372036854775808 ≤ n ∧ n ≤ 9223372036854775807 := by simp [rngB]

section
variable {α : Type} [Inhabited α]
theorem get_map (e : α → D) {l : List α} {i : Nat} (h : i < l.length) : (l.map e).getD i .u = e (l.getD i default) := by
  simp [List.getD_eq_getElem?_getD, h]
theorem get_n (e : α → D) {l : List α} {i : Nat} (h : i < l.length) : (D.r (l.map e)).get (i : Int) = e (l.getD i default) := get_map e (by simpa using h)
omit [Inhabited α] in
theorem of_all {e : α → D} {P : α → Prop} {l : List D} (h : ∀ x ∈ l, ∃ a, x = e a ∧ P a) : ∃ m : List α, l = m.map e ∧ ∀ a ∈ m, P a := by
  induction l with
  | nil => exact ⟨[], rfl, fun a ha => by cases ha⟩
  | cons x l ih =>
    obtain ⟨a, rfl, ha⟩ := h x List.mem_cons_self
    obtain ⟨m, rfl, hm⟩ := ih fun y hy => h y (List.mem_cons_of_mem _ hy)
    refine ⟨a :: m, rfl, fun b hb => ?_⟩
    rcases List.mem_cons.1 hb with rfl | hb
    · exact ha
    · exact hm b hb
theorem getD_mem {l : List α} {i : Nat} (h : i < l.length) : l.getD i default ∈ l := by
  rw [List.getD_eq_getElem?_getD, List.getElem?_eq_getElem h]
  exact List.getElem_mem h
theorem take_snoc {l : List α} {k : Nat} (h : k < l.length) : l.take (k + 1) = l.take k ++ [l.getD k default] := by
  rw [List.take_add_one, List.getElem?_eq_getElem h]
  simp [List.getD_eq_getElem?_getD, h]
end

theorem upto_succ {P : Nat → Prop} {k : Nat} (h : ∀ j, j < k → P j) (hk : P k) : ∀ j, j < k + 1 → P j := fun j hj => by
  rcases Nat.lt_succ_iff_lt_or_eq.1 hj with h1 | h1
  · exact h j h1
  · exact h1 ▸ hk

theorem wfL2 {ds : List D} {t u : Ty} (h : WfL ds [t, u]) : ∃ a b, ds = [a, b] ∧ Wf a t ∧ Wf b u := by
  match ds, h with
  | [], h => cases h
  | [a], h => obtain ⟨t, ts, e, h1, h2⟩ := h; rw [h2] at e; cases e
  | [a, b], h =>
    obtain ⟨t, ts, e, h1, t2, ts2, e2, h2, -⟩ := h
    injection e with e e'
    subst e e'
    injection e2 with e2 e2'
    subst e2
    exact ⟨a, b, rfl, h1, h2⟩
  | a :: b :: c :: l, h => obtain ⟨t, ts, e, h1, t2, ts2, e2, h2, t3, ts3, e3, -⟩ := h; subst e2 e3; cases e
theorem wfL_cons {ds : List D} {t : Ty} {ts : List Ty} (h : WfL ds (t :: ts)) : ∃ a r, ds = a :: r ∧ Wf a t ∧ WfL r ts := by
  match ds, h with
  | [], h => cases h
  | a :: r, h =>
    obtain ⟨t, ts, e, h1, h2⟩ := h
    injection e with e e'
    subst e e'
    exact ⟨a, r, rfl, h1, h2⟩
theorem Wf.st_of {d : D} {S : TypeId} {fs : List Ty} (h : Wf d (.st S)) (hf : flds S = some fs) : ∃ ds, d = .a ds ∧ WfL ds fs := by
  obtain ⟨ds, fs', rfl, hf', hl⟩ := h.st
  rw [hf] at hf'
  injection hf' with hf'
  subst hf'
  exact ⟨ds, rfl, hl⟩
theorem Wf.row_of {d : D} {E : TypeId} {te : Ty} (h : Wf d (.row E)) (hE : tyOf E = some te) : ∃ l, d = .r l ∧ l.length ≤ LM te ∧ ∀ x ∈ l, Wf x te := by
  obtain ⟨l, te', rfl, hE', h1, h2⟩ := h.row
  rw [hE] at hE'
  injection hE' with hE'
  subst hE'
  exact ⟨l, rfl, h1, h2⟩
end Go.Proofs.Ytloekfnlidclcaa


namespace Go.Proofs.Ytloekfnlidclcaa
open Go.RowKit
set_option linter.unusedVariables false

abbrev i64 (n : Int) : Prop := -9223372036854775808 ≤ n ∧ n ≤ 9223372036854775807
theorem wfI {d : D} (h : Wf d (.int .i64)) : ∃ n, d = .i n ∧ i64 n := by
  obtain ⟨n, rfl, hn⟩ := h.int
  exact ⟨n, rfl, rng64.1 hn⟩
end Go.Proofs.Ytloekfnlidclcaa


namespace Go.Proofs.Ytloekfnlidclcaa
open Go.RowKit
set_option linter.unusedVariables false
set_option linter.unusedSimpArgs false

inductive Te where
  | mk (k n : Int) (s : ByteArray) (l : List Te)
instance : Inhabited Te := ⟨.mk 0 0 ⟨#[]⟩ []⟩
def Te.k : Te → Int | .mk k _ _ _ => k
def Te.n : Te → Int | .mk _ n _ _ => n
def Te.s : Te → ByteArray | .mk _ _ s _ => s
def Te.l : Te → List Te | .mk _ _ _ l => l

mutual
theorem Te.ind0 {P : Te → Prop} (h : ∀ k n s l, (∀ t ∈ l, P t) → P (.mk k n s l)) : ∀ t, P t
  | .mk k n s l => h k n s l (Te.inds h l)
theorem Te.inds {P : Te → Prop} (h : ∀ k n s l, (∀ t ∈ l, P t) → P (.mk k n s l)) : ∀ (l : List Te), ∀ t ∈ l, P t
  | [], _, ht => by cases ht
  | u :: l, t, ht => by
    exact (List.mem_cons.1 ht).elim (fun e => e ▸ Te.ind0 h u) fun h' => Te.inds h l t h'
end
theorem Te.ind {P : Te → Prop} (h : ∀ k n s l, (∀ t ∈ l, P t) → P (.mk k n s l)) (t : Te) : P t := Te.ind0 h t

mutual
def eT : Te → D
  | .mk k n s l => .a [.i k, .i n, .s s, .r (eTs l)]
def eTs : List Te → List D
  | [] => []
  | t :: l => eT t :: eTs l
end
theorem eTs_map : ∀ l, eTs l = l.map eT
  | [] => rfl
  | t :: l => by rw [eTs, eTs_map l, List.map_cons]
theorem eT_mk (k n : Int) (s : ByteArray) (l : List Te) : eT (.mk k n s l) = .a [.i k, .i n, .s s, .r (l.map eT)] := by rw [eT, eTs_map]
mutual
def dT : D → Te
  | .a [.i k, .i n, .s s, .r l] => .mk k n s (dTs l)
  | _ => .mk 0 0 ⟨#[]⟩ []
def dTs : List D → List Te
  | [] => []
  | d :: l => dT d :: dTs l
end
mutual
theorem dT_eT : ∀ t, dT (eT t) = t
  | .mk k n s l => by simp only [eT, dT, dTs_eTs l]
theorem dTs_eTs : ∀ l, dTs (eTs l) = l
  | [] => rfl
  | t :: l => by simp only [eTs, dTs, dT_eT t, dTs_eTs l]
end
theorem eT_inj {t u : Te} (h : eT t = eT u) : t = u := by rw [← dT_eT t, h, dT_eT u]
theorem eT_eq (t u : Te) : (eT t = eT u) = (t = u) := propext ⟨eT_inj, fun h => h ▸ rfl⟩
theorem eT_0 (t : Te) : (eT t).fld 0 = .i t.k := by cases t; rfl
theorem eT_1 (t : Te) : (eT t).fld 1 = .i t.n := by cases t; rfl
theorem eT_2 (t : Te) : (eT t).fld 2 = .s t.s := by cases t; rfl
theorem eT_3 (t : Te) : (eT t).fld 3 = .r (t.l.map eT) := by cases t; rw [eT_mk]; rfl
theorem eT_snoc (k n : Int) (s : ByteArray) (l : List Te) (x : Te) : D.a ((eT (.mk k n s l)).fs.set 3 (.r (l.map eT ++ [eT x]))) = eT (.mk k n s (l ++ [x])) := by
  rw [eT_mk, eT_mk]
  simp [D.fs]
def zT : Te := .mk 0 0 ⟨#[]⟩ []
theorem eT_z : D.a [.i 0, .i 0, .s ⟨#[]⟩, .r []] = eT zT := rfl

mutual
def szT : Te → Nat
  | .mk _ _ _ l => szTs l + 1
def szTs : List Te → Nat
  | [] => 0
  | t :: l => szT t + szTs l
end
theorem szTs_mem {t : Te} : ∀ {l : List Te}, t ∈ l → szT t ≤ szTs l
  | u :: l, h => by
    rcases List.mem_cons.1 h with rfl | h
    · rw [szTs]; omega
    · have := szTs_mem h; rw [szTs]; omega
theorem szT_arg {t u : Te} (h : u ∈ t.l) : szT u < szT t := by
  cases t
  have := szTs_mem h
  rw [szT]
  exact Nat.lt_succ_of_le this
theorem szTs_app : ∀ (l m : List Te), szTs (l ++ m) = szTs l + szTs m
  | [], m => by simp [szTs]
  | t :: l, m => by rw [List.cons_append, szTs, szTs, szTs_app l m]; omega
theorem szTs_snoc {l : List Te} {k : Nat} (h : k < l.length) : szTs (l.take (k + 1)) = szTs (l.take k) + szT (l.getD k default) := by
  rw [take_snoc h, szTs_app]
  simp [szTs]
theorem szT_l (t : Te) : szT t = szTs t.l + 1 := by cases t; rw [szT]; rfl

mutual
def okT : Te → Prop
  | .mk k n s l => i64 k ∧ i64 n ∧ s.size ≤ LIM ∧ l.length ≤ 2513169434843 ∧ okTs l
def okTs : List Te → Prop
  | [] => True
  | t :: l => okT t ∧ okTs l
end
theorem okTs_iff : ∀ {l : List Te}, okTs l ↔ ∀ t ∈ l, okT t
  | [] => ⟨fun _ t h => (by cases h), fun _ => trivial⟩
  | t :: l => by rw [okTs, okTs_iff]; simp
theorem okT_mk {k n : Int} {s : ByteArray} {l : List Te} : okT (.mk k n s l) ↔ i64 k ∧ i64 n ∧ s.size ≤ LIM ∧ l.length ≤ 2513169434843 ∧ ∀ t ∈ l, okT t := by rw [okT, okTs_iff]
theorem okT.k {t : Te} (h : okT t) : i64 t.k := by cases t; exact (okT_mk.1 h).1
theorem okT.n {t : Te} (h : okT t) : i64 t.n := by cases t; exact (okT_mk.1 h).2.1
theorem okT.s {t : Te} (h : okT t) : t.s.size ≤ LIM := by cases t; exact (okT_mk.1 h).2.2.1
theorem okT.l {t : Te} (h : okT t) : t.l.length ≤ 2513169434843 := by cases t; exact (okT_mk.1 h).2.2.2.1
theorem wfT_all (d : D) : (Wf d T_Term → ∃ t, d = eT t ∧ okT t) ∧ (Wf d T_Terms → ∃ l : List Te, d = .r (l.map eT) ∧ l.length ≤ 2513169434843 ∧ ∀ t ∈ l, okT t) := by
  have noS : ∀ {d : D}, Wf d T_Term → ∃ l, d = .a l := fun h => let ⟨l, e, _⟩ := h.st_of (fs := [.int .i64, .int .i64, .str, T_Terms]) rfl; ⟨l, e⟩
  have noR : ∀ {d : D}, Wf d T_Terms → ∃ l, d = .r l := fun h => let ⟨l, e, _⟩ := h.row_of (te := T_Term) rfl; ⟨l, e⟩
  induction d using D.ind with
  | hu => exact ⟨fun h => (by obtain ⟨_, e⟩ := noS h; cases e), fun h => (by obtain ⟨_, e⟩ := noR h; cases e)⟩
  | hi n => exact ⟨fun h => (by obtain ⟨_, e⟩ := noS h; cases e), fun h => (by obtain ⟨_, e⟩ := noR h; cases e)⟩
  | hb n => exact ⟨fun h => (by obtain ⟨_, e⟩ := noS h; cases e), fun h => (by obtain ⟨_, e⟩ := noR h; cases e)⟩
  | hs n => exact ⟨fun h => (by obtain ⟨_, e⟩ := noS h; cases e), fun h => (by obtain ⟨_, e⟩ := noR h; cases e)⟩
  | hm n => exact ⟨fun h => (by obtain ⟨_, e⟩ := noS h; cases e), fun h => (by obtain ⟨_, e⟩ := noR h; cases e)⟩
  | ha l ih =>
    refine ⟨fun h => ?_, fun h => (by obtain ⟨_, e⟩ := noR h; cases e)⟩
    obtain ⟨ds, e, hl⟩ := h.st_of (fs := [.int .i64, .int .i64, .str, T_Terms]) rfl
    injection e with e
    subst e
    obtain ⟨d0, r, rfl, h0, hl⟩ := wfL_cons hl
    obtain ⟨d1, r, rfl, h1, hl⟩ := wfL_cons hl
    obtain ⟨d2, d3, rfl, h2, h3⟩ := wfL2 hl
    obtain ⟨k, rfl, hk⟩ := wfI h0
    obtain ⟨n, rfl, hn⟩ := wfI h1
    obtain ⟨s, rfl, hs⟩ := h2.str
    obtain ⟨ts, rfl, h4, h5⟩ := (ih d3 (by simp)).2 h3
    exact ⟨.mk k n s ts, (eT_mk _ _ _ _).symm, okT_mk.2 ⟨hk, hn, hs, h4, h5⟩⟩
  | hr l ih =>
    refine ⟨fun h => (by obtain ⟨_, e⟩ := noS h; cases e), fun h => ?_⟩
    obtain ⟨l', e, h1, h2⟩ := h.row_of (te := T_Term) rfl
    injection e with e
    subst e
    obtain ⟨m, rfl, h3⟩ := of_all (e := eT) (P := okT) fun x hx => (ih x hx).1 (h2 x hx)
    have e : LM T_Term = 2513169434843 := by kernel_rfl
    rw [e, List.length_map] at h1
    exact ⟨m, rfl, h1, h3⟩
theorem wfT {d : D} (h : Wf d T_Term) : ∃ t, d = eT t ∧ okT t := (wfT_all d).1 h
theorem wfTs {d : D} (h : Wf d T_Terms) : ∃ l : List Te, d = .r (l.map eT) ∧ l.length ≤ 2513169434843 ∧ ∀ t ∈ l, okT t := (wfT_all d).2 h

def nodeT (t : Te) : Bool :=
  if t.k = 0 then decide (0 ≤ t.n) && (decide (t.n ≤ 1099511627776) && (decide (t.s = ⟨#[]⟩) && decide ((t.l.length : Int) = 0)))
  else if t.k = 1 then decide (t.s = ⟨#[]⟩) && decide ((t.l.length : Int) = 0)
  else if t.k = 2 then decide (t.n = 0) && (decide ((t.s.size : Int) ≤ 100) && decide ((t.l.length : Int) = 0))
  else if t.k = 3 then decide (t.n = 0) && (decide ((t.s.size : Int) ≤ 100) && (decide (1 ≤ (t.l.length : Int)) && decide ((t.l.length : Int) ≤ 8)))
  else false
mutual
def nodesT : Te → Bool
  | .mk k n s l => nodeT (.mk k n s l) && nodesTs l
def nodesTs : List Te → Bool
  | [] => true
  | t :: l => nodesT t && nodesTs l
end
theorem nodesTs_iff : ∀ {l : List Te}, nodesTs l = true ↔ ∀ t ∈ l, nodesT t = true
  | [] => ⟨fun _ t h => (by cases h), fun _ => rfl⟩
  | t :: l => by rw [nodesTs, Bool.and_eq_true, nodesTs_iff]; simp
theorem nodesT_all (t : Te) : nodesT t = (nodeT t && (List.range t.l.length).all fun i => nodesT (t.l.getD i default)) := by
  cases t with
  | mk k n s l =>
    rw [nodesT]
    congr 1
    rw [Bool.eq_iff_iff, nodesTs_iff, List.all_eq_true]
    refine ⟨fun h i hi => h _ (getD_mem (List.mem_range.1 hi)), fun h t ht => ?_⟩
    obtain ⟨i, hi, rfl⟩ := List.getElem_of_mem ht
    have := h i (List.mem_range.2 hi)
    rwa [show (Te.mk k n s l).l.getD i default = l[i] by simp [Te.l, List.getD_eq_getElem?_getD, List.getElem?_eq_getElem hi]] at this
def validT (t : Te) : Bool := decide (szT t ≤ 2000) && nodesT t

mutual
def idT : Te → Te → Bool
  | .mk k n s l, .mk k' n' s' l' => decide (k = k') && (decide (n = n') && (decide (s = s') && idTs l l'))
def idTs : List Te → List Te → Bool
  | [], [] => true
  | t :: l, u :: m => idT t u && idTs l m
  | _, _ => false
end
mutual
theorem idT_iff : ∀ (t u : Te), idT t u = true ↔ t = u
  | .mk k n s l, .mk k' n' s' l' => by simp [idT, idTs_iff l l']
theorem idTs_iff : ∀ (l m : List Te), idTs l m = true ↔ l = m
  | [], [] => by simp [idTs]
  | t :: l, u :: m => by simp [idTs, idT_iff t u, idTs_iff l m]
  | [], _ :: _ => by simp [idTs]
  | _ :: _, [] => by simp [idTs]
end
instance : DecidableEq Te := fun t u => if h : idT t u = true then .isTrue ((idT_iff t u).1 h) else .isFalse fun e => h ((idT_iff t u).2 e)
end Go.Proofs.Ytloekfnlidclcaa


namespace Go.Proofs.Ytloekfnlidclcaa
open Go.RowKit
set_option linter.unusedVariables false
set_option linter.unusedSimpArgs false

def mT (ds : List D) : Nat := szT (dT (ds.getD 0 .u))
def gCnt : List D → Option (List D)
  | [t, m] => if 1 ≤ m.int then some [.i (min (szT (dT t) : Int) m.int)] else none
  | _ => none
def gTi (f : Te → Int) : List D → Option (List D)
  | [t] => some [.i (f (dT t))]
  | _ => none
def gTb (f : Te → Bool) : List D → Option (List D)
  | [t] => some [.b (f (dT t))]
  | _ => none
def gTT (f : Te → Te) : List D → Option (List D)
  | [t] => some [eT (f (dT t))]
  | _ => none
def gTTb (f : Te → Te → Bool) : List D → Option (List D)
  | [t, v] => some [.b (f (dT t) (dT v))]
  | _ => none

theorem Te_l (k n : Int) (s : ByteArray) (l : List Te) : (Te.mk k n s l).l = l := rfl
theorem get_t {l : List Te} {k : Nat} (h : k < l.length) : (D.r (l.map eT)).get (k : Int) = eT (l.getD k default) := get_n eT h
theorem arg_sz {t : Te} {k : Nat} (h : k < t.l.length) : szT (t.l.getD k default) < szT t := szT_arg (getD_mem h)

theorem ok_ref03_Count : FOk q0q gCnt := fok_cut (m := mT) enter_ref03_Count fun N ih => fok_ref03_Count ih fun ds outs hw hg => by
  obtain ⟨d, r, rfl, hd, e, r', rfl, he, rfl⟩ := hw
  obtain ⟨t, rfl, ht⟩ := wfT hd
  obtain ⟨m, rfl, hm⟩ := wfI he
  simp only [cutM, mT, gCnt, List.getD_cons_zero, dT_eT, int_i, Option.ite_none_right_eq_some, Option.some.injEq] at hg
  obtain ⟨hsz, h1, rfl⟩ := hg
  have hl := ht.l
  rw [q2b, go_loop]
  refine ⟨fun st => ∃ k : Nat, k ≤ t.l.length ∧ st = [.i (min ((szTs (t.l.take k) : Int) + 1) m), .i k], fun st => t.l.length - (st.getD 1 .u).int.toNat, ⟨0, Nat.zero_le _, by simp [X.evs, X.ev, szTs]; omega⟩, ?_⟩
  rintro st - ⟨k, hk, rfl⟩
  rw [go_br]
  refine ⟨fun hlt => ?_, fun hlt => ?_⟩
  · simp only [q03, go_br, q04, q05, allSay, X.says, X.ev, X.evs, evl, tblS, List.getD_cons_zero, List.getD_cons_succ, List.getElem?_cons_zero, List.getElem?_cons_succ, tt_b, int_i, str_s, rs_r, Option.isSome_some, Option.getD_some, decide_eq_true_eq, decide_eq_false_iff_not, List.length_map, i_inj, b_inj, s_inj, rng64, List.take_succ_cons, List.take_zero, List.nil_append, List.cons_append, decide_true, decide_false, Bool.or_true, true_and, and_true, dT_eT, eT_0, eT_1, eT_2, eT_3, eT_eq, eT_z, Bool.and_eq_true] at hlt
    obtain ⟨hkl, hlm⟩ := hlt
    have hkl' : k < t.l.length := by omega
    have ha := arg_sz hkl'
    have hs := szTs_snoc hkl'
    have hmn : 1 ≤ m - min ((szTs (t.l.take k) : Int) + 1) m := by omega
    simp only [q03, go_br, q04, q05, allSay, X.says, X.ev, X.evs, evl, tblS, List.getD_cons_zero, List.getD_cons_succ, List.getElem?_cons_zero, List.getElem?_cons_succ, tt_b, int_i, str_s, rs_r, Option.isSome_some, Option.getD_some, decide_eq_true_eq, decide_eq_false_iff_not, List.length_map, i_inj, b_inj, s_inj, rng64, List.take_succ_cons, List.take_zero, List.nil_append, List.cons_append, decide_true, decide_false, Bool.or_true, true_and, and_true, dT_eT, eT_0, eT_1, eT_2, eT_3, eT_eq, eT_z, get_t hkl', cutM, mT, gCnt, if_pos hmn, if_pos (show szT (t.l.getD k default) < N by omega)]
    refine ⟨⟨by omega, by omega, by omega, by omega⟩, ⟨by omega, by omega⟩, ?_⟩
    rw [updB, if_pos rfl]
    refine ⟨⟨k + 1, by omega, ?_⟩, ?_⟩
    · rw [hs]
      simp
      omega
    · simp [D.int]
      omega
  · simp only [q03, go_br, q04, q05, allSay, X.says, X.ev, X.evs, evl, tblS, List.getD_cons_zero, List.getD_cons_succ, List.getElem?_cons_zero, List.getElem?_cons_succ, tt_b, int_i, str_s, rs_r, Option.isSome_some, Option.getD_some, decide_eq_true_eq, decide_eq_false_iff_not, List.length_map, i_inj, b_inj, s_inj, rng64, List.take_succ_cons, List.take_zero, List.nil_append, List.cons_append, decide_true, decide_false, Bool.or_true, true_and, and_true, dT_eT, eT_0, eT_1, eT_2, eT_3, eT_eq, eT_z, Bool.and_eq_false_iff] at hlt
    simp only [q03, go_br, q04, q05, allSay, X.says, X.ev, X.evs, evl, tblS, List.getD_cons_zero, List.getD_cons_succ, List.getElem?_cons_zero, List.getElem?_cons_succ, tt_b, int_i, str_s, rs_r, Option.isSome_some, Option.getD_some, decide_eq_true_eq, decide_eq_false_iff_not, List.length_map, i_inj, b_inj, s_inj, rng64, List.take_succ_cons, List.take_zero, List.nil_append, List.cons_append, decide_true, decide_false, Bool.or_true, true_and, and_true, dT_eT, eT_0, eT_1, eT_2, eT_3, eT_eq, eT_z]
    have hz := szT_l t
    have : min ((szTs (t.l.take k) : Int) + 1) m = min (szT t : Int) m := by
      rcases hlt with h | h
      · have : k = t.l.length := by omega
        subst this
        rw [List.take_length]
        omega
      · have h2 := szTs_app (t.l.take k) (t.l.drop k)
        rw [List.take_append_drop] at h2
        omega
    rw [this]
theorem ok_ref03_Size : FOk q1c (gTi fun t => min (szT t : Int) 2001) := fok_ref03_Size ok_ref03_Count fun ds outs hw hg => by
  obtain ⟨d, r, rfl, hd, rfl⟩ := hw
  obtain ⟨t, rfl, ht⟩ := wfT hd
  simp only [gTi, dT_eT, Option.some.injEq] at hg
  subst hg
  simp [q2j, q03, go_br, q04, q05, allSay, X.says, X.ev, X.evs, evl, tblS, List.getD_cons_zero, List.getD_cons_succ, List.getElem?_cons_zero, List.getElem?_cons_succ, tt_b, int_i, str_s, rs_r, Option.isSome_some, Option.getD_some, decide_eq_true_eq, decide_eq_false_iff_not, List.length_map, i_inj, b_inj, s_inj, rng64, List.take_succ_cons, List.take_zero, List.nil_append, List.cons_append, decide_true, decide_false, Bool.or_true, true_and, and_true, dT_eT, eT_0, eT_1, eT_2, eT_3, eT_eq, eT_z, gCnt]
theorem ok_ref03_node : FOk q1e (gTb nodeT) := fok_ref03_node fun ds outs hw hg => by
  obtain ⟨d, r, rfl, hd, rfl⟩ := hw
  obtain ⟨t, rfl, ht⟩ := wfT hd
  simp only [gTb, dT_eT, Option.some.injEq] at hg
  subst hg
  simp only [q2o, q03, go_br, q04, q05, allSay, X.says, X.ev, X.evs, evl, tblS, List.getD_cons_zero, List.getD_cons_succ, List.getElem?_cons_zero, List.getElem?_cons_succ, tt_b, int_i, str_s, rs_r, Option.isSome_some, Option.getD_some, decide_eq_true_eq, decide_eq_false_iff_not, List.length_map, i_inj, b_inj, s_inj, rng64, List.take_succ_cons, List.take_zero, List.nil_append, List.cons_append, decide_true, decide_false, Bool.or_true, true_and, and_true, dT_eT, eT_0, eT_1, eT_2, eT_3, eT_eq, eT_z, nodeT]
  by_cases h0 : t.k = 0
  · simp [h0, Bool.and_assoc]
  · by_cases h1 : t.k = 1
    · simp [h1]
    · by_cases h2 : t.k = 2
      · simp [h2, Bool.and_assoc]
      · by_cases h3 : t.k = 3
        · simp [h3, Bool.and_assoc]
        · simp [h0, h1, h2, h3]
theorem nodes_iff (t : Te) : nodesT t = true ↔ nodeT t = true ∧ ∀ j, j < t.l.length → nodesT (t.l.getD j default) = true := by
  rw [nodesT_all, Bool.and_eq_true, List.all_eq_true]
  simp
theorem ok_ref03_nodes : FOk q0r (gTb nodesT) := fok_cut (m := mT) enter_ref03_nodes fun N ih => fok_ref03_nodes ok_ref03_node ih fun ds outs hw hg => by
  obtain ⟨d, r, rfl, hd, rfl⟩ := hw
  obtain ⟨t, rfl, ht⟩ := wfT hd
  simp only [cutM, mT, gTb, List.getD_cons_zero, dT_eT, int_i, Option.ite_none_right_eq_some, Option.some.injEq] at hg
  obtain ⟨hsz, rfl⟩ := hg
  have hl := ht.l
  simp only [q2d, q03, go_br, q04, q05, allSay, X.says, X.ev, X.evs, evl, tblS, List.getD_cons_zero, List.getD_cons_succ, List.getElem?_cons_zero, List.getElem?_cons_succ, tt_b, int_i, str_s, rs_r, Option.isSome_some, Option.getD_some, decide_eq_true_eq, decide_eq_false_iff_not, List.length_map, i_inj, b_inj, s_inj, rng64, List.take_succ_cons, List.take_zero, List.nil_append, List.cons_append, decide_true, decide_false, Bool.or_true, true_and, and_true, dT_eT, eT_0, eT_1, eT_2, eT_3, eT_eq, eT_z, gTb]
  refine ⟨fun hn => ?_, fun hn => ?_⟩
  · rw [nodesT_all, show nodeT t = false by simpa using hn]
    rfl
  have hn : nodeT t = true := by simpa using hn
  rw [go_loop]
  refine ⟨fun st => ∃ k : Nat, k ≤ t.l.length ∧ st = [.b false, .i k] ∧ ∀ j, j < k → nodesT (t.l.getD j default) = true, fun st => t.l.length - (st.getD 1 .u).int.toNat, ⟨0, Nat.zero_le _, rfl, fun j hj => absurd hj (Nat.not_lt_zero _)⟩, ?_⟩
  rintro st - ⟨k, hk, rfl, hP⟩
  rw [go_br]
  refine ⟨fun hlt => ?_, fun hlt => ?_⟩
  · simp only [q03, go_br, q04, q05, allSay, X.says, X.ev, X.evs, evl, tblS, List.getD_cons_zero, List.getD_cons_succ, List.getElem?_cons_zero, List.getElem?_cons_succ, tt_b, int_i, str_s, rs_r, Option.isSome_some, Option.getD_some, decide_eq_true_eq, decide_eq_false_iff_not, List.length_map, i_inj, b_inj, s_inj, rng64, List.take_succ_cons, List.take_zero, List.nil_append, List.cons_append, decide_true, decide_false, Bool.or_true, true_and, and_true, dT_eT, eT_0, eT_1, eT_2, eT_3, eT_eq, eT_z] at hlt
    have hkl' : k < t.l.length := by omega
    have ha := arg_sz hkl'
    simp only [q03, go_br, q04, q05, allSay, X.says, X.ev, X.evs, evl, tblS, List.getD_cons_zero, List.getD_cons_succ, List.getElem?_cons_zero, List.getElem?_cons_succ, tt_b, int_i, str_s, rs_r, Option.isSome_some, Option.getD_some, decide_eq_true_eq, decide_eq_false_iff_not, List.length_map, i_inj, b_inj, s_inj, rng64, List.take_succ_cons, List.take_zero, List.nil_append, List.cons_append, decide_true, decide_false, Bool.or_true, true_and, and_true, dT_eT, eT_0, eT_1, eT_2, eT_3, eT_eq, eT_z, get_t hkl', cutM, mT, gTb, if_pos (show szT (t.l.getD k default) < N by omega)]
    refine ⟨⟨by omega, by omega⟩, fun hx => ?_, fun hx => ⟨⟨by omega, by omega⟩, ?_⟩⟩
    · have : nodesT t = false := by
        cases hh : nodesT t with
        | false => rfl
        | true => rw [((nodes_iff t).1 hh).2 k hkl'] at hx; cases hx
      rw [this]
    · rw [updB, if_pos rfl]
      refine ⟨⟨k + 1, by omega, by simp, upto_succ hP (by simpa using hx)⟩, ?_⟩
      simp [D.int]
      omega
  · simp only [q03, go_br, q04, q05, allSay, X.says, X.ev, X.evs, evl, tblS, List.getD_cons_zero, List.getD_cons_succ, List.getElem?_cons_zero, List.getElem?_cons_succ, tt_b, int_i, str_s, rs_r, Option.isSome_some, Option.getD_some, decide_eq_true_eq, decide_eq_false_iff_not, List.length_map, i_inj, b_inj, s_inj, rng64, List.take_succ_cons, List.take_zero, List.nil_append, List.cons_append, decide_true, decide_false, Bool.or_true, true_and, and_true, dT_eT, eT_0, eT_1, eT_2, eT_3, eT_eq, eT_z] at hlt ⊢
    have : k = t.l.length := by omega
    subst this
    rw [(nodes_iff t).2 ⟨hn, hP⟩]
theorem ok_ref03_Valid : FOk q1a (gTb validT) := fok_ref03_Valid ok_ref03_Size ok_ref03_nodes fun ds outs hw hg => by
  obtain ⟨d, r, rfl, hd, rfl⟩ := hw
  obtain ⟨t, rfl, ht⟩ := wfT hd
  simp only [gTb, dT_eT, Option.some.injEq] at hg
  subst hg
  have e : decide (min (szT t : Int) 2001 ≤ 2000) = decide (szT t ≤ 2000) := by rw [decide_eq_decide]; omega
  simp [q2f, q03, go_br, q04, q05, allSay, X.says, X.ev, X.evs, evl, tblS, List.getD_cons_zero, List.getD_cons_succ, List.getElem?_cons_zero, List.getElem?_cons_succ, tt_b, int_i, str_s, rs_r, Option.isSome_some, Option.getD_some, decide_eq_true_eq, decide_eq_false_iff_not, List.length_map, i_inj, b_inj, s_inj, rng64, List.take_succ_cons, List.take_zero, List.nil_append, List.cons_append, decide_true, decide_false, Bool.or_true, true_and, and_true, dT_eT, eT_0, eT_1, eT_2, eT_3, eT_eq, eT_z, gTi, gTb, validT, e]
theorem same_iff {t u : Te} : idT t u = true ↔ t.k = u.k ∧ t.n = u.n ∧ t.s = u.s ∧ t.l.length = u.l.length ∧ ∀ j, j < t.l.length → idT (t.l.getD j default) (u.l.getD j default) = true := by
  rw [idT_iff]
  cases t with
  | mk k n s l =>
    cases u with
    | mk k' n' s' l' =>
      simp only [Te.k, Te.n, Te.s, Te.l, Te.mk.injEq, idT_iff]
      refine ⟨?_, ?_⟩
      · rintro ⟨rfl, rfl, rfl, rfl⟩
        exact ⟨rfl, rfl, rfl, rfl, fun _ _ => rfl⟩
      · rintro ⟨rfl, rfl, rfl, h1, h2⟩
        refine ⟨rfl, rfl, rfl, List.ext_getElem h1 fun i hi hi' => ?_⟩
        have := h2 i hi
        simpa [List.getD_eq_getElem?_getD, List.getElem?_eq_getElem hi, List.getElem?_eq_getElem hi'] using this
theorem ok_ref03_identical : FOk q0k (gTTb idT) := fok_cut (m := mT) q2h fun N ih => fok_ref03_identical ih fun ds outs hw hg => by
  obtain ⟨d, r, rfl, hd, e, r', rfl, he, rfl⟩ := hw
  obtain ⟨t, rfl, ht⟩ := wfT hd
  obtain ⟨u, rfl, hu⟩ := wfT he
  simp only [cutM, mT, gTTb, List.getD_cons_zero, dT_eT, int_i, Option.ite_none_right_eq_some, Option.some.injEq] at hg
  obtain ⟨hsz, rfl⟩ := hg
  have hl := ht.l
  have no : (¬ idT t u = true) → [D.b false] = [D.b (idT t u)] := fun h => by rw [Bool.eq_false_iff.2 h]
  simp only [q1v, q03, go_br, q04, q05, allSay, X.says, X.ev, X.evs, evl, tblS, List.getD_cons_zero, List.getD_cons_succ, List.getElem?_cons_zero, List.getElem?_cons_succ, tt_b, int_i, str_s, rs_r, Option.isSome_some, Option.getD_some, decide_eq_true_eq, decide_eq_false_iff_not, List.length_map, i_inj, b_inj, s_inj, rng64, List.take_succ_cons, List.take_zero, List.nil_append, List.cons_append, decide_true, decide_false, Bool.or_true, true_and, and_true, dT_eT, eT_0, eT_1, eT_2, eT_3, eT_eq, eT_z, gTTb]
  refine ⟨fun hn => no fun h => ?_, fun hn => ?_⟩
  · obtain ⟨e1, e2, e3, e4, -⟩ := same_iff.1 h
    simp [e1, e2, e3, e4] at hn
  simp only [Bool.or_eq_false_iff, Bool.not_eq_false', decide_eq_true_eq] at hn
  obtain ⟨⟨⟨e1, e2⟩, e3⟩, e4⟩ := hn
  have e4 : t.l.length = u.l.length := by omega
  rw [go_loop]
  refine ⟨fun st => ∃ k : Nat, k ≤ t.l.length ∧ st = [.b false, .i k] ∧ ∀ j, j < k → idT (t.l.getD j default) (u.l.getD j default) = true, fun st => t.l.length - (st.getD 1 .u).int.toNat, ⟨0, Nat.zero_le _, rfl, fun j hj => absurd hj (Nat.not_lt_zero _)⟩, ?_⟩
  rintro st - ⟨k, hk, rfl, hP⟩
  rw [go_br]
  refine ⟨fun hlt => ?_, fun hlt => ?_⟩
  · simp only [q03, go_br, q04, q05, allSay, X.says, X.ev, X.evs, evl, tblS, List.getD_cons_zero, List.getD_cons_succ, List.getElem?_cons_zero, List.getElem?_cons_succ, tt_b, int_i, str_s, rs_r, Option.isSome_some, Option.getD_some, decide_eq_true_eq, decide_eq_false_iff_not, List.length_map, i_inj, b_inj, s_inj, rng64, List.take_succ_cons, List.take_zero, List.nil_append, List.cons_append, decide_true, decide_false, Bool.or_true, true_and, and_true, dT_eT, eT_0, eT_1, eT_2, eT_3, eT_eq, eT_z] at hlt
    have hkl' : k < t.l.length := by omega
    have hku' : k < u.l.length := by omega
    have ha := arg_sz hkl'
    simp only [q03, go_br, q04, q05, allSay, X.says, X.ev, X.evs, evl, tblS, List.getD_cons_zero, List.getD_cons_succ, List.getElem?_cons_zero, List.getElem?_cons_succ, tt_b, int_i, str_s, rs_r, Option.isSome_some, Option.getD_some, decide_eq_true_eq, decide_eq_false_iff_not, List.length_map, i_inj, b_inj, s_inj, rng64, List.take_succ_cons, List.take_zero, List.nil_append, List.cons_append, decide_true, decide_false, Bool.or_true, true_and, and_true, dT_eT, eT_0, eT_1, eT_2, eT_3, eT_eq, eT_z, get_t hkl', get_t hku', cutM, mT, gTTb, if_pos (show szT (t.l.getD k default) < N by omega)]
    refine ⟨⟨by omega, by omega, by omega, by omega⟩, fun hx => no fun h => ?_, fun hx => ⟨⟨by omega, by omega⟩, ?_⟩⟩
    · rw [(same_iff.1 h).2.2.2.2 k hkl'] at hx
      cases hx
    · rw [updB, if_pos rfl]
      refine ⟨⟨k + 1, by omega, by simp, upto_succ hP (by simpa using hx)⟩, ?_⟩
      simp [D.int]
      omega
  · simp only [q03, go_br, q04, q05, allSay, X.says, X.ev, X.evs, evl, tblS, List.getD_cons_zero, List.getD_cons_succ, List.getElem?_cons_zero, List.getElem?_cons_succ, tt_b, int_i, str_s, rs_r, Option.isSome_some, Option.getD_some, decide_eq_true_eq, decide_eq_false_iff_not, List.length_map, i_inj, b_inj, s_inj, rng64, List.take_succ_cons, List.take_zero, List.nil_append, List.cons_append, decide_true, decide_false, Bool.or_true, true_and, and_true, dT_eT, eT_0, eT_1, eT_2, eT_3, eT_eq, eT_z] at hlt ⊢
    have : k = t.l.length := by omega
    subst this
    rw [same_iff.2 ⟨e1, e2, e3, e4, hP⟩]
def sameT (t u : Te) : Bool := validT t && (validT u && idT t u)
theorem ok_ref03_Same : FOk q1d (gTTb sameT) := fok_ref03_Same ok_ref03_Valid ok_ref03_identical fun ds outs hw hg => by
  obtain ⟨d, r, rfl, hd, e, r', rfl, he, rfl⟩ := hw
  obtain ⟨t, rfl, ht⟩ := wfT hd
  obtain ⟨u, rfl, hu⟩ := wfT he
  simp only [gTTb, dT_eT, Option.some.injEq] at hg
  subst hg
  simp [q2t, q03, go_br, q04, q05, allSay, X.says, X.ev, X.evs, evl, tblS, List.getD_cons_zero, List.getD_cons_succ, List.getElem?_cons_zero, List.getElem?_cons_succ, tt_b, int_i, str_s, rs_r, Option.isSome_some, Option.getD_some, decide_eq_true_eq, decide_eq_false_iff_not, List.length_map, i_inj, b_inj, s_inj, rng64, List.take_succ_cons, List.take_zero, List.nil_append, List.cons_append, decide_true, decide_false, Bool.or_true, true_and, and_true, dT_eT, eT_0, eT_1, eT_2, eT_3, eT_eq, eT_z, gTb, gTTb, sameT, Bool.and_assoc]

def gSz1 : List D → Option (List D)
  | [t, m] => if 1 ≤ m.int then some [.i (m.int - min (szT (dT t) : Int) m.int)] else none
  | _ => none
theorem ok_term_Size_1 : FOk q0s gSz1 := fok_cut (m := mT) enter_term_Size_1 fun N ih => fok_term_Size_1 ih fun ds outs hw hg => by
  obtain ⟨d, r, rfl, hd, e, r', rfl, he, rfl⟩ := hw
  obtain ⟨t, rfl, ht⟩ := wfT hd
  obtain ⟨m, rfl, hm⟩ := wfI he
  simp only [cutM, mT, gSz1, List.getD_cons_zero, dT_eT, int_i, Option.ite_none_right_eq_some, Option.some.injEq] at hg
  obtain ⟨hsz, h1, rfl⟩ := hg
  have hl := ht.l
  rw [q29, q03]
  refine ⟨by simp only [q03, go_br, q04, q05, allSay, X.says, X.ev, X.evs, evl, tblS, List.getD_cons_zero, List.getD_cons_succ, List.getElem?_cons_zero, List.getElem?_cons_succ, tt_b, int_i, str_s, rs_r, Option.isSome_some, Option.getD_some, decide_eq_true_eq, decide_eq_false_iff_not, List.length_map, i_inj, b_inj, s_inj, rng64, List.take_succ_cons, List.take_zero, List.nil_append, List.cons_append, decide_true, decide_false, Bool.or_true, true_and, and_true, dT_eT, eT_0, eT_1, eT_2, eT_3, eT_eq, eT_z]; omega, ?_⟩
  rw [go_loop]
  refine ⟨fun st => ∃ k : Nat, k ≤ t.l.length ∧ st = [.i k, .i (m - min ((szTs (t.l.take k) : Int) + 1) m)], fun st => t.l.length - (st.getD 0 .u).int.toNat, ⟨0, Nat.zero_le _, by simp [X.evs, X.ev, szTs, evl, D.int]; omega⟩, ?_⟩
  rintro st - ⟨k, hk, rfl⟩
  rw [go_br]
  refine ⟨fun hlt => ?_, fun hlt => ?_⟩
  · simp only [q03, go_br, q04, q05, allSay, X.says, X.ev, X.evs, evl, tblS, List.getD_cons_zero, List.getD_cons_succ, List.getElem?_cons_zero, List.getElem?_cons_succ, tt_b, int_i, str_s, rs_r, Option.isSome_some, Option.getD_some, decide_eq_true_eq, decide_eq_false_iff_not, List.length_map, i_inj, b_inj, s_inj, rng64, List.take_succ_cons, List.take_zero, List.nil_append, List.cons_append, decide_true, decide_false, Bool.or_true, true_and, and_true, dT_eT, eT_0, eT_1, eT_2, eT_3, eT_eq, eT_z, Bool.and_eq_true] at hlt
    obtain ⟨hkl, hlm⟩ := hlt
    have hkl' : k < t.l.length := by omega
    have ha := arg_sz hkl'
    have hs := szTs_snoc hkl'
    have hmn : 1 ≤ m - min ((szTs (t.l.take k) : Int) + 1) m := by omega
    simp only [q03, go_br, q04, q05, allSay, X.says, X.ev, X.evs, evl, tblS, List.getD_cons_zero, List.getD_cons_succ, List.getElem?_cons_zero, List.getElem?_cons_succ, tt_b, int_i, str_s, rs_r, Option.isSome_some, Option.getD_some, decide_eq_true_eq, decide_eq_false_iff_not, List.length_map, i_inj, b_inj, s_inj, rng64, List.take_succ_cons, List.take_zero, List.nil_append, List.cons_append, decide_true, decide_false, Bool.or_true, true_and, and_true, dT_eT, eT_0, eT_1, eT_2, eT_3, eT_eq, eT_z, get_t hkl', cutM, mT, gSz1, if_pos hmn, if_pos (show szT (t.l.getD k default) < N by omega)]
    refine ⟨⟨by omega, by omega⟩, ⟨by omega, by omega⟩, ?_⟩
    rw [updB, if_pos rfl]
    refine ⟨⟨k + 1, by omega, ?_⟩, ?_⟩
    · rw [hs]
      simp
      omega
    · simp [D.int]
      omega
  · simp only [q03, go_br, q04, q05, allSay, X.says, X.ev, X.evs, evl, tblS, List.getD_cons_zero, List.getD_cons_succ, List.getElem?_cons_zero, List.getElem?_cons_succ, tt_b, int_i, str_s, rs_r, Option.isSome_some, Option.getD_some, decide_eq_true_eq, decide_eq_false_iff_not, List.length_map, i_inj, b_inj, s_inj, rng64, List.take_succ_cons, List.take_zero, List.nil_append, List.cons_append, decide_true, decide_false, Bool.or_true, true_and, and_true, dT_eT, eT_0, eT_1, eT_2, eT_3, eT_eq, eT_z, Bool.and_eq_false_iff] at hlt
    simp only [q03, go_br, q04, q05, allSay, X.says, X.ev, X.evs, evl, tblS, List.getD_cons_zero, List.getD_cons_succ, List.getElem?_cons_zero, List.getElem?_cons_succ, tt_b, int_i, str_s, rs_r, Option.isSome_some, Option.getD_some, decide_eq_true_eq, decide_eq_false_iff_not, List.length_map, i_inj, b_inj, s_inj, rng64, List.take_succ_cons, List.take_zero, List.nil_append, List.cons_append, decide_true, decide_false, Bool.or_true, true_and, and_true, dT_eT, eT_0, eT_1, eT_2, eT_3, eT_eq, eT_z]
    have hz := szT_l t
    have : m - min ((szTs (t.l.take k) : Int) + 1) m = m - min (szT t : Int) m := by
      rcases hlt with h | h
      · have : k = t.l.length := by omega
        subst this
        rw [List.take_length]
        omega
      · have h2 := szTs_app (t.l.take k) (t.l.drop k)
        rw [List.take_append_drop] at h2
        omega
    rw [this]
theorem ok_term_Size : FOk q0y (gTi fun t => min (szT t : Int) 2001) := fok_term_Size ok_term_Size_1 fun ds outs hw hg => by
  obtain ⟨d, r, rfl, hd, rfl⟩ := hw
  obtain ⟨t, rfl, ht⟩ := wfT hd
  simp only [gTi, dT_eT, Option.some.injEq] at hg
  subst hg
  simp [q31, q03, go_br, q04, q05, allSay, X.says, X.ev, X.evs, evl, tblS, List.getD_cons_zero, List.getD_cons_succ, List.getElem?_cons_zero, List.getElem?_cons_succ, tt_b, int_i, str_s, rs_r, Option.isSome_some, Option.getD_some, decide_eq_true_eq, decide_eq_false_iff_not, List.length_map, i_inj, b_inj, s_inj, rng64, List.take_succ_cons, List.take_zero, List.nil_append, List.cons_append, decide_true, decide_false, Bool.or_true, true_and, and_true, dT_eT, eT_0, eT_1, eT_2, eT_3, eT_eq, eT_z, gSz1]
  omega
theorem ok_term_fits : FOk q0o (gTb nodesT) := fok_cut (m := mT) enter_term_fits fun N ih => fok_term_fits ih fun ds outs hw hg => by
  obtain ⟨d, r, rfl, hd, rfl⟩ := hw
  obtain ⟨t, rfl, ht⟩ := wfT hd
  simp only [cutM, mT, gTb, List.getD_cons_zero, dT_eT, int_i, Option.ite_none_right_eq_some, Option.some.injEq] at hg
  obtain ⟨hsz, rfl⟩ := hg
  have hl := ht.l
  have key : ∀ (x : X), x.ev (evl (tblS [(q0o, cutM mT N (gTb nodesT))]) [eT t]) = .b (nodeT t) → Tree.go (tblS [(q0o, cutM mT N (gTb nodesT))]) (fun o => o = [D.b (nodesT t)]) (.loop 12 1 [x, (.lit (.i 0))] (.br (.and (.lt (.tok 2) (.len (.fld (.tok 0) 3))) (.tok 1)) (.need [(.le (.lit (.i 0)) (.tok 2)), (.lt (.tok 2) (.len (.fld (.tok 0) 3))), (.ok 0 [(.get (.fld (.tok 0) 3) (.tok 2))])] (.need [(.rng .i64 (.add (.tok 2) (.lit (.i 1))))] (.back 12 [(.call 0 0 [(.get (.fld (.tok 0) 3) (.tok 2))]), (.add (.tok 2) (.lit (.i 1)))]))) (.leaf [(.tok 1)]))) [eT t] fun _ _ => False := by
    intro x hx
    rw [go_loop]
    refine ⟨fun st => ∃ (k : Nat) (v : Bool), k ≤ t.l.length ∧ st = [.b v, .i k] ∧ (v = true ↔ nodeT t = true ∧ ∀ j, j < k → nodesT (t.l.getD j default) = true), fun st => t.l.length - (st.getD 1 .u).int.toNat, ⟨0, nodeT t, Nat.zero_le _, by simp only [X.evs, hx, X.ev]; rfl, by simp⟩, ?_⟩
    rintro st - ⟨k, v, hk, rfl, hv⟩
    rw [go_br]
    refine ⟨fun hlt => ?_, fun hlt => ?_⟩
    · simp only [q03, go_br, q04, q05, allSay, X.says, X.ev, X.evs, evl, tblS, List.getD_cons_zero, List.getD_cons_succ, List.getElem?_cons_zero, List.getElem?_cons_succ, tt_b, int_i, str_s, rs_r, Option.isSome_some, Option.getD_some, decide_eq_true_eq, decide_eq_false_iff_not, List.length_map, i_inj, b_inj, s_inj, rng64, List.take_succ_cons, List.take_zero, List.nil_append, List.cons_append, decide_true, decide_false, Bool.or_true, true_and, and_true, dT_eT, eT_0, eT_1, eT_2, eT_3, eT_eq, eT_z, Bool.and_eq_true] at hlt
      obtain ⟨hlt, rfl⟩ := hlt
      have hkl' : k < t.l.length := by omega
      have ha := arg_sz hkl'
      simp only [q03, go_br, q04, q05, allSay, X.says, X.ev, X.evs, evl, tblS, List.getD_cons_zero, List.getD_cons_succ, List.getElem?_cons_zero, List.getElem?_cons_succ, tt_b, int_i, str_s, rs_r, Option.isSome_some, Option.getD_some, decide_eq_true_eq, decide_eq_false_iff_not, List.length_map, i_inj, b_inj, s_inj, rng64, List.take_succ_cons, List.take_zero, List.nil_append, List.cons_append, decide_true, decide_false, Bool.or_true, true_and, and_true, dT_eT, eT_0, eT_1, eT_2, eT_3, eT_eq, eT_z, get_t hkl', cutM, mT, gTb, if_pos (show szT (t.l.getD k default) < N by omega)]
      refine ⟨⟨by omega, by omega⟩, ⟨by omega, by omega⟩, ?_⟩
      rw [updB, if_pos rfl]
      have hv' := hv.1 rfl
      refine ⟨⟨k + 1, _, by omega, rfl, ⟨fun h => ⟨hv'.1, upto_succ hv'.2 h⟩, fun h => h.2 k (Nat.lt_succ_self _)⟩⟩, ?_⟩
      simp [D.int]
      omega
    · simp only [q03, go_br, q04, q05, allSay, X.says, X.ev, X.evs, evl, tblS, List.getD_cons_zero, List.getD_cons_succ, List.getElem?_cons_zero, List.getElem?_cons_succ, tt_b, int_i, str_s, rs_r, Option.isSome_some, Option.getD_some, decide_eq_true_eq, decide_eq_false_iff_not, List.length_map, i_inj, b_inj, s_inj, rng64, List.take_succ_cons, List.take_zero, List.nil_append, List.cons_append, decide_true, decide_false, Bool.or_true, true_and, and_true, dT_eT, eT_0, eT_1, eT_2, eT_3, eT_eq, eT_z, Bool.and_eq_false_iff] at hlt
      simp only [q03, go_br, q04, q05, allSay, X.says, X.ev, X.evs, evl, tblS, List.getD_cons_zero, List.getD_cons_succ, List.getElem?_cons_zero, List.getElem?_cons_succ, tt_b, int_i, str_s, rs_r, Option.isSome_some, Option.getD_some, decide_eq_true_eq, decide_eq_false_iff_not, List.length_map, i_inj, b_inj, s_inj, rng64, List.take_succ_cons, List.take_zero, List.nil_append, List.cons_append, decide_true, decide_false, Bool.or_true, true_and, and_true, dT_eT, eT_0, eT_1, eT_2, eT_3, eT_eq, eT_z]
      rw [show v = nodesT t from ?_]
      cases hvv : v with
      | false =>
        cases hh : nodesT t with
        | false => rfl
        | true =>
          have h2 := (nodes_iff t).1 hh
          rw [hv.2 ⟨h2.1, fun j hj => h2.2 j (by omega)⟩] at hvv
          cases hvv
      | true =>
        have : k = t.l.length := by
          rcases hlt with h | h
          · omega
          · rw [hvv] at h; cases h
        subst this
        exact ((nodes_iff t).2 (hv.1 hvv)).symm
  rw [q32]
  simp only [go_br]
  have e0 : ∀ z : Int, (X.eq (.fld (.tok 0) 0) (.lit (.i z))).ev (evl (tblS [(q0o, cutM mT N (gTb nodesT))]) [eT t]) = .b (decide (t.k = z)) := fun z => by
    simp only [q03, go_br, q04, q05, allSay, X.says, X.ev, X.evs, evl, tblS, List.getD_cons_zero, List.getD_cons_succ, List.getElem?_cons_zero, List.getElem?_cons_succ, tt_b, int_i, str_s, rs_r, Option.isSome_some, Option.getD_some, decide_eq_true_eq, decide_eq_false_iff_not, List.length_map, i_inj, b_inj, s_inj, rng64, List.take_succ_cons, List.take_zero, List.nil_append, List.cons_append, decide_true, decide_false, Bool.or_true, true_and, and_true, dT_eT, eT_0, eT_1, eT_2, eT_3, eT_eq, eT_z]
  simp only [e0, tt_b, decide_eq_true_eq, decide_eq_false_iff_not]
  refine ⟨fun h => key _ ?_, fun h0 => ⟨fun h => key _ ?_, fun h1 => ⟨fun h => key _ ?_, fun h2 => ⟨fun h => key _ ?_, fun h3 => key _ ?_⟩⟩⟩⟩
  all_goals simp only [q03, go_br, q04, q05, allSay, X.says, X.ev, X.evs, evl, tblS, List.getD_cons_zero, List.getD_cons_succ, List.getElem?_cons_zero, List.getElem?_cons_succ, tt_b, int_i, str_s, rs_r, Option.isSome_some, Option.getD_some, decide_eq_true_eq, decide_eq_false_iff_not, List.length_map, i_inj, b_inj, s_inj, rng64, List.take_succ_cons, List.take_zero, List.nil_append, List.cons_append, decide_true, decide_false, Bool.or_true, true_and, and_true, dT_eT, eT_0, eT_1, eT_2, eT_3, eT_eq, eT_z, nodeT]
  · simp [h, Bool.and_assoc]
  · simp [h, Bool.and_assoc]
  · simp [h, Bool.and_assoc]
  · have e8 : decide (0 < (t.l.length : Int)) = decide (1 ≤ (t.l.length : Int)) := rfl
    rw [e8]
    simp [h, Bool.and_assoc]
  · simp [h0, h1, h2, h3]
theorem q1q : FOk q0b (gTb validT) := fok_term_Valid ok_term_Size ok_term_fits fun ds outs hw hg => by
  obtain ⟨d, r, rfl, hd, rfl⟩ := hw
  obtain ⟨t, rfl, ht⟩ := wfT hd
  simp only [gTb, dT_eT, Option.some.injEq] at hg
  subst hg
  have e : decide (min (szT t : Int) 2001 ≤ 2000) = decide (szT t ≤ 2000) := by rw [decide_eq_decide]; omega
  simp [q2m, q03, go_br, q04, q05, allSay, X.says, X.ev, X.evs, evl, tblS, List.getD_cons_zero, List.getD_cons_succ, List.getElem?_cons_zero, List.getElem?_cons_succ, tt_b, int_i, str_s, rs_r, Option.isSome_some, Option.getD_some, decide_eq_true_eq, decide_eq_false_iff_not, List.length_map, i_inj, b_inj, s_inj, rng64, List.take_succ_cons, List.take_zero, List.nil_append, List.cons_append, decide_true, decide_false, Bool.or_true, true_and, and_true, dT_eT, eT_0, eT_1, eT_2, eT_3, eT_eq, eT_z, gTi, gTb, validT, e]
theorem ok_term_Clone_1 : FOk q14 (gTT id) := fok_term_Clone_1 fun ds outs hw hg => by
  obtain ⟨d, r, rfl, hd, rfl⟩ := hw
  obtain ⟨t, rfl, ht⟩ := wfT hd
  simp only [gTT, dT_eT, Option.some.injEq] at hg
  subst hg
  simp only [q21, q03, go_br, q04, q05, allSay, X.says, X.ev, X.evs, evl, tblS, List.getD_cons_zero, List.getD_cons_succ, List.getElem?_cons_zero, List.getElem?_cons_succ, tt_b, int_i, str_s, rs_r, Option.isSome_some, Option.getD_some, decide_eq_true_eq, decide_eq_false_iff_not, List.length_map, i_inj, b_inj, s_inj, rng64, List.take_succ_cons, List.take_zero, List.nil_append, List.cons_append, decide_true, decide_false, Bool.or_true, true_and, and_true, dT_eT, eT_0, eT_1, eT_2, eT_3, eT_eq, eT_z, id]
theorem ok_term_apply : FOk q0w (gTT id) := fok_cut (m := mT) enter_term_apply fun N ih => fok_term_apply ok_term_Clone_1 ih fun ds outs hw hg => by
  obtain ⟨d, r, rfl, hd, rfl⟩ := hw
  obtain ⟨t, rfl, ht⟩ := wfT hd
  simp only [cutM, mT, gTT, List.getD_cons_zero, dT_eT, int_i, Option.ite_none_right_eq_some, Option.some.injEq] at hg
  obtain ⟨hsz, rfl⟩ := hg
  have hl := ht.l
  rw [q2p, go_br]
  refine ⟨fun h => ?_, fun h => ?_⟩
  · simp only [q03, go_br, q04, q05, allSay, X.says, X.ev, X.evs, evl, tblS, List.getD_cons_zero, List.getD_cons_succ, List.getElem?_cons_zero, List.getElem?_cons_succ, tt_b, int_i, str_s, rs_r, Option.isSome_some, Option.getD_some, decide_eq_true_eq, decide_eq_false_iff_not, List.length_map, i_inj, b_inj, s_inj, rng64, List.take_succ_cons, List.take_zero, List.nil_append, List.cons_append, decide_true, decide_false, Bool.or_true, true_and, and_true, dT_eT, eT_0, eT_1, eT_2, eT_3, eT_eq, eT_z, gTT, id]
  rw [go_loop]
  refine ⟨fun st => ∃ k : Nat, k ≤ t.l.length ∧ st = [.i k, eT (.mk t.k t.n t.s (t.l.take k))], fun st => t.l.length - (st.getD 0 .u).int.toNat, ⟨0, Nat.zero_le _, by simp only [X.evs, X.ev, evl, List.getD_cons_zero, eT_0, eT_1, eT_2, eT_mk]; rfl⟩, ?_⟩
  rintro st - ⟨k, hk, rfl⟩
  rw [go_br]
  refine ⟨fun hlt => ?_, fun hlt => ?_⟩
  · simp only [q03, go_br, q04, q05, allSay, X.says, X.ev, X.evs, evl, tblS, List.getD_cons_zero, List.getD_cons_succ, List.getElem?_cons_zero, List.getElem?_cons_succ, tt_b, int_i, str_s, rs_r, Option.isSome_some, Option.getD_some, decide_eq_true_eq, decide_eq_false_iff_not, List.length_map, i_inj, b_inj, s_inj, rng64, List.take_succ_cons, List.take_zero, List.nil_append, List.cons_append, decide_true, decide_false, Bool.or_true, true_and, and_true, dT_eT, eT_0, eT_1, eT_2, eT_3, eT_eq, eT_z] at hlt
    have hkl' : k < t.l.length := by omega
    have ha := arg_sz hkl'
    simp only [q03, go_br, q04, q05, allSay, X.says, X.ev, X.evs, evl, tblS, List.getD_cons_zero, List.getD_cons_succ, List.getElem?_cons_zero, List.getElem?_cons_succ, tt_b, int_i, str_s, rs_r, Option.isSome_some, Option.getD_some, decide_eq_true_eq, decide_eq_false_iff_not, List.length_map, i_inj, b_inj, s_inj, rng64, List.take_succ_cons, List.take_zero, List.nil_append, List.cons_append, decide_true, decide_false, Bool.or_true, true_and, and_true, dT_eT, eT_0, eT_1, eT_2, eT_3, eT_eq, eT_z, get_t hkl', cutM, mT, gTT, if_pos (show szT (t.l.getD k default) < N by omega), id, Te_l, List.length_take]
    refine ⟨⟨by omega, by omega⟩, by omega, ⟨by omega, by omega⟩, ?_⟩
    rw [updB, if_pos rfl]
    refine ⟨⟨k + 1, by omega, ?_⟩, ?_⟩
    · rw [take_snoc hkl', eT_snoc]
      rfl
    · simp [D.int]
      omega
  · simp only [q03, go_br, q04, q05, allSay, X.says, X.ev, X.evs, evl, tblS, List.getD_cons_zero, List.getD_cons_succ, List.getElem?_cons_zero, List.getElem?_cons_succ, tt_b, int_i, str_s, rs_r, Option.isSome_some, Option.getD_some, decide_eq_true_eq, decide_eq_false_iff_not, List.length_map, i_inj, b_inj, s_inj, rng64, List.take_succ_cons, List.take_zero, List.nil_append, List.cons_append, decide_true, decide_false, Bool.or_true, true_and, and_true, dT_eT, eT_0, eT_1, eT_2, eT_3, eT_eq, eT_z] at hlt ⊢
    have : k = t.l.length := by omega
    subst this
    rw [List.take_length]
    cases t
    rfl
theorem ok_term_Clone : FOk q0h (gTT fun t => if validT t then t else zT) := fok_term_Clone q1q ok_term_apply fun ds outs hw hg => by
  obtain ⟨d, r, rfl, hd, rfl⟩ := hw
  obtain ⟨t, rfl, ht⟩ := wfT hd
  simp only [gTT, dT_eT, Option.some.injEq] at hg
  subst hg
  simp only [q2u, q03, go_br, q04, q05, allSay, X.says, X.ev, X.evs, evl, tblS, List.getD_cons_zero, List.getD_cons_succ, List.getElem?_cons_zero, List.getElem?_cons_succ, tt_b, int_i, str_s, rs_r, Option.isSome_some, Option.getD_some, decide_eq_true_eq, decide_eq_false_iff_not, List.length_map, i_inj, b_inj, s_inj, rng64, List.take_succ_cons, List.take_zero, List.nil_append, List.cons_append, decide_true, decide_false, Bool.or_true, true_and, and_true, dT_eT, eT_0, eT_1, eT_2, eT_3, eT_eq, eT_z, gTb, gTT, id]
  cases validT t <;> simp
def gSt (f : ByteArray → Te) : List D → Option (List D)
  | [s] => some [eT (f s.str)]
  | _ => none
def atomT (s : ByteArray) : Te := if s.size ≤ 100 then .mk 2 0 s [] else zT
theorem atomT_ok {s : ByteArray} (h : s.size ≤ 100) : atomT s = .mk 2 0 s [] := if_pos h
theorem q1z : FOk q0j (gSt atomT) := fok_term_Atom ok_term_Clone fun ds outs hw hg => by
  obtain ⟨d, r, rfl, hd, rfl⟩ := hw
  obtain ⟨s, rfl, hs⟩ := hd.str
  simp only [gSt, str_s, Option.some.injEq] at hg
  subst hg
  have e : D.a ((D.a ([D.i 0, .i 0, .s ⟨#[]⟩, .r []].set 0 (.i 2))).fs.set 2 (.s s)) = eT (.mk 2 0 s []) := rfl
  simp only [q2z, q03, go_br, q04, q05, allSay, X.says, X.ev, X.evs, evl, tblS, List.getD_cons_zero, List.getD_cons_succ, List.getElem?_cons_zero, List.getElem?_cons_succ, tt_b, int_i, str_s, rs_r, Option.isSome_some, Option.getD_some, decide_eq_true_eq, decide_eq_false_iff_not, List.length_map, i_inj, b_inj, s_inj, rng64, List.take_succ_cons, List.take_zero, List.nil_append, List.cons_append, decide_true, decide_false, Bool.or_true, true_and, and_true, dT_eT, eT_0, eT_1, eT_2, eT_3, eT_eq, eT_z, gTT, fs_a]
  have e2 : D.a (((eT zT).fs.set 0 (.i 2)).set 2 (.s s)) = eT (.mk 2 0 s []) := rfl
  simp only [e2]
  have : validT (.mk 2 0 s []) = decide (s.size ≤ 100) := by
    rw [Bool.eq_iff_iff]
    simp [validT, szT, szTs, nodesT, nodesTs, nodeT, Te.k, Te.n, Te.s, Te.l]
    exact Iff.trans decide_eq_true_iff (Int.ofNat_le (n := 100))
  simp only [dT_eT, this, atomT, decide_eq_true_eq]
end Go.Proofs.Ytloekfnlidclcaa


namespace Go.Proofs.Ytloekfnlidclcaa
open Go.RowKit
set_option linter.unusedVariables false
set_option linter.unusedSimpArgs false

section
variable {f g : Int → Int}
end

end Go.Proofs.Ytloekfnlidclcaa


namespace Go.Proofs.Ytloekfnlidclcaa
open Go.RowKit
set_option linter.unusedVariables false
set_option linter.unusedSimpArgs false

def cloneT (t : Te) : Te := if validT t then t else zT
theorem q30 : FOk q0h (gTT cloneT) := ok_term_Clone
def struT (s : ByteArray) (l : List Te) : Te := if l.length = 0 then atomT s else cloneT (.mk 3 0 s l)
def gSL (f : ByteArray → List Te → Te) : List D → Option (List D)
  | [s, l] => some [eT (f s.str (l.rs.map dT))]
  | _ => none
theorem map_dT (l : List Te) : (l.map eT).map dT = l := by
  rw [List.map_map]
  have : dT ∘ eT = id := funext dT_eT
  rw [this, List.map_id]
theorem ok_term_Struct : FOk q19 (gSL struT) := fok_term_Struct q1z q30 fun ds outs hw hg => by
  obtain ⟨d, r, rfl, hd, e, r', rfl, he, rfl⟩ := hw
  obtain ⟨s, rfl, hs⟩ := hd.str
  obtain ⟨l, rfl, hl, -⟩ := wfTs he
  simp only [gSL, str_s, rs_r, map_dT, Option.some.injEq] at hg
  subst hg
  have e : D.a (((D.a [.i 0, .i 0, .s ⟨#[]⟩, .r []]).fs.set 0 (.i 3)).set 2 (.s s) |>.set 3 (.r (l.map eT))) = eT (.mk 3 0 s l) := by rw [eT_mk]; rfl
  have e2 : D.a (((eT zT).fs.set 0 (.i 3)).set 2 (.s s) |>.set 3 (.r (l.map eT))) = eT (.mk 3 0 s l) := e
  simp only [q2c, q03, go_br, q04, q05, allSay, X.says, X.ev, X.evs, evl, tblS, List.getD_cons_zero, List.getD_cons_succ, List.getElem?_cons_zero, List.getElem?_cons_succ, tt_b, int_i, str_s, rs_r, Option.isSome_some, Option.getD_some, decide_eq_true_eq, decide_eq_false_iff_not, List.length_map, i_inj, b_inj, s_inj, rng64, List.take_succ_cons, List.take_zero, List.nil_append, List.cons_append, decide_true, decide_false, Bool.or_true, true_and, and_true, dT_eT, eT_0, eT_1, eT_2, eT_3, eT_eq, eT_z, gSt, gTT, fs_a, struT, e, e2]
  refine ⟨fun h => ?_, fun h => ?_⟩
  · rw [if_pos (by omega)]
  · rw [if_neg (by omega)]
end Go.Proofs.Ytloekfnlidclcaa


namespace Go.Proofs.Ytloekfnlidclcaa
open Go.RowKit
set_option linter.unusedVariables false
set_option linter.unusedSimpArgs false

abbrev sErr : ByteArray := ⟨#[101, 114, 114, 111, 114]⟩
abbrev sNil : ByteArray := ⟨#[91, 93]⟩
abbrev sInst : ByteArray := ⟨#[105, 110, 115, 116, 97, 110, 116, 105, 97, 116, 105, 111, 110, 95, 101, 114, 114, 111, 114]⟩
abbrev sType : ByteArray := ⟨#[116, 121, 112, 101, 95, 101, 114, 114, 111, 114]⟩
abbrev sDots : ByteArray := ⟨#[46, 46, 46]⟩
abbrev atomR (s : ByteArray) : Te := .mk 2 0 s []

theorem validT_iff {t : Te} : validT t = true ↔ szT t ≤ 2000 ∧ nodesT t = true := by simp [validT]
def raiseT (s : ByteArray) (l : List Te) : Te := struT sErr [struT s l, atomT sNil]
theorem q1s : FOk q0c (gSL raiseT) := fok_balls_raise ok_term_Struct q1z fun ds outs hw hg => by
  obtain ⟨d, r, rfl, hd, e, r', rfl, he, rfl⟩ := hw
  obtain ⟨s, rfl, hs⟩ := hd.str
  obtain ⟨l, rfl, hl, -⟩ := wfTs he
  simp only [gSL, str_s, rs_r, map_dT, Option.some.injEq] at hg
  subst hg
  simp only [q2a, q03, go_br, q04, q05, allSay, X.says, X.ev, X.evs, evl, tblS, List.getD_cons_zero, List.getD_cons_succ, List.getElem?_cons_zero, List.getElem?_cons_succ, tt_b, int_i, str_s, rs_r, Option.isSome_some, Option.getD_some, decide_eq_true_eq, decide_eq_false_iff_not, List.length_map, i_inj, b_inj, s_inj, rng64, List.take_succ_cons, List.take_zero, List.nil_append, List.cons_append, decide_true, decide_false, Bool.or_true, true_and, and_true, dT_eT, eT_0, eT_1, eT_2, eT_3, eT_eq, eT_z, gSL, gSt, map_dT, List.map_cons, List.map_nil, raiseT]
def gAb (f : Te → ByteArray → ByteArray → Te) : List D → Option (List D)
  | [t, .s c, .r [.s n]] => if n.size ≤ 100 then some [eT (f (dT t) c n)] else none
  | _ => none
def culT (t : Te) : Te := if 2000 < 4 + min (szT t : Int) 2001 then atomR sDots else t
def aboutT (t : Te) (c n : ByteArray) : Te := if validT t then raiseT c [atomT n, culT t] else zT
theorem ok_balls_about : FOk q09 (gAb aboutT) := fok_balls_about q1q q1z ok_term_Size q1s fun ds outs hw hg => by
  obtain ⟨d, r, rfl, hd, e, r', rfl, he, e2, r2, rfl, he2, rfl⟩ := hw
  obtain ⟨t, rfl, ht⟩ := wfT hd
  unfold gAb at hg
  split at hg
  · rename_i t' c n heq
    simp only [List.cons.injEq, and_true] at heq
    obtain ⟨rfl, rfl, rfl⟩ := heq
    simp only [dT_eT, Option.ite_none_right_eq_some, Option.some.injEq] at hg
    obtain ⟨hn, rfl⟩ := hg
    have hn' : ¬ (100 : Int) < n.size := by omega
    simp only [q1u, q03, go_br, q04, q05, allSay, X.says, X.ev, X.evs, evl, tblS, List.getD_cons_zero, List.getD_cons_succ, List.getElem?_cons_zero, List.getElem?_cons_succ, tt_b, int_i, str_s, rs_r, Option.isSome_some, Option.getD_some, decide_eq_true_eq, decide_eq_false_iff_not, List.length_map, i_inj, b_inj, s_inj, rng64, List.take_succ_cons, List.take_zero, List.nil_append, List.cons_append, decide_true, decide_false, Bool.or_true, true_and, and_true, dT_eT, eT_0, eT_1, eT_2, eT_3, eT_eq, eT_z, gTb, aboutT]
    refine ⟨fun h => by
      have h : validT t = false := by simpa using h
      rw [h]
      rfl, fun h => ?_⟩
    have h : validT t = true := by simpa using h
    rw [if_pos h, go_loop]
    refine ⟨fun st => st = [.r [], .i 0, eT zT] ∨ st = [.r [eT (atomT n)], .i 1, eT zT], fun st => 1 - (st.getD 1 .u).int.toNat, .inl rfl, ?_⟩
    rintro st - (rfl | rfl)
    · have g0 : (D.r [D.s n]).get 0 = .s n := rfl
      have l0 : ((D.r [D.s n]).rs.length : Int) = 1 := rfl
      simp only [q03, go_br, q04, q05, allSay, X.says, X.ev, X.evs, evl, tblS, List.getD_cons_zero, List.getD_cons_succ, List.getElem?_cons_zero, List.getElem?_cons_succ, tt_b, int_i, str_s, rs_r, Option.isSome_some, Option.getD_some, decide_eq_true_eq, decide_eq_false_iff_not, List.length_map, i_inj, b_inj, s_inj, rng64, List.take_succ_cons, List.take_zero, List.nil_append, List.cons_append, decide_true, decide_false, Bool.or_true, true_and, and_true, dT_eT, eT_0, eT_1, eT_2, eT_3, eT_eq, eT_z, g0, hn', gSt, List.length_cons, List.length_nil]
      refine ⟨fun _ => ⟨⟨by omega, by omega⟩, fun hh => ?_, fun _ => ?_⟩, fun hh => by omega⟩
      · cases hh
      · refine ⟨by omega, ⟨by omega, by omega⟩, ?_⟩
        rw [updB, if_pos rfl]
        refine ⟨.inr rfl, ?_⟩
        simp [D.int]
    · have l0 : ((D.r [D.s n]).rs.length : Int) = 1 := rfl
      have l1 : ((D.r [eT (atomT n)]).rs.length : Int) = 1 := rfl
      have ha : atomT sDots = atomR sDots := atomT_ok (by decide)
      simp only [q03, go_br, q04, q05, allSay, X.says, X.ev, X.evs, evl, tblS, List.getD_cons_zero, List.getD_cons_succ, List.getElem?_cons_zero, List.getElem?_cons_succ, tt_b, int_i, str_s, rs_r, Option.isSome_some, Option.getD_some, decide_eq_true_eq, decide_eq_false_iff_not, List.length_map, i_inj, b_inj, s_inj, rng64, List.take_succ_cons, List.take_zero, List.nil_append, List.cons_append, decide_true, decide_false, Bool.or_true, true_and, and_true, dT_eT, eT_0, eT_1, eT_2, eT_3, eT_eq, eT_z, gSt, gTi, gSL, rs_r, List.map_cons, List.map_nil, List.map_append, List.length_cons, List.length_nil, culT, ha]
      refine ⟨fun hh => by omega, fun _ => ⟨⟨⟨by omega, by omega⟩, by omega, by omega⟩, fun h2 => ⟨by omega, ?_⟩, fun h2 => ⟨by omega, ?_⟩⟩⟩
      · rw [if_pos (by omega)]
      · rw [if_neg (by omega)]
  · cases hg
def instT : Te := raiseT sInst []
theorem ok_balls_Inst : FOk q0l (fun _ => some [eT instT]) := fok_balls_Inst q1s fun ds outs hw hg => by
  obtain rfl : ds = [] := hw
  simp only [Option.some.injEq] at hg
  subst hg
  simp only [q2v, q03, go_br, q04, q05, allSay, X.says, X.ev, X.evs, evl, tblS, List.getD_cons_zero, List.getD_cons_succ, List.getElem?_cons_zero, List.getElem?_cons_succ, tt_b, int_i, str_s, rs_r, Option.isSome_some, Option.getD_some, decide_eq_true_eq, decide_eq_false_iff_not, List.length_map, i_inj, b_inj, s_inj, rng64, List.take_succ_cons, List.take_zero, List.nil_append, List.cons_append, decide_true, decide_false, Bool.or_true, true_and, and_true, dT_eT, eT_0, eT_1, eT_2, eT_3, eT_eq, eT_z, gSL, rs_r, List.map_nil, instT]
end Go.Proofs.Ytloekfnlidclcaa


namespace Go.Proofs.Ytloekfnlidclcaa
open Go.RowKit
set_option linter.unusedVariables false
set_option linter.unusedSimpArgs false
set_option maxRecDepth 100000

abbrev sAtom : ByteArray := ⟨#[97, 116, 111, 109]⟩
abbrev sInteger : ByteArray := ⟨#[105, 110, 116, 101, 103, 101, 114]⟩
abbrev sList : ByteArray := ⟨#[108, 105, 115, 116]⟩
abbrev sChar : ByteArray := ⟨#[99, 104, 97, 114, 97, 99, 116, 101, 114]⟩
abbrev sCode : ByteArray := ⟨#[99, 104, 97, 114, 97, 99, 116, 101, 114, 95, 99, 111, 100, 101]⟩
abbrev sPred : ByteArray := ⟨#[112, 114, 101, 100, 105, 99, 97, 116, 101, 95, 105, 110, 100, 105, 99, 97, 116, 111, 114]⟩
abbrev sLess : ByteArray := ⟨#[110, 111, 116, 95, 108, 101, 115, 115, 95, 116, 104, 97, 110, 95, 122, 101, 114, 111]⟩
abbrev sMaxA : ByteArray := ⟨#[109, 97, 120, 95, 97, 114, 105, 116, 121]⟩
abbrev sDomain : ByteArray := ⟨#[100, 111, 109, 97, 105, 110, 95, 101, 114, 114, 111, 114]⟩
abbrev sRepr : ByteArray := ⟨#[114, 101, 112, 114, 101, 115, 101, 110, 116, 97, 116, 105, 111, 110, 95, 101, 114, 114, 111, 114]⟩
abbrev sDot : ByteArray := ⟨#[46]⟩
abbrev sSlash : ByteArray := ⟨#[47]⟩
abbrev s0 : ByteArray := ⟨#[]⟩
theorem eT_z0 : D.a [.i 0, .i 0, .s ⟨#[]⟩, .r []] = eT zT := rfl

def gTyG (c : ByteArray) : List D → Option (List D)
  | [.s k, t] => if k.size ≤ 100 then some [eT (aboutT (dT t) c k)] else none
  | _ => none
theorem ok_typeG : FOk q0a (gTyG sType) := fok_balls_Type ok_balls_about fun ds outs hw hg => by
  obtain ⟨d, r, rfl, hd, e, r', rfl, he, rfl⟩ := hw
  obtain ⟨s, rfl, hs⟩ := hd.str
  obtain ⟨t, rfl, ht⟩ := wfT he
  simp only [gTyG, dT_eT, Option.ite_none_right_eq_some, Option.some.injEq] at hg
  obtain ⟨hk, rfl⟩ := hg
  simp only [q1x, q03, go_br, q04, q05, allSay, X.says, X.ev, X.evs, evl, tblS, List.getD_cons_zero, List.getD_cons_succ, List.getElem?_cons_zero, List.getElem?_cons_succ, tt_b, int_i, str_s, rs_r, Option.isSome_some, Option.getD_some, decide_eq_true_eq, decide_eq_false_iff_not, List.length_map, i_inj, b_inj, s_inj, rng64, List.take_succ_cons, List.take_zero, List.nil_append, List.cons_append, decide_true, decide_false, Bool.or_true, true_and, and_true, dT_eT, eT_0, eT_1, eT_2, eT_3, eT_eq, eT_z, gAb, if_pos hk]
theorem ok_balls_Domain : FOk q15 (gTyG sDomain) := fok_balls_Domain ok_balls_about fun ds outs hw hg => by
  obtain ⟨d, r, rfl, hd, e, r', rfl, he, rfl⟩ := hw
  obtain ⟨s, rfl, hs⟩ := hd.str
  obtain ⟨t, rfl, ht⟩ := wfT he
  simp only [gTyG, dT_eT, Option.ite_none_right_eq_some, Option.some.injEq] at hg
  obtain ⟨hk, rfl⟩ := hg
  simp only [q22, q03, go_br, q04, q05, allSay, X.says, X.ev, X.evs, evl, tblS, List.getD_cons_zero, List.getD_cons_succ, List.getElem?_cons_zero, List.getElem?_cons_succ, tt_b, int_i, str_s, rs_r, Option.isSome_some, Option.getD_some, decide_eq_true_eq, decide_eq_false_iff_not, List.length_map, i_inj, b_inj, s_inj, rng64, List.take_succ_cons, List.take_zero, List.nil_append, List.cons_append, decide_true, decide_false, Bool.or_true, true_and, and_true, dT_eT, eT_0, eT_1, eT_2, eT_3, eT_eq, eT_z, gAb, if_pos hk]
def namedT (c n : ByteArray) : Te := if 100 < n.size then zT else raiseT c [atomT n]
def gNm : List D → Option (List D)
  | [.s c, .s n] => some [eT (namedT c n)]
  | _ => none
theorem ok_balls_named : FOk q0n gNm := fok_balls_named q1z q1s fun ds outs hw hg => by
  obtain ⟨d, r, rfl, hd, e, r', rfl, he, rfl⟩ := hw
  obtain ⟨c, rfl, hc⟩ := hd.str
  obtain ⟨n, rfl, hn⟩ := he.str
  simp only [gNm, Option.some.injEq] at hg
  subst hg
  simp only [q2g, q03, go_br, q04, q05, allSay, X.says, X.ev, X.evs, evl, tblS, List.getD_cons_zero, List.getD_cons_succ, List.getElem?_cons_zero, List.getElem?_cons_succ, tt_b, int_i, str_s, rs_r, Option.isSome_some, Option.getD_some, decide_eq_true_eq, decide_eq_false_iff_not, List.length_map, i_inj, b_inj, s_inj, rng64, List.take_succ_cons, List.take_zero, List.nil_append, List.cons_append, decide_true, decide_false, Bool.or_true, true_and, and_true, dT_eT, eT_0, eT_1, eT_2, eT_3, eT_eq, eT_z, gSt, gSL, List.map_cons, List.map_nil, namedT]
  refine ⟨fun h => ?_, fun h => ?_⟩
  · rw [if_pos (by omega)]
  · rw [if_neg (by omega)]
def gRep : List D → Option (List D)
  | [.s n] => some [eT (namedT sRepr n)]
  | _ => none
theorem q1o : FOk q08 gRep := q37 ok_balls_named fun ds outs hw hg => by
  obtain ⟨d, r, rfl, hd, rfl⟩ := hw
  obtain ⟨n, rfl, hn⟩ := hd.str
  simp only [gRep, Option.some.injEq] at hg
  subst hg
  simp only [q1n, q03, go_br, q04, q05, allSay, X.says, X.ev, X.evs, evl, tblS, List.getD_cons_zero, List.getD_cons_succ, List.getElem?_cons_zero, List.getElem?_cons_succ, tt_b, int_i, str_s, rs_r, Option.isSome_some, Option.getD_some, decide_eq_true_eq, decide_eq_false_iff_not, List.length_map, i_inj, b_inj, s_inj, rng64, List.take_succ_cons, List.take_zero, List.nil_append, List.cons_append, decide_true, decide_false, Bool.or_true, true_and, and_true, dT_eT, eT_0, eT_1, eT_2, eT_3, eT_eq, eT_z, gNm]

def boundT (t : Te) : Te × Bool := if validT t = false then (zT, false) else if t.k = 0 then (instT, false) else (zT, true)
def gTB (f : Te → Te × Bool) : List D → Option (List D)
  | [t] => some [eT (f (dT t)).1, .b (f (dT t)).2]
  | _ => none
theorem q20 : FOk q0g (gTB boundT) := fok_balls_bound q1q ok_balls_Inst fun ds outs hw hg => by
  obtain ⟨d, r, rfl, hd, rfl⟩ := hw
  obtain ⟨t, rfl, ht⟩ := wfT hd
  simp only [gTB, dT_eT, Option.some.injEq] at hg
  subst hg
  simp only [q2e, q03, go_br, q04, q05, allSay, X.says, X.ev, X.evs, evl, tblS, List.getD_cons_zero, List.getD_cons_succ, List.getElem?_cons_zero, List.getElem?_cons_succ, tt_b, int_i, str_s, rs_r, Option.isSome_some, Option.getD_some, decide_eq_true_eq, decide_eq_false_iff_not, List.length_map, i_inj, b_inj, s_inj, rng64, List.take_succ_cons, List.take_zero, List.nil_append, List.cons_append, decide_true, decide_false, Bool.or_true, true_and, and_true, dT_eT, eT_0, eT_1, eT_2, eT_3, eT_eq, eT_z, gTb, boundT]
  cases hv : validT t with
  | false => simp [eT_z0]
  | true =>
    by_cases h0 : t.k = 0
    · simp [h0]
    · simp [h0, eT_z0]
def atomC (t : Te) : ByteArray × Te × Bool := if (boundT t).2 = false then (s0, (boundT t).1, false) else if t.k ≠ 2 then (s0, aboutT t sType sAtom, false) else (t.s, zT, true)
def gTSB (f : Te → ByteArray × Te × Bool) : List D → Option (List D)
  | [t] => some [.s (f (dT t)).1, eT (f (dT t)).2.1, .b (f (dT t)).2.2]
  | _ => none
def gTIB (f : Te → Int × Te × Bool) : List D → Option (List D)
  | [t] => some [.i (f (dT t)).1, eT (f (dT t)).2.1, .b (f (dT t)).2.2]
  | _ => none
theorem ty100 {k : ByteArray} (hk : k.size ≤ 100) (t : Te) (c : ByteArray) : gTyG c [.s k, eT t] = some [eT (aboutT t c k)] := by
  simp only [gTyG, dT_eT, if_pos hk]
theorem ok_balls_Atom : FOk q0v (gTSB atomC) := fok_balls_Atom q20 ok_typeG fun ds outs hw hg => by
  obtain ⟨d, r, rfl, hd, rfl⟩ := hw
  obtain ⟨t, rfl, ht⟩ := wfT hd
  simp only [gTSB, dT_eT, Option.some.injEq] at hg
  subst hg
  simp only [q2k, q03, go_br, q04, q05, allSay, X.says, X.ev, X.evs, evl, tblS, List.getD_cons_zero, List.getD_cons_succ, List.getElem?_cons_zero, List.getElem?_cons_succ, tt_b, int_i, str_s, rs_r, Option.isSome_some, Option.getD_some, decide_eq_true_eq, decide_eq_false_iff_not, List.length_map, i_inj, b_inj, s_inj, rng64, List.take_succ_cons, List.take_zero, List.nil_append, List.cons_append, decide_true, decide_false, Bool.or_true, true_and, and_true, dT_eT, eT_0, eT_1, eT_2, eT_3, eT_eq, eT_z, gTB, ty100 (k := sAtom) (by decide), atomC]
  cases hb : (boundT t).2 with
  | false => simp
  | true =>
    by_cases h2 : t.k = 2
    · simp [h2, eT_z0]
    · simp [h2]
def intC (t : Te) : Int × Te × Bool := if (boundT t).2 = false then (0, (boundT t).1, false) else if t.k ≠ 1 then (0, aboutT t sType sInteger, false) else (t.n, zT, true)
theorem ok_balls_Int : FOk q12 (gTIB intC) := fok_balls_Int q20 ok_typeG fun ds outs hw hg => by
  obtain ⟨d, r, rfl, hd, rfl⟩ := hw
  obtain ⟨t, rfl, ht⟩ := wfT hd
  simp only [gTIB, dT_eT, Option.some.injEq] at hg
  subst hg
  simp only [q2y, q03, go_br, q04, q05, allSay, X.says, X.ev, X.evs, evl, tblS, List.getD_cons_zero, List.getD_cons_succ, List.getElem?_cons_zero, List.getElem?_cons_succ, tt_b, int_i, str_s, rs_r, Option.isSome_some, Option.getD_some, decide_eq_true_eq, decide_eq_false_iff_not, List.length_map, i_inj, b_inj, s_inj, rng64, List.take_succ_cons, List.take_zero, List.nil_append, List.cons_append, decide_true, decide_false, Bool.or_true, true_and, and_true, dT_eT, eT_0, eT_1, eT_2, eT_3, eT_eq, eT_z, gTB, ty100 (k := sInteger) (by decide), intC]
  cases hb : (boundT t).2 with
  | false => simp
  | true =>
    by_cases h2 : t.k = 1
    · simp [h2, eT_z0]
    · simp [h2]
def charC (t : Te) : Int × Te × Bool := if (boundT t).2 = false then (0, (boundT t).1, false) else if t.k ≠ 2 ∨ t.s.size ≠ 1 then (0, aboutT t sType sChar, false) else (((t.s.data.getD 0 0).toNat : Nat), zT, true)
theorem ok_balls_Char : FOk q1m (gTIB charC) := fok_balls_Char q20 ok_typeG fun ds outs hw hg => by
  obtain ⟨d, r, rfl, hd, rfl⟩ := hw
  obtain ⟨t, rfl, ht⟩ := wfT hd
  simp only [gTIB, dT_eT, Option.some.injEq] at hg
  subst hg
  simp only [q2i, q03, go_br, q04, q05, allSay, X.says, X.ev, X.evs, evl, tblS, List.getD_cons_zero, List.getD_cons_succ, List.getElem?_cons_zero, List.getElem?_cons_succ, tt_b, int_i, str_s, rs_r, Option.isSome_some, Option.getD_some, decide_eq_true_eq, decide_eq_false_iff_not, List.length_map, i_inj, b_inj, s_inj, rng64, List.take_succ_cons, List.take_zero, List.nil_append, List.cons_append, decide_true, decide_false, Bool.or_true, true_and, and_true, dT_eT, eT_0, eT_1, eT_2, eT_3, eT_eq, eT_z, gTB, ty100 (k := sChar) (by decide), charC, Int.toNat_zero]
  cases hb : (boundT t).2 with
  | false => simp
  | true =>
    by_cases h2 : t.k = 2
    · by_cases h1 : t.s.size = 1
      · have hlt := (t.s.data.getD 0 0).toNat_lt
        simp [h2, h1, eT_z0]
        have hb := UInt8.toNat_lt (t.s.data[0]'(by show 0 < t.s.data.size; have : t.s.data.size = t.s.size := rfl; omega))
        omega
      · have h1' : ¬ (t.s.size : Int) = 1 := by omega
        simp [h2, h1, h1']
    · simp [h2]
def codeC (t : Te) : Int × Te × Bool := if (intC t).2.2 = false then (0, (intC t).2.1, false) else if (intC t).1 < 0 ∨ 255 < (intC t).1 then (0, namedT sRepr sCode, false) else ((intC t).1, zT, true)
theorem ok_balls_Code : FOk q18 (gTIB codeC) := fok_balls_Code ok_balls_Int q1o fun ds outs hw hg => by
  obtain ⟨d, r, rfl, hd, rfl⟩ := hw
  obtain ⟨t, rfl, ht⟩ := wfT hd
  simp only [gTIB, dT_eT, Option.some.injEq] at hg
  subst hg
  simp only [q2q, q03, go_br, q04, q05, allSay, X.says, X.ev, X.evs, evl, tblS, List.getD_cons_zero, List.getD_cons_succ, List.getElem?_cons_zero, List.getElem?_cons_succ, tt_b, int_i, str_s, rs_r, Option.isSome_some, Option.getD_some, decide_eq_true_eq, decide_eq_false_iff_not, List.length_map, i_inj, b_inj, s_inj, rng64, List.take_succ_cons, List.take_zero, List.nil_append, List.cons_append, decide_true, decide_false, Bool.or_true, true_and, and_true, dT_eT, eT_0, eT_1, eT_2, eT_3, eT_eq, eT_z, gTIB, gRep, codeC]
  cases hb : (intC t).2.2 with
  | false => simp
  | true =>
    by_cases h2 : (intC t).1 < 0 ∨ 255 < (intC t).1
    · rw [if_pos h2]
      rcases h2 with h2 | h2
      · simp [h2]
      · have h3 : ¬ (intC t).1 < 0 := by omega
        simp [h2, h3]
    · simp [h2, eT_z0]
def isInd (t : Te) : Prop := t.k = 3 ∧ t.s = sSlash ∧ t.l.length = 2
instance (t : Te) : Decidable (isInd t) := inferInstanceAs (Decidable (_ ∧ _))
def indC (t : Te) : ByteArray × Int × Te × Bool :=
  if (boundT t).2 = false then (s0, 0, (boundT t).1, false)
  else if ¬ isInd t then (s0, 0, aboutT t sType sPred, false)
  else if (t.l.getD 0 default).k = 0 ∨ (t.l.getD 1 default).k = 0 then (s0, 0, instT, false)
  else if (atomC (t.l.getD 0 default)).2.2 = false then (s0, 0, (atomC (t.l.getD 0 default)).2.1, false)
  else if (intC (t.l.getD 1 default)).2.2 = false then (s0, 0, (intC (t.l.getD 1 default)).2.1, false)
  else if (intC (t.l.getD 1 default)).1 < 0 then (s0, 0, aboutT (t.l.getD 1 default) sDomain sLess, false)
  else if 8 < (intC (t.l.getD 1 default)).1 then (s0, 0, namedT sRepr sMaxA, false)
  else ((atomC (t.l.getD 0 default)).1, (intC (t.l.getD 1 default)).1, zT, true)
def gInd : List D → Option (List D)
  | [t] => some [.s (indC (dT t)).1, .i (indC (dT t)).2.1, eT (indC (dT t)).2.2.1, .b (indC (dT t)).2.2.2]
  | _ => none
theorem q33 : FOk q0m gInd := fok_balls_Indicator q20 ok_typeG ok_balls_Inst ok_balls_Atom ok_balls_Int ok_balls_Domain q1o fun ds outs hw hg => by
  obtain ⟨d, r, rfl, hd, rfl⟩ := hw
  obtain ⟨t, rfl, ht⟩ := wfT hd
  simp only [gInd, dT_eT, Option.some.injEq] at hg
  subst hg
  unfold indC
  simp only [q1w, q03, go_br, q04, q05, allSay, X.says, X.ev, X.evs, evl, tblS, List.getD_cons_zero, List.getD_cons_succ, List.getElem?_cons_zero, List.getElem?_cons_succ, tt_b, int_i, str_s, rs_r, Option.isSome_some, Option.getD_some, decide_eq_true_eq, decide_eq_false_iff_not, List.length_map, i_inj, b_inj, s_inj, rng64, List.take_succ_cons, List.take_zero, List.nil_append, List.cons_append, decide_true, decide_false, Bool.or_true, true_and, and_true, dT_eT, eT_0, eT_1, eT_2, eT_3, eT_eq, eT_z, gTB, ty100 (k := sPred) (by decide)]
  cases hb : (boundT t).2 with
  | false => simp
  | true =>
    by_cases hi : isInd t
    · obtain ⟨h3, hs, hl⟩ := hi
      have g0 : (D.r (t.l.map eT)).get 0 = eT (t.l.getD 0 default) := get_n (i := 0) eT (by omega)
      have g1 : (D.r (t.l.map eT)).get 1 = eT (t.l.getD 1 default) := get_n (i := 1) eT (by omega)
      have hl' : (t.l.length : Int) = 2 := by omega
      have hi : isInd t := ⟨h3, hs, hl⟩
      simp only [q03, go_br, q04, q05, allSay, X.says, X.ev, X.evs, evl, tblS, List.getD_cons_zero, List.getD_cons_succ, List.getElem?_cons_zero, List.getElem?_cons_succ, tt_b, int_i, str_s, rs_r, Option.isSome_some, Option.getD_some, decide_eq_true_eq, decide_eq_false_iff_not, List.length_map, i_inj, b_inj, s_inj, rng64, List.take_succ_cons, List.take_zero, List.nil_append, List.cons_append, decide_true, decide_false, Bool.or_true, true_and, and_true, dT_eT, eT_0, eT_1, eT_2, eT_3, eT_eq, eT_z, h3, hs, hl', hi, g0, g1, gTSB, gTIB, gRep, ty100 (k := sLess) (by decide)]
      generalize t.l.getD 0 default = u
      generalize t.l.getD 1 default = v
      by_cases hv : u.k = 0 ∨ v.k = 0
      · rcases hv with q | q <;> simp [q]
      · have hu0 : ¬ u.k = 0 := fun q => hv (.inl q)
        have hv0 : ¬ v.k = 0 := fun q => hv (.inr q)
        cases ha : (atomC u).2.2 with
        | false => simp [hu0, hv0, ha]
        | true =>
          cases hn : (intC v).2.2 with
          | false => simp [hu0, hv0, ha, hn]
          | true =>
            by_cases hlt : (intC v).1 < 0
            · simp [hu0, hv0, ha, hn, hlt]
            · by_cases hgt : 8 < (intC v).1
              · simp [hu0, hv0, ha, hn, hlt, hgt]
              · simp [hu0, hv0, ha, hn, hlt, hgt, eT_z0]
    · have hc : ((!decide (t.k = 3) || !decide (t.s = sSlash)) || !decide ((t.l.length : Int) = 2)) = true := by
        refine Classical.byContradiction fun q => hi ?_
        simp at q
        exact ⟨q.1.1, q.1.2, by omega⟩
      simp [hi, hc]
def isCons (t : Te) : Prop := t.k = 3 ∧ t.s = sDot ∧ t.l.length = 2
instance (t : Te) : Decidable (isCons t) := inferInstanceAs (Decidable (_ ∧ _))
def tailN : Nat → Te → Te
  | 0, t => t
  | k + 1, t => if isCons t then tailN k (t.l.getD 1 default) else t
def elN : Nat → Te → List Te
  | 0, _ => []
  | k + 1, t => if isCons t then cloneT (t.l.getD 0 default) :: elN k (t.l.getD 1 default) else []
def listC (t : Te) : List Te × Te × Bool :=
  if validT t = false then ([], zT, false)
  else if (tailN (szT t) t).k = 0 then ([], instT, false)
  else if (tailN (szT t) t).k = 2 ∧ (tailN (szT t) t).s = sNil then (elN (szT t) t, zT, true)
  else ([], aboutT t sType sList, false)
def gLst : List D → Option (List D)
  | [t] => some [.r ((listC (dT t)).1.map eT), eT (listC (dT t)).2.1, .b (listC (dT t)).2.2]
  | _ => none
theorem sz_pos (t : Te) : 1 ≤ szT t := by
  cases t
  rw [szT]
  omega
theorem ok_balls_List : FOk q16 gLst := fok_balls_List q1q q30 ok_balls_Inst ok_typeG fun ds outs hw hg => by
  obtain ⟨d, r, rfl, hd, rfl⟩ := hw
  obtain ⟨t, rfl, ht⟩ := wfT hd
  simp only [gLst, dT_eT, Option.some.injEq] at hg
  subst hg
  unfold listC
  simp only [q2l, q03, go_br, q04, q05, allSay, X.says, X.ev, X.evs, evl, tblS, List.getD_cons_zero, List.getD_cons_succ, List.getElem?_cons_zero, List.getElem?_cons_succ, tt_b, int_i, str_s, rs_r, Option.isSome_some, Option.getD_some, decide_eq_true_eq, decide_eq_false_iff_not, List.length_map, i_inj, b_inj, s_inj, rng64, List.take_succ_cons, List.take_zero, List.nil_append, List.cons_append, decide_true, decide_false, Bool.or_true, true_and, and_true, dT_eT, eT_0, eT_1, eT_2, eT_3, eT_eq, eT_z, gTb, ty100 (k := sList) (by decide)]
  cases hv : validT t with
  | false => simp [eT_z0]
  | true =>
    have hz := (validT_iff.1 hv).1
    simp only [q03, go_br, q04, q05, allSay, X.says, X.ev, X.evs, evl, tblS, List.getD_cons_zero, List.getD_cons_succ, List.getElem?_cons_zero, List.getElem?_cons_succ, tt_b, int_i, str_s, rs_r, Option.isSome_some, Option.getD_some, decide_eq_true_eq, decide_eq_false_iff_not, List.length_map, i_inj, b_inj, s_inj, rng64, List.take_succ_cons, List.take_zero, List.nil_append, List.cons_append, decide_true, decide_false, Bool.or_true, true_and, and_true, dT_eT, eT_0, eT_1, eT_2, eT_3, eT_eq, eT_z, Bool.true_eq_false, false_implies, true_implies, Bool.not_true, if_false, reduceCtorEq]
    rw [go_loop]
    refine ⟨fun st => ∃ (acc : List Te) (r : Te) (m : Nat), st = [.r (acc.map eT), eT r] ∧ szT r ≤ m ∧ acc.length + szT r ≤ 2000 ∧ tailN m r = tailN (szT t) t ∧ acc ++ elN m r = elN (szT t) t, fun st => szT (dT (st.getD 1 .u)), ⟨[], t, szT t, rfl, Nat.le_refl _, by simpa using hz, rfl, rfl⟩, ?_⟩
    rintro st - ⟨acc, r, m, rfl, hm, hlen, htl, hel⟩
    have hp := sz_pos r
    obtain ⟨m, rfl⟩ : ∃ k, m = k + 1 := ⟨m - 1, by omega⟩
    rw [tailN] at htl
    rw [elN] at hel
    by_cases hc : isCons r
    · obtain ⟨h3, hs, hl⟩ := hc
      have hc : isCons r := ⟨h3, hs, hl⟩
      rw [if_pos hc] at htl hel
      have g0 : (D.r (r.l.map eT)).get 0 = eT (r.l.getD 0 default) := get_n (i := 0) eT (by omega)
      have g1 : (D.r (r.l.map eT)).get 1 = eT (r.l.getD 1 default) := get_n (i := 1) eT (by omega)
      have hl' : (r.l.length : Int) = 2 := by omega
      have hsz := arg_sz (t := r) (k := 1) (by omega)
      simp only [q03, go_br, q04, q05, allSay, X.says, X.ev, X.evs, evl, tblS, List.getD_cons_zero, List.getD_cons_succ, List.getElem?_cons_zero, List.getElem?_cons_succ, tt_b, int_i, str_s, rs_r, Option.isSome_some, Option.getD_some, decide_eq_true_eq, decide_eq_false_iff_not, List.length_map, i_inj, b_inj, s_inj, rng64, List.take_succ_cons, List.take_zero, List.nil_append, List.cons_append, decide_true, decide_false, Bool.or_true, true_and, and_true, dT_eT, eT_0, eT_1, eT_2, eT_3, eT_eq, eT_z, h3, hs, hl', g0, g1, gTT, Int.reduceLT, Int.reduceLE]
      refine ⟨fun _ => ⟨by omega, ?_⟩, fun h => by simp at h⟩
      rw [updB, if_pos rfl]
      refine ⟨⟨acc ++ [cloneT (r.l.getD 0 default)], r.l.getD 1 default, m, by simp, by omega, by rw [List.length_append, List.length_singleton]; omega, htl, by rw [List.append_assoc]; exact hel⟩, ?_⟩
      simpa [dT_eT] using hsz
    · rw [if_neg hc] at htl hel
      rw [← htl, ← hel, List.append_nil]
      have hcb : ((decide (r.k = 3) && decide (r.s = sDot)) && decide ((r.l.length : Int) = 2)) = false := by
        rw [Bool.eq_false_iff]
        intro q
        simp at q
        exact hc ⟨q.1.1, q.1.2, by omega⟩
      simp only [q03, go_br, q04, q05, allSay, X.says, X.ev, X.evs, evl, tblS, List.getD_cons_zero, List.getD_cons_succ, List.getElem?_cons_zero, List.getElem?_cons_succ, tt_b, int_i, str_s, rs_r, Option.isSome_some, Option.getD_some, decide_eq_true_eq, decide_eq_false_iff_not, List.length_map, i_inj, b_inj, s_inj, rng64, List.take_succ_cons, List.take_zero, List.nil_append, List.cons_append, decide_true, decide_false, Bool.or_true, true_and, and_true, dT_eT, eT_0, eT_1, eT_2, eT_3, eT_eq, eT_z, hcb]
      by_cases h0 : r.k = 0
      · simp [h0]
      · by_cases h2 : r.k = 2 ∧ r.s = sNil
        · simp [h2.1, h2.2, eT_z0]
        · have hcn : (decide (r.k = 2) && decide (r.s = sNil)) = false := by
            rw [Bool.eq_false_iff]
            intro q
            simp at q
            exact h2 q
          simp [h0, h2, hcn, ty100 (k := sList) (by decide)]
end Go.Proofs.Ytloekfnlidclcaa


namespace Go.Proofs.Ytloekfnlidclcaa
open Go.RowKit
set_option linter.unusedVariables false
set_option linter.unusedSimpArgs false
set_option maxRecDepth 100000

def isErrB (b : Te) : Bool := validT b && (decide (b.k = 3) && (decide (b.s = sErr) && decide (b.l.length = 2)))
def frmT (b : Te) : Te := if isErrB b then cloneT (b.l.getD 0 default) else zT
def gForm : List D → Option (List D)
  | [b] => some [eT (frmT (dT b)), .b (isErrB (dT b))]
  | _ => none
theorem ok_balls_Formal : FOk q10 gForm := fok_balls_Formal q1q q30 fun ds outs hw hg => by
  obtain ⟨d, r, rfl, hd, rfl⟩ := hw
  obtain ⟨b, rfl, hb⟩ := wfT hd
  simp only [gForm, dT_eT, Option.some.injEq] at hg
  subst hg
  simp only [q25, q03, go_br, q04, q05, allSay, X.says, X.ev, X.evs, evl, tblS, List.getD_cons_zero, List.getD_cons_succ, List.getElem?_cons_zero, List.getElem?_cons_succ, tt_b, int_i, str_s, rs_r, Option.isSome_some, Option.getD_some, decide_eq_true_eq, decide_eq_false_iff_not, List.length_map, i_inj, b_inj, s_inj, rng64, List.take_succ_cons, List.take_zero, List.nil_append, List.cons_append, decide_true, decide_false, Bool.or_true, true_and, and_true, dT_eT, eT_0, eT_1, eT_2, eT_3, eT_eq, eT_z, gTb, frmT]
  have e : (decide ((b.l.length : Int) = 2)) = decide (b.l.length = 2) := decide_eq_decide.2 (by omega)
  cases hf : isErrB b with
  | false =>
    have hc : (((!validT b || !decide (b.k = 3)) || !decide (b.s = sErr)) || !decide ((b.l.length : Int) = 2)) = true := by
      rw [e]
      unfold isErrB at hf
      revert hf
      cases validT b <;> cases decide (b.k = 3) <;> cases decide (b.s = sErr) <;> cases decide (b.l.length = 2) <;> simp
    simp only [hc]
    simp [eT_z0]
  | true =>
    have hf' := hf
    unfold isErrB at hf'
    simp only [Bool.and_eq_true, decide_eq_true_eq] at hf'
    obtain ⟨hv, h3, hs, hl⟩ := hf'
    have g0 : (D.r (b.l.map eT)).get 0 = eT (b.l.getD 0 default) := get_n (i := 0) eT (by omega)
    simp only [hv, h3, hs, hl, g0, gTT, q03, go_br, q04, q05, allSay, X.says, X.ev, X.evs, evl, tblS, List.getD_cons_zero, List.getD_cons_succ, List.getElem?_cons_zero, List.getElem?_cons_succ, tt_b, int_i, str_s, rs_r, Option.isSome_some, Option.getD_some, decide_eq_true_eq, decide_eq_false_iff_not, List.length_map, i_inj, b_inj, s_inj, rng64, List.take_succ_cons, List.take_zero, List.nil_append, List.cons_append, decide_true, decide_false, Bool.or_true, true_and, and_true, dT_eT, eT_0, eT_1, eT_2, eT_3, eT_eq, eT_z]
    simp
structure Chk (t b : Te) (ok : Bool) : Prop where
  inv : validT t = false → b = zT ∧ ok = false
  yes : ok = true → b = zT
  no : validT t = true → ok = false → isErrB b = true
  var : validT t = true → t.k = 0 → b = instT ∧ ok = false
def gTeI (f : Int → Te) : List D → Option (List D)
  | [n] => some [eT (f n.int)]
  | _ => none
theorem ok_law06_x : FOk q1l (gTeI fun n => .mk 0 n ⟨#[]⟩ []) := fok_law06_x fun ds outs hw hg => by
  obtain ⟨d, r, rfl, hd, rfl⟩ := hw
  obtain ⟨n, rfl, hn⟩ := wfI hd
  simp only [gTeI, int_i, Option.some.injEq] at hg
  subst hg
  simp only [tree_law06_x, q03, go_br, q04, q05, allSay, X.says, X.ev, X.evs, evl, tblS, List.getD_cons_zero, List.getD_cons_succ, List.getElem?_cons_zero, List.getElem?_cons_succ, tt_b, int_i, str_s, rs_r, Option.isSome_some, Option.getD_some, decide_eq_true_eq, decide_eq_false_iff_not, List.length_map, i_inj, b_inj, s_inj, rng64, List.take_succ_cons, List.take_zero, List.nil_append, List.cons_append, decide_true, decide_false, Bool.or_true, true_and, and_true, dT_eT, eT_0, eT_1, eT_2, eT_3, eT_eq, eT_z]
  rfl
theorem ok_law06_n : FOk q1b (gTeI fun n => .mk 1 n ⟨#[]⟩ []) := fok_law06_n fun ds outs hw hg => by
  obtain ⟨d, r, rfl, hd, rfl⟩ := hw
  obtain ⟨n, rfl, hn⟩ := wfI hd
  simp only [gTeI, int_i, Option.some.injEq] at hg
  subst hg
  simp only [tree_law06_n, q03, go_br, q04, q05, allSay, X.says, X.ev, X.evs, evl, tblS, List.getD_cons_zero, List.getD_cons_succ, List.getElem?_cons_zero, List.getElem?_cons_succ, tt_b, int_i, str_s, rs_r, Option.isSome_some, Option.getD_some, decide_eq_true_eq, decide_eq_false_iff_not, List.length_map, i_inj, b_inj, s_inj, rng64, List.take_succ_cons, List.take_zero, List.nil_append, List.cons_append, decide_true, decide_false, Bool.or_true, true_and, and_true, dT_eT, eT_0, eT_1, eT_2, eT_3, eT_eq, eT_z]
  rfl
def gTeS (f : ByteArray → Te) : List D → Option (List D)
  | [s] => some [eT (f s.str)]
  | _ => none
theorem ok_law06_a : FOk q0u (gTeS atomR) := fok_law06_a fun ds outs hw hg => by
  obtain ⟨d, r, rfl, hd, rfl⟩ := hw
  obtain ⟨s, rfl, hs⟩ := hd.str
  simp only [gTeS, str_s, Option.some.injEq] at hg
  subst hg
  simp only [tree_law06_a, q03, go_br, q04, q05, allSay, X.says, X.ev, X.evs, evl, tblS, List.getD_cons_zero, List.getD_cons_succ, List.getElem?_cons_zero, List.getElem?_cons_succ, tt_b, int_i, str_s, rs_r, Option.isSome_some, Option.getD_some, decide_eq_true_eq, decide_eq_false_iff_not, List.length_map, i_inj, b_inj, s_inj, rng64, List.take_succ_cons, List.take_zero, List.nil_append, List.cons_append, decide_true, decide_false, Bool.or_true, true_and, and_true, dT_eT, eT_0, eT_1, eT_2, eT_3, eT_eq, eT_z]
  rfl
theorem ok_law06_f : FOk q0t (gSL fun s l => .mk 3 0 s l) := fok_law06_f fun ds outs hw hg => by
  obtain ⟨d, r, rfl, hd, e, r', rfl, he, rfl⟩ := hw
  obtain ⟨s, rfl, hs⟩ := hd.str
  obtain ⟨l, rfl, hl, -⟩ := wfTs he
  simp only [gSL, str_s, rs_r, map_dT, Option.some.injEq] at hg
  subst hg
  simp only [tree_law06_f, q03, go_br, q04, q05, allSay, X.says, X.ev, X.evs, evl, tblS, List.getD_cons_zero, List.getD_cons_succ, List.getElem?_cons_zero, List.getElem?_cons_succ, tt_b, int_i, str_s, rs_r, Option.isSome_some, Option.getD_some, decide_eq_true_eq, decide_eq_false_iff_not, List.length_map, i_inj, b_inj, s_inj, rng64, List.take_succ_cons, List.take_zero, List.nil_append, List.cons_append, decide_true, decide_false, Bool.or_true, true_and, and_true, dT_eT, eT_0, eT_1, eT_2, eT_3, eT_eq, eT_z, eT_mk]
  rfl
def errT (t : Te) : Te := .mk 3 0 sErr [t, atomR sNil]
theorem ok_law06_error1 : FOk q0z (gTT errT) := fok_law06_error1 ok_law06_a ok_law06_f fun ds outs hw hg => by
  obtain ⟨d, r, rfl, hd, rfl⟩ := hw
  obtain ⟨t, rfl, ht⟩ := wfT hd
  simp only [gTT, dT_eT, Option.some.injEq] at hg
  subst hg
  simp only [q24, q03, go_br, q04, q05, allSay, X.says, X.ev, X.evs, evl, tblS, List.getD_cons_zero, List.getD_cons_succ, List.getElem?_cons_zero, List.getElem?_cons_succ, tt_b, int_i, str_s, rs_r, Option.isSome_some, Option.getD_some, decide_eq_true_eq, decide_eq_false_iff_not, List.length_map, i_inj, b_inj, s_inj, rng64, List.take_succ_cons, List.take_zero, List.nil_append, List.cons_append, decide_true, decide_false, Bool.or_true, true_and, and_true, dT_eT, eT_0, eT_1, eT_2, eT_3, eT_eq, eT_z, gTeS, gSL, List.map_cons, List.map_nil, errT]
theorem ok_law06_same : FOk q17 (gTTb sameT) := fok_law06_same ok_ref03_Same fun ds outs hw hg => by
  obtain ⟨d, r, rfl, hd, e, r', rfl, he, rfl⟩ := hw
  obtain ⟨t, rfl, ht⟩ := wfT hd
  obtain ⟨u, rfl, hu⟩ := wfT he
  simp only [gTTb, dT_eT, Option.some.injEq] at hg
  subst hg
  simp only [q2r, q03, go_br, q04, q05, allSay, X.says, X.ev, X.evs, evl, tblS, List.getD_cons_zero, List.getD_cons_succ, List.getElem?_cons_zero, List.getElem?_cons_succ, tt_b, int_i, str_s, rs_r, Option.isSome_some, Option.getD_some, decide_eq_true_eq, decide_eq_false_iff_not, List.length_map, i_inj, b_inj, s_inj, rng64, List.take_succ_cons, List.take_zero, List.nil_append, List.cons_append, decide_true, decide_false, Bool.or_true, true_and, and_true, dT_eT, eT_0, eT_1, eT_2, eT_3, eT_eq, eT_z, gTTb]
def g_about2 : List D → Option (List D) := denF [(q0b, gTb validT), (q0j, gSt atomT), (q0y, gTi fun t => min (szT t : Int) 2001), (q0c, gSL raiseT)] 12 q1u
theorem ok_about2 : FOk q09 g_about2 := fok_balls_about q1q q1z ok_term_Size q1s fun ds outs hw hg => go_denF hg
def g_perm : List D → Option (List D) := denF [(q09, g_about2)] 12 q1r
theorem ok_perm : FOk q0p g_perm := fok_balls_Permission ok_about2 fun ds outs hw hg => go_denF hg
theorem ok_term_Int : FOk q1g (denF [] 12 q28) := fok_term_Int fun ds outs hw hg => go_denF hg
def g_syn : List D → Option (List D) := denF [(q1g, denF [] 12 q28), (q0c, gSL raiseT)] 12 q23
theorem ok_syn : FOk q11 g_syn := fok_balls_Syntax ok_term_Int q1s fun ds outs hw hg => go_denF hg
def gYesU : List D → Option (List D) := fun _ => some [.b true]
theorem ok_law06_awake : FOk q1k gYesU := fok_law06_awake ok_law06_a ok_law06_n ok_law06_f ok_perm ok_law06_x ok_balls_Formal ok_balls_Atom ok_balls_Code ok_balls_List q33 ok_law06_error1 ok_law06_same ok_syn fun ds outs hw hg => by
  obtain rfl : ds = [] := hw
  simp only [gYesU, Option.some.injEq] at hg
  subst hg
  exact go_denF (fuel := 12) (by kernel_rfl)
end Go.Proofs.Ytloekfnlidclcaa


namespace Go.Proofs.Ytloekfnlidclcaa
open Go.RowKit
set_option linter.unusedVariables false
set_option maxRecDepth 100000

def q0i : Ct := ⟨9, [], [(.bool, false)], [], none⟩
theorem enter_law06_BallsKnown (args : Array Value) (w : World) : (callFunc q0i.f args).run Try.prog w = .ok (.enter q0i.f args) w := by kernel_rfl
def q1i : Ann := ⟨[0, 1, 2, 4, 6, 7, 9, 11, 12, 13, 15, 17, 18, 20, 21, 22, 24, 27, 28, 31, 32, 35, 60, 119], []⟩
end Go.Proofs.Ytloekfnlidclcaa


namespace Go.Proofs.Ytloekfnlidclcaa
open Go.RowKit
set_option linter.unusedVariables false
set_option maxRecDepth 100000

def headC : Nat → Code → Code
  | 0, _ => .skip
  | m + 1, .seq a b => .seq a (headC m b)
  | _ + 1, c => c
def tailC : Nat → Code → Code
  | 0, c => c
  | m + 1, .seq _ b => tailC m b
  | _ + 1, _ => .skip
theorem toT_cut {P : Program} {tbl : Tbl} {ann : Ann} {lo z : Nat} : ∀ (m : Nat) (c : Code) (ids : List Nat) (n : Nat) (σ : St) (k : Nat → ResD → St → Tree),
    toT P tbl ann lo z c ids n σ k = toT P tbl ann lo z (headC m c) ids n σ fun n' r σ' => match r with
      | .normal => toT P tbl ann lo z (tailC m c) ids n' σ' k
      | .ret => k n' .ret σ'
      | .exit i => k n' (.exit i) σ'
  | 0, c, ids, n, σ, k => by simp only [headC, tailC, toT]
  | m + 1, c, ids, n, σ, k => by
    have triv : (fun (n' : Nat) (r : ResD) (σ' : St) => match r with
        | .normal => toT P tbl ann lo z .skip ids n' σ' k
        | .ret => k n' .ret σ'
        | .exit i => k n' (.exit i) σ') = k := by
      funext n' r σ'
      cases r <;> simp [toT]
    cases c with
    | seq a b =>
      simp only [headC, tailC, toT]
      congr 1
      funext n' r σ'
      cases r with
      | normal => exact toT_cut m b ids n' σ' k
      | ret => rfl
      | exit i => rfl
    | _ => simp only [headC, tailC, triv]
theorem den_cut {P : Program} {tbl : Tbl} {ann : Ann} {lo z : Nat} {cd : Code} {ids : List Nat} {n n1 : Nat} {σ σ1 : St} {k : Nat → ResD → St → Tree} {S : Nat → List D → Option (List D)} {fuel : Nat} {l : List D} {out : Nat × List D} (m : Nat)
    (hA : ∀ K, (toT P tbl ann lo z (headC m cd) ids n σ K).den S fuel l = (K n1 .normal σ1).den S fuel l)
    (hB : (toT P tbl ann lo z (tailC m cd) ids n1 σ1 k).den S fuel l = some out) : (toT P tbl ann lo z cd ids n σ k).den S fuel l = some out := by
  rw [toT_cut m, hA]
  exact hB
end Go.Proofs.Ytloekfnlidclcaa


namespace Go.Proofs.Ytloekfnlidclcaa
open Go.RowKit
set_option linter.unusedVariables false
set_option maxRecDepth 100000

theorem lvls_step {P : Program} {tbl : Tbl} {ds : List (Option Tmp)} {ops : List Oper} {ms : List Nat} {n : Nat} {lv : List Nd × List X} {l' : List Nd} {N' : List X} {acc : List (List Nd)} {R : Option (List (List Nd) × List X)}
    (h : nextN P tbl ds ops ms lv = some (l', N')) (hne : l'.isEmpty = false) (hr : lvlsN P tbl ds ops ms n (l', N') (lv.1 :: acc) = R) : lvlsN P tbl ds ops ms (n + 1) lv acc = R := by
  rw [lvlsN, h]
  cases l' with
  | nil => cases hne
  | cons e r => exact hr
theorem lvls_end {P : Program} {tbl : Tbl} {ds : List (Option Tmp)} {ops : List Oper} {ms : List Nat} {n : Nat} {lv : List Nd × List X} {N' : List X} {acc : List (List Nd)}
    (h : nextN P tbl ds ops ms lv = some ([], N')) : lvlsN P tbl ds ops ms (n + 1) lv acc = some ((lv.1 :: acc).reverse, lv.2) := by
  rw [lvlsN, h]
theorem okN_cons {P : Program} {tbl : Tbl} {ds : List (Option Tmp)} {ops : List Oper} {ms : List Nat} {N : List X} {l : St} {lv lv' : List Nd} {r : List (List Nd)}
    (h : (lv.all fun e => ndB P N ops ms e.1 e.2 && (!(sigFrom ops ms 0 e.1).isEmpty && (sigFrom ops ms 0 e.1).all (stepB P tbl ds ops N e.1 e.2 lv'))) = true) (hr : okN P tbl ds ops ms N l (lv' :: r) = true) : okN P tbl ds ops ms N l (lv :: lv' :: r) = true := by
  rw [okN, h, hr]
  rfl
theorem all_cons {α : Type} {p : α → Bool} {x : α} {l : List α} (h : p x = true) (hr : l.all p = true) : (x :: l).all p = true := by
  rw [List.all_cons, h, hr]
  rfl
theorem segN_of {P : Program} {tbl : Tbl} {σ σ1 σf : St} {l : List Oper} {C : Nat} {N1 N : List X} {L : List (List Nd)} (h1 : formB (dsts l) l (l.map maskOf) 0 l (l.map maskOf) = true) (h2 : closeL P l (l.map maskOf) 0 0 σ [] = some (C, σ1, N1))
    (h3 : lvlsN P tbl (dsts l) l (l.map maskOf) l.length ([(C, σ1)], N1) [] = some (L, N)) (h4 : lastN L = some σf) (h5 : okN P tbl (dsts l) l (l.map maskOf) N σf L = true) (h6 : startB l σ L = true) : segN P tbl σ l = some (N, σf) := by
  unfold segN
  rw [if_pos h1, h2]
  simp only
  rw [h3]
  simp only
  rw [h4]
  simp only
  rw [if_pos (by rw [h5, h6]; rfl)]
theorem seg2_of {P : Program} {tbl : Tbl} {lo z : Nat} {σ σf : St} {l : List Oper} {N : List X} (h0 : l.all (dstB lo z) = true) (h : segN P tbl σ l = some (N, σf)) : seg2 P tbl lo z σ l true = some (N, σf) := by
  unfold seg2
  rw [if_pos (by rw [h0]; rfl), h]
theorem den_reg {P : Program} {tbl : Tbl} {ann : Ann} {lo z id n : Nat} {ops : Array Oper} {d : Bool} {rest : Code} {ids : List Nat} {σ σf : St} {k : Nat → ResD → St → Tree} {S : Nat → List D → Option (List D)} {fuel : Nat} {l : List D} {out : Nat × List D}
    (h : seg2 P tbl lo z σ ops.toList d = some ([], σf)) (hB : (toT P tbl ann lo z rest ids n (prune ann.pub σf) k).den S fuel l = some out) : (toT P tbl ann lo z (.seq (.region id ops d) rest) ids n σ k).den S fuel l = some out := by
  simp only [toT, h, needT]
  exact hB
theorem go_cut {P : Program} {tbl : Tbl} {ann : Ann} {ct : Ct} {fn : Func} {cd : Code} {σ1 : St} {outs : List D} {l : List D} {fuel : Nat} (m : Nat)
    (hA : ∀ K, (toT P tbl ann ct.ar.length fn.ntmps (headC m cd) [] (dataN ct.ars) (begS ct) K).den (tblS tbl) fuel l = (K 0 .normal σ1).den (tblS tbl) fuel l)
    (hB : (toT P tbl ann ct.ar.length fn.ntmps (tailC m cd) [] 0 σ1 (endT ct fn.results.toList)).den (tblS tbl) fuel l = some (0, outs)) : (treeOf P tbl ann ct fn cd).go (tblS tbl) (fun o => o = outs) l fun _ _ => False :=
  go_of_den _ (den_cut m hA hB) rfl
theorem fok_two {ct : Ct} {tbl : Tbl} {σ1 : St} {outs : List D} {fuel : Nat} (ann : Ann) (fn : Func) (cd : Code) (htb : TblOk tbl) (hf : Try.prog.funcs[ct.f]? = some fn) (hb : fn.body = some cd)
    (hen : ∀ args w, (callFunc ct.f args).run Try.prog w = .ok (.enter ct.f args) w) (hsz : ct.ar.length ≤ fn.ntmps) (hars : ct.ars = []) (hnp : noPan tbl = true) (m : Nat)
    (hA : ∀ K, (toT Try.prog tbl ann ct.ar.length fn.ntmps (headC m cd) [] (dataN ct.ars) (begS ct) K).den (tblS tbl) fuel [] = (K 0 .normal σ1).den (tblS tbl) fuel [])
    (hB : (toT Try.prog tbl ann ct.ar.length fn.ntmps (tailC m cd) [] 0 σ1 (endT ct fn.results.toList)).den (tblS tbl) fuel [] = some (0, outs)) : FOk ct fun _ => some outs :=
  q0f ann fn cd htb hf hb hen hsz (fun ds outs' hw hg => by
    have hds : ds = [] := by rw [hars] at hw; exact hw
    subst hds
    injection hg with hg
    subst hg
    exact go_cut m hA hB) hnp

noncomputable def regA : Code → Array Oper
  | .region _ ops _ => ops
  | _ => #[]
def nthC : Nat → Code → Code
  | 0, .seq a _ => a
  | m + 1, .seq _ b => nthC m b
  | _, _ => .skip
end Go.Proofs.Ytloekfnlidclcaa


namespace Go.Proofs.Ytloekfnlidclcaa
open Go.RowKit
set_option linter.unusedVariables false
set_option linter.unusedSimpArgs false
set_option maxRecDepth 1000000

def listK : Nat → Te
  | 0 => atomR sNil
  | n + 1 => .mk 3 0 sDot [.mk 1 1 ⟨#[]⟩ [], listK n]
def gLiK : List D → Option (List D)
  | [k] => if k.int ≤ 2000 then some [eT (listK k.int.toNat)] else none
  | _ => none
theorem ok_listK : FOk q0x gLiK := fok_law06_BallsKnown_1 ok_law06_a ok_law06_n ok_law06_f fun ds outs hw hg => by
  obtain ⟨d, r, rfl, hd, rfl⟩ := hw
  obtain ⟨k, rfl, hk⟩ := wfI hd
  have hk2 : k ≤ 2000 := Decidable.byContradiction fun h => by simp [gLiK, int_i, h] at hg
  rw [show gLiK [.i k] = some [eT (listK k.toNat)] by simp [gLiK, int_i, hk2]] at hg
  injection hg with hg
  subst hg
  simp only [q1p, q03, go_br, q04, q05, allSay, X.says, X.ev, X.evs, evl, tblS, List.getD_cons_zero, List.getD_cons_succ, List.getElem?_cons_zero, List.getElem?_cons_succ, tt_b, int_i, str_s, rs_r, Option.isSome_some, Option.getD_some, decide_eq_true_eq, decide_eq_false_iff_not, List.length_map, i_inj, b_inj, s_inj, rng64, List.take_succ_cons, List.take_zero, List.nil_append, List.cons_append, decide_true, decide_false, Bool.or_true, true_and, and_true, dT_eT, eT_0, eT_1, eT_2, eT_3, eT_eq, eT_z, gTeS]
  rw [go_loop]
  refine ⟨fun st => ∃ i : Nat, (i ≤ k.toNat) ∧ st = [.i i, eT (listK i)], fun st => k.toNat - (st.getD 0 .u).int.toNat, ⟨0, Nat.zero_le _, rfl⟩, ?_⟩
  rintro st - ⟨i, hi, rfl⟩
  simp only [q03, go_br, q04, q05, allSay, X.says, X.ev, X.evs, evl, tblS, List.getD_cons_zero, List.getD_cons_succ, List.getElem?_cons_zero, List.getElem?_cons_succ, tt_b, int_i, str_s, rs_r, Option.isSome_some, Option.getD_some, decide_eq_true_eq, decide_eq_false_iff_not, List.length_map, i_inj, b_inj, s_inj, rng64, List.take_succ_cons, List.take_zero, List.nil_append, List.cons_append, decide_true, decide_false, Bool.or_true, true_and, and_true, dT_eT, eT_0, eT_1, eT_2, eT_3, eT_eq, eT_z, gTeI, gSL, List.map_cons, List.map_nil]
  refine ⟨fun hlt => ⟨⟨by omega, by omega⟩, ?_⟩, fun hge => ?_⟩
  · rw [updB, if_pos rfl]
    refine ⟨⟨i + 1, by omega, by simp [listK]⟩, ?_⟩
    simp [D.int]
    omega
  · have : i = k.toNat := by omega
    subst this
    rfl
def g_type2 : List D → Option (List D) := denF [(q09, g_about2)] 12 q1x
theorem ok_type2 : FOk q0a g_type2 := fok_balls_Type ok_about2 fun ds outs hw hg => go_denF hg
def g_uninst : List D → Option (List D) := denF [(q09, g_about2)] 12 q26
theorem ok_uninst : FOk q1h g_uninst := fok_balls_Uninst ok_about2 fun ds outs hw hg => go_denF hg
def g_eval : List D → Option (List D) := denF [(q0n, gNm)] 12 q1t
theorem ok_eval : FOk q13 g_eval := fok_balls_Evaluation ok_balls_named fun ds outs hw hg => go_denF hg
def ct_flag : Ct := ⟨31, [], [(.st 4242424242, true)], [], none⟩
theorem ok_flag : FOk ct_flag fun _ => none := ⟨enter_law06_x, fun A p w vs us ds outs h => by cases h⟩
def tblK : Tbl := [(ct_flag, fun _ => none), (q0x, gLiK), (q0a, g_type2), (q0u, gTeS atomR), (q0t, gSL fun s l => .mk 3 0 s l), (q0z, gTT errT), (q17, gTTb sameT), (q1l, gTeI fun n => .mk 0 n ⟨#[]⟩ []), (q11, g_syn), (q1b, gTeI fun n => .mk 1 n ⟨#[]⟩ []), (q1h, g_uninst), (q13, g_eval), (q08, gRep), (q10, gForm), (q18, gTIB codeC), (q1m, gTIB charC), (q16, gLst), (q0m, gInd), (q1k, gYesU)]
theorem tblK_ok : TblOk tblK := .cons ok_flag (.cons ok_listK (.cons ok_type2 (.cons ok_law06_a (.cons ok_law06_f (.cons ok_law06_error1 (.cons ok_law06_same (.cons ok_law06_x (.cons ok_syn (.cons ok_law06_n (.cons ok_uninst (.cons ok_eval (.cons q1o (.cons ok_balls_Formal (.cons ok_balls_Code (.cons ok_balls_Char (.cons ok_balls_List (.cons q33 (.cons ok_law06_awake .nil))))))))))))))))))
noncomputable def bodyK : Code := match Try.f9.body with | some c => c | none => .ret
theorem bodyK_eq : Try.f9.body = some bodyK := by kernel_rfl
end Go.Proofs.Ytloekfnlidclcaa


namespace Go.Proofs.Ytloekfnlidclcaa
open Go.ChangeShapes Go.WideShapes Go.ChangeAt Go.RowKit
set_option linter.unusedVariables false
set_option maxRecDepth 100000

theorem own_knobD : ownKnob Try.prog.godebug = none := by kernel_rfl
section
variable {H : Type} {enc : TypeId × Value → H} {W : World} {base : Nat} {spare : Nat → Bool} {held : Bool}

end

def ArgsV (W : World) : List Ar → List Value → List D → Prop
  | [], vs, ds => vs = [] ∧ ds = []
  | .val t :: l, vs, ds => ∃ v r d ds', vs = v :: r ∧ ds = d :: ds' ∧ (∃ cs, Pack t cs v ∧ Rd W (FFD (fun _ => True) (fun _ => none) []) d t cs) ∧ ArgsV W l r ds'
  | _ :: _, _, _ => False
theorem ArgsV.ok {W : World} {V : List Value} : ∀ {i : Nat} {ar : List Ar} {vs : List Value} {ds : List D}, ArgsV W ar vs ds → ArgsOk V (fun _ => True) (fun _ => none) W (idx i ar) vs ds ∧ vs.length = ar.length
  | _, [], vs, ds, h => ⟨h, by rw [h.1]; rfl⟩
  | i, .val t :: l, vs, ds, ⟨v, r, d, ds', e1, e2, h1, h⟩ => by
    obtain ⟨h2, h3⟩ := ArgsV.ok (V := V) (i := i + 1) h
    exact ⟨⟨v, r, d, ds', e1, e2, h1, h2⟩, by rw [e1]; simp [h3]⟩
  | _, .ref _ :: _, _, _, h => h.elim
  | _, .rref _ :: _, _, _, h => h.elim
  | _, .own _ :: _, _, _, h => h.elim
  | _, .mref _ :: _, _, _, h => h.elim
  | _, .nils :: _, _, _, h => h.elim
  | _, .nilp :: _, _, _, h => h.elim
  | _, .fn _ _ :: _, _, _, h => h.elim
  | _, .cell _ _ :: _, _, _, h => h.elim
theorem law_calls {ct : Ct} {g : List D → Option (List D)} (h : FOk ct g) (hrs : ct.rs = [(.bool, false)]) (hvr : ct.vr = []) {W : World} {vs : List Value} {ds : List D} (ha : ArgsV W ct.ar vs ds) (hg : g ds = some [.b true]) :
    Calls Try.prog ct.f vs.toArray W fun e W' => e = .returned (.bool true) ∧ But Nil W W' := by
  obtain ⟨h1, h2⟩ := ArgsV.ok (V := vs ++ []) (i := 0) ha
  refine (h.call (fun _ => True) (fun _ => none) W vs [] ds _ hg (by constructor <;> simp) h2 (by simpa [Ct.all, hvr, idx] using h1)).mono ?_
  rintro e W' (⟨T, -, ho, -⟩ | ⟨rs, p', rfl, hb, hr, -⟩)
  · cases ho
  rw [hrs] at hr
  obtain ⟨v, r, d, ds', rfl, hd, ⟨cs, hp, hc⟩, rfl⟩ := hr
  simp at hd
  obtain ⟨rfl, rfl⟩ := hd
  obtain ⟨e1, e2⟩ : D.b true = .b true ∧ cs = [.bool true] := ⟨rfl, by
    have hc' : Rd W' (FFD (fun _ => True) p' []) (.b true) .bool cs := hc
    exact hc'.2⟩
  subst e2
  have hpv : [Value.bool true] = [v] := hp
  injection hpv with hpv
  subst hpv
  exact ⟨rfl, hb.but.mono fun i hi _ => by obtain ⟨x, hx⟩ := hi; cases hx⟩
end Go.Proofs.Ytloekfnlidclcaa

