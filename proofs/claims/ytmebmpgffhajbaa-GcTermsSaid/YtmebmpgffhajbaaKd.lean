/-
  Lemmas of the walk and plain laws, put together. No condition.
-/
import Derived.Great.BuildSlice
import Derived.OrdersHeld
import Derived.Test.YtmebmpgffhajbaaKc
namespace Go.Proofs.Ytmebmpgffhajbaa
open Go.RowKit
set_option linter.unusedVariables false
set_option maxRecDepth 100000

def allB (e : Ev) : List X → Bool
  | [] => true
  | x :: l => (x.ev e).tt && allB e l
theorem allB_ok {e : Ev} : ∀ {l : List X}, allB e l = true → allSay e l
  | [], _ => trivial
  | x :: l, h => by
    simp only [allB, Bool.and_eq_true] at h
    exact ⟨h.1, allB_ok h.2⟩

def itf (f : List D → Option (Nat × List D)) (id : Nat) : Nat → List D → Option (Nat × List D)
  | 0, _ => none
  | k + 1, st => match f st with
    | some (j, st') => if Nat.beq j (id + 1) then itf f id k st' else some (j, st')
    | none => none

def sameOut : Nat × List D → Nat × List D → Bool := fun a b => Nat.beq a.1 b.1 && D.beqs a.2 b.2

def Tree.den (S : Nat → List D → Option (List D)) (fuel : Nat) : Tree → List D → Option (Nat × List D)
  | .bad _, _ => none
  | .need ns t, l => if allB (evl S l) ns then t.den S fuel l else none
  | .br x t e, l => if (x.ev (evl S l)).tt then t.den S fuel l else e.den S fuel l
  | .amb x neg t e, l => if (x.ev (evl S l)).rs.isEmpty then (match t.den S fuel l, e.den S fuel l with
      | some a, some b => if sameOut a b then some a else none
      | _, _ => none) else if neg then t.den S fuel l else e.den S fuel l
  | .leaf xs, l => some (0, X.evs (evl S l) xs)
  | .back id xs, l => some (id + 1, X.evs (evl S l) xs)
  | .loop id n init body, l => itf (fun st => body.den S fuel (l.take n ++ st)) id fuel (X.evs (evl S l) init)

def outOk (R : List D → Prop) (B : Nat → List D → Prop) : Nat × List D → Prop
  | (0, xs) => R xs
  | (id + 1, xs) => B id xs

theorem beqs_eq : ∀ {l m : List D}, D.beqs l m = true → l = m
  | [], [], _ => rfl
  | x :: l, y :: m, h => by
    simp only [D.beqs, Bool.and_eq_true] at h
    rw [(D.q0c _ _).1 h.1, beqs_eq h.2]
  | [], _ :: _, h => by simp [D.beqs] at h
  | _ :: _, [], h => by simp [D.beqs] at h

theorem sameOut_ok {a b : Nat × List D} (h : sameOut a b = true) : a = b := by
  obtain ⟨i, l⟩ := a
  obtain ⟨j, m⟩ := b
  simp only [sameOut, Bool.and_eq_true] at h
  rw [Nat.eq_of_beq_eq_true h.1, beqs_eq h.2]

theorem least_of {P : Nat → Prop} (h : ∃ k, P k) : ∃ m, P m ∧ ∀ k, P k → m ≤ k := by
  obtain ⟨k, hk⟩ := h
  induction k using Nat.strongRecOn with
  | _ k ih =>
    by_cases hl : ∃ j, j < k ∧ P j
    · obtain ⟨j, hj, hp⟩ := hl
      exact ih j hj hp
    · exact ⟨k, hk, fun j hj => Nat.le_of_not_lt fun hlt => hl ⟨j, hlt, hj⟩⟩
open Classical in
noncomputable def leastN (P : Nat → Prop) : Nat := if h : ∃ k, P k then (least_of h).choose else 0
theorem leastN_ok {P : Nat → Prop} (h : ∃ k, P k) : P (leastN P) ∧ ∀ k, P k → leastN P ≤ k := by
  unfold leastN
  rw [dif_pos h]
  exact (least_of h).choose_spec

theorem go_of_den {S : Nat → List D → Option (List D)} {fuel : Nat} {R : List D → Prop} : ∀ (t : Tree) {l : List D} {B : Nat → List D → Prop} {out : Nat × List D}, t.den S fuel l = some out → outOk R B out → t.go S R l B := by
  intro t
  induction t with
  | bad n => intro l B out h; cases h
  | need ns t ih =>
    intro l B out h ho
    unfold Tree.den at h
    split at h
    · rename_i hs
      exact ⟨allB_ok hs, ih h ho⟩
    · cases h
  | br x t e iht ihe =>
    intro l B out h ho
    unfold Tree.den at h
    refine ⟨fun hx => ?_, fun hx => ?_⟩
    · rw [if_pos hx] at h
      exact iht h ho
    · rw [if_neg (by rw [hx]; decide)] at h
      exact ihe h ho
  | amb x neg t e iht ihe =>
    intro l B out h ho
    unfold Tree.den at h
    split at h
    · split at h
      · rename_i a b ha hb
        split at h
        · rename_i hs
          injection h with h
          subst h
          have := sameOut_ok hs
          subst this
          exact ⟨fun _ => iht ha ho, fun _ => ihe hb ho⟩
        · cases h
      · cases h
    · rename_i hne
      have hne' : ¬ (x.ev (evl S l)).rs = [] := fun e => hne (by rw [e]; rfl)
      split at h
      · rename_i hn
        exact ⟨fun _ => iht h ho, fun hc => absurd (hc hn) hne'⟩
      · rename_i hn
        exact ⟨fun hc => absurd (hc (by simpa using hn)) hne', fun _ => ihe h ho⟩
  | leaf xs =>
    intro l B out h ho
    simp only [Tree.den, Option.some.injEq] at h
    subst h
    exact ho
  | back id xs =>
    intro l B out h ho
    simp only [Tree.den, Option.some.injEq] at h
    subst h
    exact ho
  | loop id n init body ih =>
    intro l B out h ho
    unfold Tree.den at h
    generalize hf : (fun st => body.den S fuel (l.take n ++ st)) = f at h
    have hfe : ∀ st, body.den S fuel (l.take n ++ st) = f st := fun st => by rw [← hf]
    -- more rounds answer alike
    have mono : ∀ k st o, itf f id k st = some o → itf f id (k + 1) st = some o := by
      intro k
      induction k with
      | zero => intro st o h; cases h
      | succ k ihk =>
        intro st o h
        unfold itf at h ⊢
        split at h
        · rename_i j st' hj
          split at h
          · rename_i hb
            rw [if_pos hb]
            exact ihk _ _ h
          · rename_i hb
            rw [if_neg hb]
            exact h
        · cases h
    refine ⟨fun st => ∃ k o, itf f id k st = some o ∧ outOk R B o, fun st => leastN fun k => (itf f id k st).isSome = true, ⟨fuel, out, h, ho⟩, ?_⟩
    rintro st - ⟨k, o, hk, hoo⟩
    have hex : ∃ k, (itf f id k st).isSome = true := ⟨k, by rw [hk]; rfl⟩
    obtain ⟨hmin, -⟩ := leastN_ok hex
    obtain ⟨o', ho'⟩ := Option.isSome_iff_exists.1 hmin
    have up : ∀ a b st o, itf f id a st = some o → itf f id (a + b) st = some o := by
      intro a b
      induction b with
      | zero => intro st o h; exact h
      | succ b ihb => intro st o h; exact mono _ _ _ (ihb st o h)
    have hoo' : o' = o := by
      have h1 := up _ k st o' ho'
      have h2 := up k (leastN fun k => (itf f id k st).isSome = true) st o hk
      rw [Nat.add_comm] at h2
      exact Option.some.inj (h1.symm.trans h2)
    rw [hoo'] at ho'
    cases hm : leastN (fun k => (itf f id k st).isSome = true) with
    | zero => rw [hm] at ho'; cases ho'
    | succ m =>
      rw [hm] at ho'
      unfold itf at ho'
      split at ho'
      · rename_i j st' hj
        refine ih ((hfe st).trans hj) ?_
        split at ho'
        · rename_i hb
          obtain rfl := Nat.eq_of_beq_eq_true hb
          show updB B id _ id st'
          unfold updB
          rw [if_pos rfl]
          refine ⟨⟨m, o, ho', hoo⟩, ?_⟩
          have hex' : ∃ k, (itf f id k st').isSome = true := ⟨m, by rw [ho']; rfl⟩
          show _ < leastN (fun k => (itf f id k st).isSome = true)
          rw [hm]
          exact Nat.lt_succ_of_le ((leastN_ok hex').2 m (by rw [ho']; rfl))
        · rename_i hb
          injection ho' with ho'
          subst ho'
          cases j with
          | zero => exact hoo
          | succ j =>
            show updB B id _ j st'
            unfold updB
            rw [if_neg]
            · exact hoo
            · intro e
              subst e
              exact hb (Nat.beq_refl _)
      · cases ho'

def outs0 : Option (Nat × List D) → Option (List D)
  | some (0, xs) => some xs
  | _ => none
theorem outs0_ok {o : Option (Nat × List D)} {xs : List D} (h : outs0 o = some xs) : o = some (0, xs) := by
  unfold outs0 at h
  split at h
  · injection h with h; rw [h]
  · cases h

def denF (tbl : Tbl) (fuel : Nat) (t : Tree) : List D → Option (List D) := fun ds => outs0 (t.den (tblS tbl) fuel ds)
theorem q16 {tbl : Tbl} {fuel : Nat} {t : Tree} {ds outs : List D} (h : denF tbl fuel t ds = some outs) : t.go (tblS tbl) (fun o => o = outs) ds fun _ _ => False :=
  go_of_den t (outs0_ok h) rfl

theorem FOk.none {ct : Ct} (hen : ∀ args w, (callFunc ct.f args).run Try.prog w = .ok (.enter ct.f args) w) : FOk ct fun _ => Option.none := ⟨hen, fun A p w vs us ds outs h => by cases h⟩
def cutM (m : List D → Nat) (n : Nat) (g : List D → Option (List D)) : List D → Option (List D) := fun ds => if m ds < n then g ds else none
theorem fok_cut {ct : Ct} {m : List D → Nat} {g : List D → Option (List D)} (hen : ∀ args w, (callFunc ct.f args).run Try.prog w = .ok (.enter ct.f args) w) (h : ∀ n, FOk ct (cutM m n g) → FOk ct (cutM m (n + 1) g)) : FOk ct g := by
  have key : ∀ n, FOk ct (cutM m n g) := by
    intro n
    induction n with
    | zero => exact ⟨hen, fun A p w vs us ds outs h => by simp [cutM] at h⟩
    | succ n ih => exact h n ih
  refine ⟨hen, fun A p w vs us ds outs hg hp hl ha => (key (m ds + 1)).call A p w vs us ds outs ?_ hp hl ha⟩
  simp only [cutM, if_pos (Nat.lt_succ_self _)]
  exact hg
theorem FOk.sub {ct : Ct} {g g' : List D → Option (List D)} (h : FOk ct g) (hs : ∀ ds outs, g' ds = some outs → g ds = some outs) : FOk ct g' := ⟨h.enter, fun A p w vs us ds outs hg hp hl ha => h.call A p w vs us ds outs (hs ds outs hg) hp hl ha⟩
end Go.Proofs.Ytmebmpgffhajbaa


namespace Go.Proofs.Ytmebmpgffhajbaa
open Go.RowKit
set_option linter.unusedVariables false
set_option maxRecDepth 100000

section
variable {A A' : Nat → Prop} {p : Pins} {w : World} (hA : ∀ b, b < w.heap.size → A b → A' b)
include hA

theorem FFD.chA {dep : List Nat} {b : Nat} (hb : b < w.heap.size) (h : FFD A p dep b) : FFD A' p dep b := by
  rcases h with ⟨h1, h2⟩ | h
  · exact .inl ⟨hA b hb h1, h2⟩
  · exact .inr h

theorem Rd.chA {dep : List Nat} {d : D} {t : Ty} {cs : List Value} (h : Rd w (FFD A p dep) d t cs) : Rd w (FFD A' p dep) d t cs := Rd.mono (fun b hb hf => hf.chA hA hb) h

theorem Fl.chA {dep : List Nat} {o : Option Nat} {d : D} {t : Ty} {cs : List Value} (h : Fl A p w dep o d t cs) : Fl A' p w dep o d t cs := by
  cases o with
  | none => exact Rd.chA hA h
  | some pin =>
    rcases h with ⟨E, te, l, v, e1, hte, e2, e3, hv⟩ | h
    · refine .inl ⟨E, te, l, v, e1, hte, e2, e3, ?_⟩
      rcases hv with hv | ⟨g, cap, cur, e4, hg, hh, q1, q2, q3, q4, q5⟩
      · exact .inl hv
      · refine .inr ⟨g, cap, cur, e4, hg, hh, q1, q2, q3, q4, fun i hi => ?_⟩
        obtain ⟨vs, hr1, hd⟩ := q5 i hi
        exact ⟨vs, hr1, Rd.chA hA hd⟩
    · exact .inr h

theorem Fls.chA {dep : List Nat} {own : List (Nat × Nat)} : ∀ {ds : List D} {j : Nat} {fs : List Ty} {cs : List Value}, Fls A p w dep own j ds fs cs → Fls A' p w dep own j ds fs cs
  | [], _, _, _, h => h
  | d :: ds, j, fs, cs, ⟨t, ts, c1, c2, e1, e2, h1, h2⟩ => ⟨t, ts, c1, c2, e1, e2, Fl.chA hA h1, Fls.chA h2⟩

theorem Con.chA {dep : List Nat} {own : List (Nat × Nat)} {d : D} {t : Ty} {cs : List Value} (h : Con A p w d t own dep cs) : Con A' p w d t own dep cs := by
  unfold Con at h ⊢
  split
  · obtain ⟨fs, ds, hf, e, h⟩ := h
    exact ⟨fs, ds, hf, e, Fls.chA hA h⟩
  · rename_i hne
    split at h
    · rename_i T; exact absurd rfl (hne T)
    · exact Fl.chA hA h
end

mutual
/-- No word of a snapshot within. -/
def AV.plain : AV → Bool
  | .sn _ _ => false
  | .pt _ _ _ _ => false
  | .ar _ _ _ => false
  | .lv _ _ => false
  | .ax _ _ _ _ => false
  | .tup l => avsPlain l
  | .gd _ a => AV.plain a
  | .fn _ l => avsPlain l
  | .bx _ _ a => AV.plain a
  | .fr _ a => AV.plain a
  | _ => true
def avsPlain : List AV → Bool
  | [] => true
  | a :: l => AV.plain a && avsPlain l
end

section
variable {c c' : Cx} {p : Pins} {w : World}
mutual
theorem AV.chA (hA : ∀ b, b < w.heap.size → c.A b → c'.A b) (hv : c.v = c'.v) (hT : c.At = c'.At) : ∀ (x : AV) (v : Value), x.plain = true → x.pd c p w v → x.pd c' p w v
  | .any, v, _, h => h
  | .undef, v, _, h => h
  | .nilS, v, _, h => h
  | .nb x neg, v, _, ⟨b, e, h⟩ => ⟨b, e, by rw [← hv]; exact h⟩
  | .nilP, v, _, h => h
  | .ref k q o t, v, _, ⟨g, hg, e, ha⟩ => ⟨g, hg, e, by rw [← hT]; exact ha⟩
  | .v x t own dep, v, _, ⟨cs, hp, hc⟩ => ⟨cs, hp, by rw [← hv]; exact hc.chA hA⟩
  | .rd x t dep wr, v, _, ⟨b, o, cs, e, hf, hr, h0, hd, hw⟩ => by
    refine ⟨b, o, cs, e, hf.chA hA (rangeAt_lt hr h0), hr, h0, by rw [← hv]; exact Rd.chA hA hd, ?_⟩
    match wr, hw with
    | none, _ => trivial
    | some (pin, i, pt, q, te), hw =>
      refine ⟨hw.1, ?_⟩
      rw [← hv]
      exact hw.2
  | .tup l, v, hb, ⟨vs, e, h⟩ => ⟨vs, e, pds_chA hA hv hT l vs (by simpa [AV.plain] using hb) h⟩
  | .gd cs a, v, hb, h => by
    rw [show AV.pd c' p w (.gd cs a) v = ((hold c'.v cs = true → AV.pd c' p w a v) ∧ (hold c'.v cs = false → v = Go.undef)) from rfl, ← hv]
    exact ⟨fun hc => AV.chA hA hv hT a v (by simpa [AV.plain] using hb) (h.1 hc), h.2⟩
  | .fn f l, v, hb, ⟨vs, e, h⟩ => ⟨vs, e, pds_chA hA hv hT l vs (by simpa [AV.plain] using hb) h⟩
  | .bx k T a, v, hb, ⟨g, u, hg, e, hh, h⟩ => ⟨g, u, ⟨hg.1, by rw [← hT]; exact hg.2⟩, e, hh, AV.chA hA hv hT a u (by simpa [AV.plain] using hb) h⟩
  | .sn t a, v, hb, h => by simp [AV.plain] at hb
  | .pt _ _ _ _, v, hb, h => by simp [AV.plain] at hb
  | .ar _ _ _, v, hb, h => by simp [AV.plain] at hb
  | .lv _ _, v, hb, h => by simp [AV.plain] at hb
  | .ax _ _ _ _, v, hb, h => by simp [AV.plain] at hb
  | .fr T a, v, hb, ⟨g, u, ha, hf, e, hh, h⟩ => ⟨g, u, hA g (Array.getElem?_eq_some_iff.1 hh).1 ha, hf, e, hh, AV.chA hA hv hT a u (by simpa [AV.plain] using hb) h⟩
theorem pds_chA (hA : ∀ b, b < w.heap.size → c.A b → c'.A b) (hv : c.v = c'.v) (hT : c.At = c'.At) : ∀ (l : List AV) (vs : List Value), avsPlain l = true → pds c p w l vs → pds c' p w l vs
  | [], vs, _, h => h
  | a :: l, vs, hb, ⟨v, r, e, ha, hl⟩ => by
    simp only [avsPlain, Bool.and_eq_true] at hb
    exact ⟨v, r, e, AV.chA hA hv hT a v hb.1 ha, pds_chA hA hv hT l r hb.2 hl⟩
end

theorem EntOk.chA (hA : ∀ b, b < w.heap.size → c.A b → c'.A b) (hv : c.v = c'.v) {k : Nat} {e : Ent} (h : EntOk c p w k e) : EntOk c' p w k e := by
  obtain ⟨g, cs, T, hg, hh, hc⟩ := h
  exact ⟨g, cs, T, hg, hh, by rw [← hv]; exact hc.chA hA⟩

def snT (l : List (Nat × AV)) : List (Nat × AV) := l.map fun e => (e.1, .sn e.1 e.2)
def plainT (l : List (Nat × AV)) : Bool := l.all fun e => e.2.plain

theorem lkA_mapK {α β : Type} {f : Nat → α → β} {l : List (Nat × α)} {k : Nat} {y : β} (h : lkA (l.map fun e => (e.1, f e.1 e.2)) k = some y) : ∃ x, lkA l k = some x ∧ y = f k x := by
  induction l with
  | nil => cases h
  | cons e l ih =>
    obtain ⟨m, x⟩ := e
    by_cases hm : m = k
    · subst hm
      rw [List.map_cons, q03] at h
      injection h with h
      exact ⟨x, q03, h.symm⟩
    · rw [List.map_cons, q04 hm] at h
      rw [q04 hm]
      exact ih h

theorem SF.snap (hA : ∀ b, b < w.heap.size → c.A b → c'.A b) (hv : c.v = c'.v) (hT : c.At = c'.At) {σ : St} {a : Act} (hs : ∀ t v, a.tmps[t]? = some v → c'.snap t = v) (hp : plainT σ.t = true) (h : SF c σ p w a) : SF c' ⟨snT σ.t, σ.m⟩ p w a := by
  refine ⟨fun t x hx => ?_, fun k e he => (h.m k e he).chA hA hv⟩
  obtain ⟨y, hy, rfl⟩ := lkA_mapK (f := fun t x => AV.sn t x) hx
  obtain ⟨v, h1, h2⟩ := h.t t y hy
  exact ⟨v, h1, (hs t v h1).symm, AV.chA hA hv hT y v (List.all_eq_true.1 hp _ (q1j hy)) h2⟩
theorem SF.other {σ : St} {a b : Act} (hs : ∀ t, a.tmps[t]? = some (c.snap t) ∨ a.tmps[t]? = none) (hsz : b.tmps.size ≤ a.tmps.size) (hall : ∀ t x, lkA σ.t t = some x → ∃ y, x = .sn t y) (h : SF c σ p w b) : SF c σ p w a := by
  refine ⟨fun t x hx => ?_, h.m⟩
  obtain ⟨y, rfl⟩ := hall t x hx
  obtain ⟨v, h1, h2, h3⟩ := h.t t _ hx
  have hlt := (Array.getElem?_eq_some_iff.1 h1).1
  rcases hs t with h4 | h4
  · exact ⟨v, by rw [h4, h2], h2, h3⟩
  · rw [Array.getElem?_eq_none_iff] at h4
    omega
end

section
variable {A : Nat → Prop} {p p' : Pins} {w w' w0 : World} {S0 : Nat → Prop}

theorem Bs.comp (h : Bs A w0 S0 p w) (h' : Bs A w (pinned p) p' w') : Bs A w0 S0 p' w' := by
  refine ⟨h'.inj, h'.bd, ⟨h'.but.os.trans h.but.os, h'.but.tape.trans h.but.tape, h'.but.output.trans h.but.output, Nat.le_trans h.but.size h'.but.size, fun k hk hn => ?_⟩, fun x b hx => ?_, h.new, h'.pa, h'.obj⟩
  · have hkw : k < w.heap.size := Nat.lt_of_lt_of_le hk h.but.size
    refine (h'.but.block k hkw fun ⟨x, hx⟩ => ?_).trans (h.but.block k hk hn)
    rcases h.pin x k hx with h1 | h1
    · exact hn h1
    · omega
  · rcases h'.pin x b hx with ⟨y, hy⟩ | h1
    · exact h.pin y b hy
    · exact .inr (Nat.le_trans h.but.size h1)

end
end Go.Proofs.Ytmebmpgffhajbaa


namespace Go.Proofs.Ytmebmpgffhajbaa
open Go.RowKit
set_option linter.unusedVariables false
set_option maxRecDepth 100000

end Go.Proofs.Ytmebmpgffhajbaa


namespace Go.Proofs.Ytmebmpgffhajbaa
open Go.RowKit
set_option linter.unusedVariables false
set_option maxRecDepth 100000

section
variable {c : Cx} {p : Pins} {w w' w0 : World} {S0 : Nat → Prop} {a : Act} {σ σ' : St} {d : List Deferred} {z : Nat} {tbl : Tbl} {A : Nat → Prop}

theorem SF.same (hs : Stab c.A no no p w p w') (h : SF c σ p w a) : SF c σ p w' a := by
  refine ⟨fun t x hx => ?_, fun k e he => (h.m k e he).kept hs (fun _ _ => ⟨rfl, rfl⟩) ⟨rfl, rfl⟩⟩
  obtain ⟨v, h1, h2⟩ := h.t t x hx
  exact ⟨v, h1, AV.kept hs x v (fun _ _ => ⟨rfl, rfl⟩) (fun _ _ => rfl) h2⟩

end
end Go.Proofs.Ytmebmpgffhajbaa


namespace Go.Proofs.Ytmebmpgffhajbaa
open Go.RowKit
set_option linter.unusedVariables false
set_option maxRecDepth 100000

theorem Bs.up {A A' : Nat → Prop} {p p' : Pins} {w w' w0 : World} {S0 : Nat → Prop} (h : Bs A w0 S0 p w) (h' : Bs A' w (pinned p) p' w') (hA : ∀ b, A' b → A b) : Bs A w0 S0 p' w' :=
  h.comp ⟨h'.inj, h'.bd, h'.but, h'.pin, fun b hb => h.new b (Nat.le_trans h.but.size hb), fun x b hx => hA b (h'.pa x b hx), h'.obj⟩

section
variable {lo z : Nat} {tbl : Tbl}

end
end Go.Proofs.Ytmebmpgffhajbaa


namespace Go.Proofs.Ytmebmpgffhajbaa
open Go.RowKit
set_option linter.unusedVariables false
set_option maxRecDepth 100000

theorem ResL.chA {A A' : Nat → Prop} {p : Pins} {w : World} (hA : ∀ b, b < w.heap.size → A b → A' b) : ∀ {rs : List (Ty × Bool)} {k : Nat} {vs : List Value} {ds : List D}, ResL A p w rs k vs ds → ResL A' p w rs k vs ds
  | [], _, _, _, h => h
  | (t, own) :: l, k, vs, ds, ⟨v, r, d, ds', e1, e2, ⟨cs, hp, hc⟩, h⟩ => ⟨v, r, d, ds', e1, e2, ⟨cs, hp, hc.chA hA⟩, ResL.chA hA h⟩
theorem RefL.chA {A A' : Nat → Prop} {p p' : Pins} {w : World} (hA : ∀ b, b < w.heap.size → A b → A' b) : ∀ {all : List (Nat × Ar)} {ds : List D}, RefL A p p' w all ds → RefL A' p p' w all ds
  | [], _, h => h
  | (i, r) :: l, ds, h => by
    cases r with
    | ref t =>
      obtain ⟨d, ds', e, ⟨g, cs, T, h1, h2, h3, hc⟩, h⟩ := h
      exact ⟨d, ds', e, ⟨g, cs, T, h1, h2, h3, hc.chA hA⟩, RefL.chA hA h⟩
    | mref t =>
      obtain ⟨d, ds', e, ⟨g, h1, h2, hc⟩, h⟩ := h
      exact ⟨d, ds', e, ⟨g, h1, h2, hc.chA hA⟩, RefL.chA hA h⟩
    | _ => exact RefL.chA hA (all := l) h

end Go.Proofs.Ytmebmpgffhajbaa


namespace Go.Proofs.Ytmebmpgffhajbaa
open Go.RowKit
set_option linter.unusedVariables false
set_option linter.unusedSimpArgs false

theorem int_i (n : Int) : (D.i n).int = n := rfl
theorem tt_b (x : Bool) : (D.b x).tt = x := by cases x <;> rfl
theorem rs_r (l : List D) : (D.r l).rs = l := rfl
theorem fs_a (l : List D) : (D.a l).fs = l := rfl
theorem str_s (x : ByteArray) : (D.s x).str = x := rfl
theorem ms_mp (l : List D) : (D.mp l).ms = l := rfl
theorem i_inj (m n : Int) : (D.i m = D.i n) = (m = n) := by simp
theorem b_inj (m n : Bool) : (D.b m = D.b n) = (m = n) := by simp
theorem s_inj (m n : ByteArray) : (D.s m = D.s n) = (m = n) := by simp
theorem q00 {S : Nat → List D → Option (List D)} {R : List D → Prop} {ns : List X} {t : Tree} {l : List D} {B : Nat → List D → Prop} : (Tree.need ns t).go S R l B = (allSay (evl S l) ns ∧ t.go S R l B) := rfl
theorem go_br {S : Nat → List D → Option (List D)} {R : List D → Prop} {x : X} {t e : Tree} {l : List D} {B : Nat → List D → Prop} : (Tree.br x t e).go S R l B = (((x.ev (evl S l)).tt = true → t.go S R l B) ∧ ((x.ev (evl S l)).tt = false → e.go S R l B)) := rfl
theorem q01 {S : Nat → List D → Option (List D)} {R : List D → Prop} {xs : List X} {l : List D} {B : Nat → List D → Prop} : (Tree.leaf xs).go S R l B = R (X.evs (evl S l) xs) := rfl
theorem q02 {S : Nat → List D → Option (List D)} {R : List D → Prop} {id : Nat} {xs : List X} {l : List D} {B : Nat → List D → Prop} : (Tree.back id xs).go S R l B = B id (X.evs (evl S l) xs) := rfl
theorem q1b {S : Nat → List D → Option (List D)} {R : List D → Prop} {id n : Nat} {init : List X} {body : Tree} {l : List D} {B : Nat → List D → Prop} : (Tree.loop id n init body).go S R l B = ∃ (I : List D → Prop) (μ : List D → Nat), I (X.evs (evl S l) init) ∧
      ∀ st, st.length = init.length → I st → body.go S R (l.take n ++ st) (updB B id fun st' => I st' ∧ μ st' < μ st) := rfl
theorem rng64 {n : Int} : rngB .i64 n = true ↔ -9223372036854775808 ≤ n ∧ n ≤ 9223372036854775807 := by simp [rngB]

section
variable {α : Type} [Inhabited α]
theorem get_map (e : α → D) {l : List α} {i : Nat} (h : i < l.length) : (l.map e).getD i .u = e (l.getD i default) := by
  simp [List.getD_eq_getElem?_getD, h]
theorem get_r (e : α → D) {l : List α} {i : Int} (h0 : 0 ≤ i) (h : i < l.length) : (D.r (l.map e)).get i = e (l.getD i.toNat default) := get_map e (by omega)
theorem get_n (e : α → D) {l : List α} {i : Nat} (h : i < l.length) : (D.r (l.map e)).get (i : Int) = e (l.getD i default) := get_map e (by simpa using h)
omit [Inhabited α] in
theorem of_all {e : α → D} {P : α → Prop} {l : List D} (h : ∀ x ∈ l, ∃ a, x = e a ∧ P a) : ∃ m : List α, l = m.map e ∧ ∀ a ∈ m, P a := by
  induction l with
  | nil => exact ⟨[], rfl, fun a ha => by cases ha⟩
  | cons x l ih =>
    obtain ⟨a, rfl, ha⟩ := h x List.mem_cons_self
    obtain ⟨m, rfl, hm⟩ := ih fun y hy => h y (List.mem_cons_of_mem _ hy)
    refine ⟨a :: m, rfl, fun b hb => ?_⟩
    rcases List.mem_cons.1 hb with rfl | hb
    · exact ha
    · exact hm b hb
theorem getD_mem {l : List α} {i : Nat} (h : i < l.length) : l.getD i default ∈ l := by
  rw [List.getD_eq_getElem?_getD, List.getElem?_eq_getElem h]
  exact List.getElem_mem h
theorem take_snoc {l : List α} {k : Nat} (h : k < l.length) : l.take (k + 1) = l.take k ++ [l.getD k default] := by
  rw [List.take_add_one, List.getElem?_eq_getElem h]
  simp [List.getD_eq_getElem?_getD, h]
end

theorem all_yes {n : Nat} {P : Nat → Bool} (h : ∀ j, j < n → P j = true) : (List.range n).all P = true := by
  rw [List.all_eq_true]
  exact fun j hj => h j (List.mem_range.1 hj)
theorem all_not {n k : Nat} {P : Nat → Bool} (hk : k < n) (h : P k = false) : (List.range n).all P = false := by
  cases ha : (List.range n).all P with
  | false => rfl
  | true => rw [List.all_eq_true.1 ha k (List.mem_range.2 hk)] at h; cases h
theorem all_of {n k : Nat} {P : Nat → Bool} (h : (List.range n).all P = true) (hk : k < n) : P k = true := List.all_eq_true.1 h k (List.mem_range.2 hk)
theorem upto_succ {P : Nat → Prop} {k : Nat} (h : ∀ j, j < k → P j) (hk : P k) : ∀ j, j < k + 1 → P j := fun j hj => by
  rcases Nat.lt_succ_iff_lt_or_eq.1 hj with h1 | h1
  · exact h j h1
  · exact h1 ▸ hk

theorem wfL2 {ds : List D} {t u : Ty} (h : WfL ds [t, u]) : ∃ a b, ds = [a, b] ∧ Wf a t ∧ Wf b u := by
  match ds, h with
  | [], h => cases h
  | [a], h => obtain ⟨t, ts, e, h1, h2⟩ := h; rw [h2] at e; cases e
  | [a, b], h =>
    obtain ⟨t, ts, e, h1, t2, ts2, e2, h2, -⟩ := h
    injection e with e e'
    subst e e'
    injection e2 with e2 e2'
    subst e2
    exact ⟨a, b, rfl, h1, h2⟩
  | a :: b :: c :: l, h => obtain ⟨t, ts, e, h1, t2, ts2, e2, h2, t3, ts3, e3, -⟩ := h; subst e2 e3; cases e
theorem wfL_cons {ds : List D} {t : Ty} {ts : List Ty} (h : WfL ds (t :: ts)) : ∃ a r, ds = a :: r ∧ Wf a t ∧ WfL r ts := by
  match ds, h with
  | [], h => cases h
  | a :: r, h =>
    obtain ⟨t, ts, e, h1, h2⟩ := h
    injection e with e e'
    subst e e'
    exact ⟨a, r, rfl, h1, h2⟩
theorem Wf.st_of {d : D} {S : TypeId} {fs : List Ty} (h : Wf d (.st S)) (hf : flds S = some fs) : ∃ ds, d = .a ds ∧ WfL ds fs := by
  obtain ⟨ds, fs', rfl, hf', hl⟩ := h.st
  rw [hf] at hf'
  injection hf' with hf'
  subst hf'
  exact ⟨ds, rfl, hl⟩
theorem Wf.row_of {d : D} {E : TypeId} {te : Ty} (h : Wf d (.row E)) (hE : tyOf E = some te) : ∃ l, d = .r l ∧ l.length ≤ LM te ∧ ∀ x ∈ l, Wf x te := by
  obtain ⟨l, te', rfl, hE', h1, h2⟩ := h.row
  rw [hE] at hE'
  injection hE' with hE'
  subst hE'
  exact ⟨l, rfl, h1, h2⟩
end Go.Proofs.Ytmebmpgffhajbaa


namespace Go.Proofs.Ytmebmpgffhajbaa
open Go.RowKit
set_option linter.unusedVariables false
set_option maxRecDepth 100000

def treeH (P : Program) (tbl : Tbl) (ann : Ann) (ct : Ct) (fn : Func) (A B : Code) (f : St → Option (List X × St)) : Tree :=
  toT P tbl ann ct.ar.length fn.ntmps A [] (dataN ct.ars) (begS ct) fun n r σ => match r with
    | .normal => (match f σ with
      | some (N, σ') => needT N (toT P tbl ann ct.ar.length fn.ntmps B [] n σ' (endT ct fn.results.toList))
      | none => .bad 7700000)
    | .ret => endT ct fn.results.toList n .ret σ
    | .exit i => endT ct fn.results.toList n (.exit i) σ

noncomputable def codeA : Code := match Try.f31.body with
  | some (.seq r0 (.seq r1 (.seq r2 (.seq (.seq r3 _) _)))) => .seq r0 (.seq r1 (.seq r2 r3))
  | _ => .skip
noncomputable def codeL : Code := match Try.f31.body with
  | some (.seq r0 (.seq r1 (.seq r2 (.seq (.seq r3 l) _)))) => l
  | _ => .skip
noncomputable def codeB : Code := match Try.f31.body with
  | some (.seq r0 (.seq r1 (.seq r2 (.seq (.seq r3 _) b)))) => b
  | _ => .skip

def killO : List Nat := [8, 27, 28, 29, 30, 31, 32, 33, 34, 35, 36, 37, 38, 39, 40, 41, 42]
def keepO (pin : Nat) (σ : St) : St := ⟨keepT (oneQ pin) no (σ.t.filter fun e => !hasN killO e.1), keepM (oneQ pin) no σ.m⟩
def doOlds (σ : St) : Option (List X × St) := match lkA σ.t 25, lkA σ.t 26, lkA σ.t 27, lkA σ.t 6, lkA σ.m 6 with
  | some (.v xT (.row U) own dep), some (.v xn (.int .i64) _ _), some (.v (.lit (.i 0)) (.int .i64) _ _), some (.ref 6 [] 0 tm), some ⟨.lit (.mp []), te, [(0, pin)], _⟩ =>
    if Nat.beq U 37 && (Ty.beq tm (.map 3 23) && (Ty.beq te tm && (!Nat.beq pin 96 && !hasN (own.map (·.2) ++ dep) pin))) then
      some ([.eq xn (.len xT)], ⟨((keepO pin σ).un (oneQ pin)).t, putA ((keepO pin σ).un (oneQ pin)).m 6 ⟨.fn 16 [xT], tm, [], []⟩⟩)
    else none
  | _, _, _, _, _ => none
end Go.Proofs.Ytmebmpgffhajbaa


namespace Go.Proofs.Ytmebmpgffhajbaa
open Go.RowKit
set_option linter.unusedVariables false
set_option maxRecDepth 100000

theorem row_ty : tyOf 23 = some (.row 31) := by kernel_rfl
theorem int_ty : tyOf 3 = some (.int .i64) := by kernel_rfl
theorem mapO_ty : tyOf 93 = some (.map 3 23) := by kernel_rfl

section
variable {W W' : World} {te : Ty}

def El (W : World) (te : Ty) (ds : List D) (v : Value) (b : Nat) : Prop := ∃ cap cur, v = .slice (some ⟨b, 0, none⟩) ds.length cap ∧ W.heap[b]? = some (.cells cur 31 (0, 0)) ∧ ds.length ≤ cap ∧ cap ≤ maxLen ∧ cur.size = cap * te.w ∧ ds.length ≤ LM te ∧
  ∀ i (h : i < ds.length), ∃ cs, W.rangeAt b (i * te.w) cs ∧ Rd W (fun _ => False) ds[i] te cs

theorem El.keep {ds : List D} {v : Value} {b : Nat} (hfl : flatB 8 te = true) (h : El W te ds v b) (he : W'.heap[b]? = W.heap[b]?) : El W' te ds v b := by
  obtain ⟨cap, cur, h1, h2, h3, h4, h5, h6, h7⟩ := h
  refine ⟨cap, cur, h1, he.trans h2, h3, h4, h5, h6, fun i hi => ?_⟩
  obtain ⟨cs, q1, q2⟩ := h7 i hi
  exact ⟨cs, rangeAt_blk q1 he, Rd.flat 8 _ hfl q2⟩

def Els (W : World) (te : Ty) : List D → List MapEntry → List Nat → Prop
  | [], [], [] => True
  | p :: l, e :: es, b :: bs => (∃ k ds, p = .a [.i k, .r ds] ∧ e.key = .int .i64 k ∧ rngB .i64 k = true ∧ El W te ds e.val b) ∧ Els W te l es bs
  | _, _, _ => False

theorem Els.keep (hfl : flatB 8 te = true) : ∀ {l : List D} {es : List MapEntry} {bs : List Nat}, Els W te l es bs → (∀ b ∈ bs, W'.heap[b]? = W.heap[b]?) → Els W' te l es bs
  | [], [], [], _, _ => trivial
  | p :: l, e :: es, b :: bs, ⟨⟨k, ds, h1, h2, h3, h4⟩, h⟩, hb => ⟨⟨k, ds, h1, h2, h3, h4.keep hfl (hb b (by simp))⟩, Els.keep hfl h fun x hx => hb x (by simp [hx])⟩
  | [], [], _ :: _, h, _ => h.elim
  | [], _ :: _, _, h, _ => h.elim
  | _ :: _, [], _, h, _ => h.elim
  | _ :: _, _ :: _, [], h, _ => h.elim

theorem encI {k : Int} (h : rngB .i64 k = true) : encV (.int .i64) (.i k) = some (.int .i64 k) := by
  simp [encV, encC, h, packV]

theorem Els.keys : ∀ {l : List D} {es : List MapEntry} {bs : List Nat}, Els W te l es bs → MapK (.int .i64) l es
  | [], [], [], _ => trivial
  | p :: l, e :: es, b :: bs, ⟨⟨k, ds, h1, h2, h3, h4⟩, h⟩ => ⟨⟨.i k, .r ds, h1, by rw [encI h3, h2]⟩, Els.keys h⟩
  | [], [], _ :: _, h => h.elim
  | [], _ :: _, _, h => h.elim
  | _ :: _, [], _, h => h.elim
  | _ :: _, _ :: _, [], h => h.elim

theorem Els.rdM {F : Nat → Prop} {C : TypeId} (hC : tyOf C = some te) (hCC : C = 31) (hfl : flatB 8 te = true) : ∀ {l : List D} {es : List MapEntry} {bs : List Nat}, Els W te l es bs → (∀ b ∈ bs, F b) → RdM W F l (.int .i64) (.row C) es
  | [], [], [], _, _ => rfl
  | p :: l, e :: es, b :: bs, ⟨⟨k, ds, h1, h2, h3, cap, cur, q1, q2, q3, q4, q5, q6, q7⟩, h⟩, hF => by
    refine ⟨e, es, rfl, rdK_iff.2 ⟨.i k, .r ds, [.int .i64 k], [e.val], h1, ⟨.i64, rfl, rfl, h3⟩, by rw [h2]; rfl, ?_, rfl⟩, Els.rdM hC hCC hfl h fun x hx => hF x (by simp [hx])⟩
    rw [q1]
    refine ⟨C, te, some ⟨b, 0, none⟩, cap, rfl, hC, rfl, q3, q6, q4, rdE_iff.2 fun j hj => ?_⟩
    obtain ⟨cs, r1, r2⟩ := q7 j hj
    exact ⟨b, 0, cs, rfl, hF b (by simp), by simpa using r1, Rd.flat 8 _ hfl r2⟩
  | [], [], _ :: _, h, _ => h.elim
  | [], _ :: _, _, h, _ => h.elim
  | _ :: _, [], _, h, _ => h.elim
  | _ :: _, _ :: _, [], h, _ => h.elim

theorem Els.old (hfl : flatB 8 te = true) {k : Int} : ∀ {l : List D} {es : List MapEntry} {bs : List Nat} {i j : Nat} {v : Value}, Els W te l es bs → bs.Nodup → fsD (.i k) l es i = some (i + j, v) →
    ∃ b ds, bs[j]? = some b ∧ El W te ds v b ∧ (es[j]?).map (·.key) = some (.int .i64 k) ∧ ∀ (x : D) (W' : World) (v' : Value) (b' : Nat), (∀ y ∈ bs, y ≠ b → W'.heap[y]? = W.heap[y]?) → El W' te (ds ++ [x]) v' b' →
      Els W' te (addK (.i k) x l) (es.modify j fun e => { e with key := .int .i64 k, val := v' }) (bs.set j b')
  | [], [], [], i, j, v, h, _, hf => by simp [fsD] at hf
  | p :: l, e :: es, b :: bs, i, j, v, ⟨⟨k', ds, h1, h2, h3, h4⟩, h⟩, hnd, hf => by
    subst h1
    rw [List.nodup_cons] at hnd
    by_cases hk : k = k'
    · subst hk
      have hf1 : D.i k = D.fld (.a [.i k, .r ds]) 0 := rfl
      simp only [fsD, if_pos hf1, Option.some.injEq, Prod.mk.injEq] at hf
      obtain ⟨hij, rfl⟩ := hf
      obtain rfl : j = 0 := by omega
      refine ⟨b, ds, rfl, h4, by simp [h2], fun x W' v' b' hW hE => ?_⟩
      have : addK (.i k) x (.a [.i k, .r ds] :: l) = .a [.i k, .r (ds ++ [x])] :: l := by
        simp [addK, D.fld, D.fs, D.rs]
      rw [this]
      show Els W' te (.a [.i k, .r (ds ++ [x])] :: l) ({ e with key := .int .i64 k, val := v' } :: es) (b' :: bs)
      exact ⟨⟨k, ds ++ [x], rfl, rfl, h3, hE⟩, h.keep hfl fun y hy => hW y (by simp [hy]) fun e => by subst e; exact hnd.1 hy⟩
    · have hf1 : ¬ D.i k = D.fld (.a [.i k', .r ds]) 0 := fun e => hk (by simpa [D.fld, D.fs] using e)
      simp only [fsD, if_neg hf1] at hf
      have hj : ∃ m, j = m + 1 := by
        have key : ∀ {l : List D} {es : List MapEntry} {i m : Nat} {v : Value}, fsD (.i k) l es i = some (m, v) → i ≤ m := by
          intro l
          induction l with
          | nil => intro es i m v h; simp [fsD] at h
          | cons p l ih =>
            intro es i m v h
            cases es with
            | nil => simp [fsD] at h
            | cons e es =>
              unfold fsD at h
              split at h
              · simp only [Option.some.injEq, Prod.mk.injEq] at h; omega
              · have := ih h; omega
        have := key hf
        exact ⟨j - 1, by omega⟩
      obtain ⟨m, rfl⟩ := hj
      obtain ⟨b0, ds0, q1, q2, q3, q4⟩ := Els.old hfl (i := i + 1) (j := m) (v := v) h hnd.2 (by rw [hf]; congr 2; omega)
      refine ⟨b0, ds0, by simpa using q1, q2, by simpa using q3, fun x W' v' b' hW hE => ?_⟩
      have hne : ¬ D.fld (.a [.i k', .r ds]) 0 = D.i k := fun e => hf1 e.symm
      have : addK (.i k) x (.a [.i k', .r ds] :: l) = .a [.i k', .r ds] :: addK (.i k) x l := by
        simp only [addK, if_neg hne]
      rw [this]
      show Els W' te (.a [.i k', .r ds] :: addK (.i k) x l) (e :: es.modify m fun e => { e with key := .int .i64 k, val := v' }) (b :: bs.set m b')
      refine ⟨⟨k', ds, rfl, h2, h3, h4.keep hfl (hW b (by simp) fun e => ?_)⟩, q4 x W' v' b' (fun y hy hne => hW y (by simp [hy]) hne) hE⟩
      subst e
      exact hnd.1 (List.mem_of_getElem? q1)
  | [], [], _ :: _, _, _, _, h, _, _ => h.elim
  | [], _ :: _, _, _, _, _, h, _, _ => h.elim
  | _ :: _, [], _, _, _, _, h, _, _ => h.elim
  | _ :: _, _ :: _, [], _, _, _, h, _, _ => h.elim

theorem Els.new (hfl : flatB 8 te = true) {k : Int} (hk : rngB .i64 k = true) {x : D} {W' : World} {v' : Value} {b' c : Nat} (hE : El W' te [x] v' b') : ∀ {l : List D} {es : List MapEntry} {bs : List Nat} {i : Nat}, Els W te l es bs → (∀ y ∈ bs, W'.heap[y]? = W.heap[y]?) → fsD (.i k) l es i = none →
    Els W' te (addK (.i k) x l) (es ++ [{ key := .int .i64 k, val := v', born := c }]) (bs ++ [b'])
  | [], [], [], i, h, _, hf => ⟨⟨k, [x], rfl, rfl, hk, hE⟩, trivial⟩
  | p :: l, e :: es, b :: bs, i, ⟨⟨k', ds, h1, h2, h3, h4⟩, h⟩, hW, hf => by
    subst h1
    by_cases hkk : D.i k = D.fld (.a [.i k', .r ds]) 0
    · simp [fsD, if_pos hkk] at hf
    · simp only [fsD, if_neg hkk] at hf
      have hne : ¬ D.fld (.a [.i k', .r ds]) 0 = D.i k := fun e => hkk e.symm
      have : addK (.i k) x (.a [.i k', .r ds] :: l) = .a [.i k', .r ds] :: addK (.i k) x l := by
        simp only [addK, if_neg hne]
      rw [this]
      exact ⟨⟨k', ds, rfl, h2, h3, h4.keep hfl (hW b (by simp))⟩, Els.new hfl hk hE h (fun y hy => hW y (by simp [hy])) hf⟩
  | [], [], _ :: _, _, h, _, _ => h.elim
  | [], _ :: _, _, _, h, _, _ => h.elim
  | _ :: _, [], _, _, h, _, _ => h.elim
  | _ :: _, _ :: _, [], _, h, _, _ => h.elim

theorem Els.len : ∀ {l : List D} {es : List MapEntry} {bs : List Nat}, Els W te l es bs → bs.length = es.length ∧ l.length = es.length
  | [], [], [], _ => ⟨rfl, rfl⟩
  | p :: l, e :: es, b :: bs, ⟨_, h⟩ => by simp [Els.len h]
  | [], [], _ :: _, h => h.elim
  | [], _ :: _, _, h => h.elim
  | _ :: _, [], _, h => h.elim
  | _ :: _, _ :: _, [], h => h.elim
end

def atQ (b : Nat) : Nat → Prop := fun k => k = b

theorem el_app {W : World} {S : TypeId} (hS : tyOf 31 = some (.st S)) (hfl : flatB 8 (.st S) = true) {ds : List D} {va : Value} {b : Nat} (ha : (va = .slice none 0 0 ∧ ds = []) ∨ El W (.st S) ds va b) {nb : Nat} {vs : List Value} {x : D} (hx : Rd W (fun _ => False) x (.st S) vs)
    (hnb : W.heap[nb]? = some (.cells vs.toArray 31 (0, 0))) (hlm : ds.length + 1 ≤ LM (.st S)) (ty : TypeId) :
    ∃ v' w' b', (Builtin.append_ #[23, 23] ty #[va, .slice (some ⟨nb, 0, none⟩) 1 1]).run Try.prog W = .ok v' w' ∧ But (atQ b) W w' ∧ El w' (.st S) (ds ++ [x]) v' b' ∧ ((b' = b ∧ ∃ n c, va = .slice (some ⟨b, 0, none⟩) n c) ∨ W.heap.size ≤ b') ∧ b' < w'.heap.size := by
  have hvl := (Rd.len _ hx).1
  have hone := (Rd.len _ hx).2
  have hpos := tyOf_pos hS
  have key : ∀ (S0 : Nat → Prop) (p : Pins) (pin : Option Nat) (hb : Bs (fun _ => True) W S0 p W) (hP : ∀ y, p 1 = some y → pin = some 1) (hS0 : ∀ y, S0 y → y = b ∧ ∃ n c, va = .slice (some ⟨b, 0, none⟩) n c)
      (hva : (va = .slice none 0 0 ∧ ds.length = 0) ∨ ∃ x g cap cur, pin = some x ∧ va = .slice (some ⟨g, 0, none⟩) ds.length cap ∧ p x = some g ∧ W.heap[g]? = some (.cells cur 31 (0, 0)) ∧ ds.length ≤ cap ∧ cap ≤ maxLen ∧ cur.size = cap * (Ty.st S).w)
      (hold : ∀ y g, pin = some y → p y = some g → ∀ j (h : j < ds.length), ∃ cs, W.rangeAt g (j * (Ty.st S).w) cs ∧ Rd W (fun _ => False) ds[j] (.st S) cs),
      ∃ v' w' b', (Builtin.append_ #[23, 23] ty #[va, .slice (some ⟨nb, 0, none⟩) 1 1]).run Try.prog W = .ok v' w' ∧ But (atQ b) W w' ∧ El w' (.st S) (ds ++ [x]) v' b' ∧ ((b' = b ∧ ∃ n c, va = .slice (some ⟨b, 0, none⟩) n c) ∨ W.heap.size ≤ b') ∧ b' < w'.heap.size := by
    intro S0 p pin hb hP hS0 hva hold
    obtain ⟨v', p', w', hr, ho⟩ := run_app (T := 23) (cb := 1) row_ty hS hb hP hva (Ab := some ⟨nb, 0, none⟩) (news := vs) (m := 1) (by rw [hvl]; omega)
      (fun ad had j u hj => by
        injection had with had
        subst had
        rw [Addr.mid_eq, Nat.zero_add, cell_of_row W nb j _ _ (0, 0) hnb]
        simpa using hj) (fun h => by cases h) hone hlm ty
    have hown := AppOut.own (c := ⟨⟨fun _ => .u, fun _ _ => none⟩, fun _ => True, 0, fun _ _ => True, fun _ _ _ _ => trivial, fun _ => undef⟩) (te := .st S) hS (la := ds) (lb := [x]) (dep := []) ho hlm (by simpa using hvl)
      (fun j hj => by
        obtain rfl : j = 0 := by simpa using hj
        simp only [Nat.zero_mul, List.drop_zero, List.getElem_cons_zero]
        rw [List.take_of_length_le (by omega)]
        exact Rd.flat 8 _ hfl hx)
      (fun y g hy hg j hj => by
        obtain ⟨cs, q1, q2⟩ := hold y g hy hg j hj
        exact ⟨cs, q1, Rd.flat 8 _ hfl q2⟩)
    rcases hown with ⟨-, h0⟩ | ⟨g', cap', cur', e1, hg', hh', h1, h2, h3, h4, h5⟩
    · simp at h0
    · refine ⟨v', w', g', hr, ⟨ho.bs.but.os, ho.bs.but.tape, ho.bs.but.output, ho.bs.but.size, fun k hk hn => ho.bs.but.block k hk fun h => hn (hS0 k h).1⟩, ⟨cap', cur', e1, hh', h1, h2, h3, h4, fun i hi => ?_⟩, ?_, lt_of_heap hh'⟩
      · obtain ⟨cs, q1, q2⟩ := h5 i hi
        exact ⟨cs, q1, Rd.flat 8 _ hfl q2⟩
      · exact (ho.bs.pin _ _ hg').imp (hS0 g') id
  rcases ha with ⟨rfl, rfl⟩ | ⟨cap, cur, e1, hh, h1, h2, h3, h4, h5⟩
  · exact key Nil (fun _ => none) none ⟨fun x y b h => (by cases h), fun x b h => (by cases h), But.refl _ _, fun x b h => (by cases h), fun _ _ => trivial, fun x b h => trivial, fun x b h => (by cases h)⟩ (fun y h => by cases h) (fun y h => h.elim) (.inl ⟨rfl, rfl⟩) (fun y g h => by cases h)
  · have hp : ∀ {y g : Nat}, (if y = 0 then some b else none : Option Nat) = some g → y = 0 ∧ g = b := fun {y g} h => by
      split at h
      · injection h with h
        exact ⟨‹_›, h.symm⟩
      · cases h
    refine key (atQ b) (fun y => if y = 0 then some b else none) (some 0) ⟨fun x y b' hx hy => by rw [(hp hx).1, (hp hy).1], fun x b' hx => by rw [(hp hx).2]; exact lt_of_heap hh, But.refl _ _, fun x b' hx => .inl (hp hx).2, fun _ _ => trivial, fun x b h => trivial, fun x b' hx => by rw [(hp hx).2]; exact .inl ⟨_, _, hh⟩⟩
      (fun y h => by have := (hp h).1; omega) (fun y h => ⟨h, _, _, e1⟩) (.inr ⟨0, b, cap, cur, rfl, e1, by simp, hh, h1, h2, h3⟩) (fun y g hy hg j hj => ?_)
    rw [(hp hg).2]
    exact h5 j hj
end Go.Proofs.Ytmebmpgffhajbaa


namespace Go.Proofs.Ytmebmpgffhajbaa
open Go.RowKit
set_option linter.unusedVariables false
set_option maxRecDepth 100000

section
variable {W : World}

theorem run_load_mapO {g : Nat} {u : Value} {T' : TypeId} (hh : W.heap[g]? = some (.cells #[u] T' (0, 0))) : (Instr.loadAt 93 (.pointer (some ⟨g, 0, none⟩))).run Try.prog W = .ok u W := by
  have hu := (row_map mapO_ty).1
  have ha : (isAgg 93).run Try.prog W = .ok false W := by simp [isAgg, run_underlying hu]
  have hc : W.cell? ⟨g, 0, none⟩ = some u := by
    rw [cell_of_row W g 0 _ T' (0, 0) hh]
    rfl
  simp only [Instr.loadAt, Instr.sureAddr, loadVar, Sem.run_bind, Sem.run_pure, Result.andThen_ok, ha]
  simp [hc]

theorem rdI {k : Int} (hk : rngB .i64 k = true) : Rd W (fun _ => False) (.i k) (.int .i64) [.int .i64 k] := ⟨.i64, rfl, rfl, hk⟩

theorem lk_run {g clock : Nat} {es : Array MapEntry} (hg : W.heap[g]? = some (.map es clock)) {l : List D} (hl : MapK (.int .i64) l es.toList) {k : Int} (hk : rngB .i64 k = true) :
    (Instr.lookup 93 (.map (some g)) (.int .i64 k) false).run Try.prog W = .ok (match fsD (.i k) l es.toList 0 with | some (_, v) => v | none => .slice none 0 0) W := by
  have hd := rdI (W := W) hk
  have hck : (Instr.checkKey es.isEmpty 10000 3 (.int .i64 k)).run Try.prog W = .ok () W := run_checkKey_of es.isEmpty 8 9992 int_ty rfl hd rfl
  have hfk := findKey_of int_ty rfl hd rfl hl
  have hu := (row_map mapO_ty).1
  obtain ⟨-, -, i, hi, -, hz⟩ := row_row row_ty
  have hzr : (zeroValue 23).run Try.prog W = .ok (.slice none 0 0) W := by simp [zeroValue, typeInfo, hi, hz]
  cases h : fsD (.i k) l es.toList 0 with
  | none =>
    rw [h] at hfk
    simp [Instr.lookup, run_underlying hu, MapKept.run_getObj_map hg, hck, hfk, hzr, Result.andThen]
  | some jv =>
    obtain ⟨j, v⟩ := jv
    rw [h] at hfk
    simp [Instr.lookup, run_underlying hu, MapKept.run_getObj_map hg, hck, hfk, Result.andThen]

theorem mu_new {g clock : Nat} {es : Array MapEntry} (hg : W.heap[g]? = some (.map es clock)) {l : List D} (hl : MapK (.int .i64) l es.toList) {k : Int} (hk : rngB .i64 k = true) (h : fsD (.i k) l es.toList 0 = none) (v : Value) :
    (Instr.mapUpdate 93 (.map (some g)) (.int .i64 k) v).run Try.prog W = .ok () { W with heap := W.heap.setIfInBounds g (.map (es.push { key := .int .i64 k, val := v, born := clock }) (clock + 1)) } := by
  have hd := rdI (W := W) hk
  have hck : (Instr.checkKey false 10000 3 (.int .i64 k)).run Try.prog W = .ok () W := run_checkKey_of false 8 9992 int_ty rfl hd rfl
  have hfk := findKey_of int_ty rfl hd rfl hl
  have hu := (row_map mapO_ty).1
  rw [h] at hfk
  simp [Instr.mapUpdate, run_underlying hu, MapKept.run_getObj_map hg, hck, hfk, MapKept.run_setObj_map _ hg, Result.andThen]

theorem mu_old {g clock : Nat} {es : Array MapEntry} (hg : W.heap[g]? = some (.map es clock)) {l : List D} (hl : MapK (.int .i64) l es.toList) {k : Int} (hk : rngB .i64 k = true) {j : Nat} {v0 : Value} (h : fsD (.i k) l es.toList 0 = some (j, v0))
    (hj : (es.toList[j]?).map (·.key) = some (.int .i64 k)) (v : Value) :
    (Instr.mapUpdate 93 (.map (some g)) (.int .i64 k) v).run Try.prog W = .ok () { W with heap := W.heap.setIfInBounds g (.map (es.modify j fun e => { e with key := .int .i64 k, val := v }) clock) } := by
  have hd := rdI (W := W) hk
  have hck : (Instr.checkKey false 10000 3 (.int .i64 k)).run Try.prog W = .ok () W := run_checkKey_of false 8 9992 int_ty rfl hd rfl
  have hfk := findKey_of int_ty rfl hd rfl hl
  have hu := (row_map mapO_ty).1
  have hsame : Instr.sameBits 10000 (.int .i64 k) (.int .i64 k) = true := same_enc (encI hk)
  obtain ⟨e, he, hek⟩ := Option.map_eq_some_iff.1 hj
  have hjl : es[j]? = some e := by rw [← Array.getElem?_toList]; exact he
  have hek : e.key = .int .i64 k := hek
  rw [h] at hfk
  simp [Instr.mapUpdate, run_underlying hu, MapKept.run_getObj_map hg, hck, hfk, hjl, hek, Instr.keyThatStays, hsame, MapKept.run_setObj_map _ hg, Result.andThen]
end

theorem nodup_set {x : Nat} : ∀ {l : List Nat} {j : Nat}, l.Nodup → x ∉ l → (l.set j x).Nodup
  | [], j, h, _ => by simp
  | y :: l, 0, h, hx => by
    rw [List.nodup_cons] at h
    simp only [List.mem_cons, not_or] at hx
    rw [List.set_cons_zero, List.nodup_cons]
    exact ⟨hx.2, h.2⟩
  | y :: l, j + 1, h, hx => by
    rw [List.nodup_cons] at h
    simp only [List.mem_cons, not_or] at hx
    rw [List.set_cons_succ, List.nodup_cons]
    refine ⟨fun hm => ?_, nodup_set h.2 hx.2⟩
    rcases List.mem_or_eq_of_mem_set hm with h1 | h1
    · exact h.1 h1
    · exact hx.1 h1.symm
theorem set_same {x : Nat} : ∀ {l : List Nat} {j : Nat}, l[j]? = some x → l.set j x = l
  | [], j, h => by simp at h
  | y :: l, 0, h => by simp at h; simp [h]
  | y :: l, j + 1, h => by simp at h; simp [set_same h]

theorem addK_len {k x : D} {m : Nat} : ∀ {l : List D}, (∀ p ∈ l, (p.fld 1).rs.length ≤ m) → ∀ p ∈ addK k x l, (p.fld 1).rs.length ≤ m + 1
  | [], h, p, hp => by
    simp only [addK, List.mem_singleton] at hp
    subst hp
    simp [D.fld, D.fs, D.rs]
  | q :: l, h, p, hp => by
    unfold addK at hp
    split at hp
    · rcases List.mem_cons.1 hp with rfl | hp
      · have := h q (by simp)
        simp only [D.fld, D.fs, D.rs, List.getD_cons_succ, List.getD_cons_zero, List.length_append, List.length_singleton] at this ⊢
        omega
      · have := h p (by simp [hp])
        omega
    · rcases List.mem_cons.1 hp with rfl | hp
      · have := h p (by simp)
        omega
      · exact addK_len (fun p hp => h p (by simp [hp])) p hp

structure OInv (w : World) (g : Nat) (te : Ty) (m : Nat) (l : List D) (W : World) : Prop where
  but : But (atQ g) w W
  row : ∀ p ∈ l, (p.fld 1).rs.length ≤ m
  map : ∃ es clock bs, W.heap[g]? = some (.map es clock) ∧ Els W te l es.toList bs ∧ bs.Nodup ∧ ∀ b ∈ bs, w.heap.size ≤ b ∧ b < W.heap.size

theorem setH_same {W : World} {g k : Nat} {o : Obj} (h : k ≠ g) : ({ W with heap := W.heap.setIfInBounds g o } : World).heap[k]? = W.heap[k]? := by
  show (W.heap.setIfInBounds g o)[k]? = _
  rw [Array.getElem?_setIfInBounds_ne (fun e => h e.symm)]
theorem setH_self {W : World} {g : Nat} {o : Obj} (h : g < W.heap.size) : ({ W with heap := W.heap.setIfInBounds g o } : World).heap[g]? = some o := by
  show (W.heap.setIfInBounds g o)[g]? = _
  rw [Array.getElem?_setIfInBounds_self, if_pos h]
theorem setH_size {W : World} {g : Nat} {o : Obj} : ({ W with heap := W.heap.setIfInBounds g o } : World).heap.size = W.heap.size := by
  show (W.heap.setIfInBounds g o).size = _
  simp

theorem oinv_step {S : TypeId} (hfl : flatB 8 (.st S) = true) {w : World} {g m : Nat} (hg : g < w.heap.size) {l : List D} {W : World} {k : Int} (hk : rngB .i64 k = true) (h : OInv w g (.st S) m l W) :
    ∃ va ds b, (∀ W1, But Nil W W1 → (Instr.lookup 93 (.map (some g)) (.int .i64 k) false).run Try.prog W1 = .ok va W1 ∧ ((va = .slice none 0 0 ∧ ds = []) ∨ El W1 (.st S) ds va b)) ∧ ds.length ≤ m ∧ w.heap.size ≤ b ∧ ((∃ cur, W.heap[b]? = some (.cells cur 31 (0, 0))) ∨ W.heap.size ≤ b) ∧
      ∀ (x : D) (W1 W2 : World) (v' : Value) (b' : Nat), But Nil W W1 → But (atQ b) W1 W2 → El W2 (.st S) (ds ++ [x]) v' b' → ((b' = b ∧ ∃ n c, va = .slice (some ⟨b, 0, none⟩) n c) ∨ W1.heap.size ≤ b') → b' < W2.heap.size →
        ∃ W3, (Instr.mapUpdate 93 (.map (some g)) (.int .i64 k) v').run Try.prog W2 = .ok () W3 ∧ But (atQ g) W2 W3 ∧ OInv w g (.st S) (m + 1) (addK (.i k) x l) W3 := by
  obtain ⟨es, clock, bs, hmap, hels, hnd, hbs⟩ := h.map
  have hgW : g < W.heap.size := lt_of_heap hmap
  have h1 : ∀ {W1 : World}, But Nil W W1 → W1.heap[g]? = some (.map es clock) := fun hb => (hb.block g hgW id).trans hmap
  have hkeep : ∀ {W1 : World}, But Nil W W1 → Els W1 (.st S) l es.toList bs := fun hb => hels.keep hfl fun b hm => hb.block b (hbs b hm).2 id
  have hbut3 : ∀ {W1 W2 : World} {b : Nat} {ob : Obj}, w.heap.size ≤ b → But Nil W W1 → But (atQ b) W1 W2 → But (atQ g) w { W2 with heap := W2.heap.setIfInBounds g ob } := fun {W1 W2 b ob} hb n1 n2 => by
    have e1 : But (atQ g) w W2 := ((h.but.trans_nil n1).trans n2 fun i hi _ => .inr (by rw [show i = b from hi]; exact hb))
    refine ⟨e1.os, e1.tape, e1.output, by rw [setH_size]; exact e1.size, fun j hj hn => ?_⟩
    rw [setH_same (fun e => hn e)]
    exact e1.block j hj hn
  have hbutg : ∀ {W2 : World} {ob : Obj}, But (atQ g) W2 { W2 with heap := W2.heap.setIfInBounds g ob } := fun {W2 ob} => ⟨rfl, rfl, rfl, by rw [setH_size]; exact Nat.le_refl _, fun j hj hn => setH_same (fun e => hn e)⟩
  cases hf : fsD (.i k) l es.toList 0 with
  | none =>
    refine ⟨.slice none 0 0, [], W.heap.size, fun W1 hb1 => ⟨?_, .inl ⟨rfl, rfl⟩⟩, by simp, h.but.size, .inr (Nat.le_refl _), fun x W1 W2 v' b' n1 n2 hE hb' hlt => ?_⟩
    · have := lk_run (h1 hb1) (hkeep hb1).keys hk
      rw [hf] at this
      exact this
    · have hgW1 : g < W1.heap.size := by have := n1.size; omega
      have hW2 : W2.heap[g]? = some (.map es clock) := (n2.block g hgW1 (fun e => by have : g = W.heap.size := e; omega)).trans (h1 n1)
      have hgW2 : g < W2.heap.size := lt_of_heap hW2
      refine ⟨_, mu_new hW2 (hkeep n1).keys hk hf v', hbutg, hbut3 h.but.size n1 n2, addK_len h.row, _, _, bs ++ [b'], setH_self hgW2, ?_, ?_, ?_⟩
      · rw [Array.toList_push]
        have hb'g : b' ≠ g := by
          rcases hb' with ⟨-, n, c, e⟩ | h
          · cases e
          · omega
        refine Els.new hfl hk (hE.keep hfl (setH_same hb'g)) hels (fun y hy => ?_) hf
        have := hbs y hy
        rw [setH_same (by omega), n2.block y (by have := n1.size; omega) (fun e => by have : y = W.heap.size := e; omega), n1.block y this.2 id]
      · refine List.nodup_append.2 ⟨hnd, by simp, fun y hy z hz e => ?_⟩
        simp only [List.mem_singleton] at hz
        subst hz e
        have := hbs y hy
        rcases hb' with ⟨-, n, c, e⟩ | h
        · cases e
        · have := n1.size; omega
      · intro y hy
        rw [setH_size]
        rcases List.mem_append.1 hy with hy | hy
        · have := hbs y hy
          have := n1.size
          have := n2.size
          omega
        · simp only [List.mem_singleton] at hy
          subst hy
          rcases hb' with ⟨-, n, c, e⟩ | h'
          · cases e
          · have := n1.size
            have := h.but.size
            omega
  | some jv =>
    obtain ⟨j, v0⟩ := jv
    obtain ⟨b, ds, hbj, hE0, hkey, hnext⟩ := Els.old hfl hels hnd (i := 0) (j := j) (by simpa using hf)
    have hb := hbs b (List.mem_of_getElem? hbj)
    have hgb : g ≠ b := by omega
    refine ⟨v0, ds, b, fun W1 hb1 => ⟨?_, .inr (hE0.keep hfl (hb1.block b hb.2 id))⟩, ?_, hb.1, .inl (by obtain ⟨cap, cur, -, h, -⟩ := hE0; exact ⟨cur, h⟩), fun x W1 W2 v' b' n1 n2 hE hb' hlt => ?_⟩
    · have := lk_run (h1 hb1) (hkeep hb1).keys hk
      rw [hf] at this
      exact this
    · have hlen : ∀ {l : List D} {es : List MapEntry} {bs : List Nat} {i j : Nat} {v : Value}, Els W (.st S) l es bs → fsD (.i k) l es i = some (j, v) → (∀ p ∈ l, (p.fld 1).rs.length ≤ m) → ∃ n c b, v = .slice (some ⟨b, 0, none⟩) n c ∧ n ≤ m := by
        intro l
        induction l with
        | nil => intro es bs i j v _ h; simp [fsD] at h
        | cons p l ih =>
          intro es bs i j v he hf hr
          cases es with
          | nil => simp [fsD] at hf
          | cons e es =>
            cases bs with
            | nil => exact he.elim
            | cons b bs =>
              obtain ⟨⟨k', ds, e1, e2, e3, cap, cur, e4, -⟩, he⟩ := he
              unfold fsD at hf
              split at hf
              · simp only [Option.some.injEq, Prod.mk.injEq] at hf
                obtain ⟨-, rfl⟩ := hf
                refine ⟨_, _, _, e4, ?_⟩
                have := hr p (by simp)
                subst e1
                simpa [D.fld, D.fs, D.rs] using this
              · exact ih he hf fun p hp => hr p (by simp [hp])
      obtain ⟨n, c, b1, e1, e2⟩ := hlen hels hf h.row
      obtain ⟨cap, cur, e3, -⟩ := hE0
      rw [e1] at e3
      injection e3 with _ e3 _
      omega
    · have hgW1 : g < W1.heap.size := by have := n1.size; omega
      have hW2 : W2.heap[g]? = some (.map es clock) := (n2.block g hgW1 hgb).trans (h1 n1)
      have hgW2 : g < W2.heap.size := lt_of_heap hW2
      have hb'g : b' ≠ g := by
        rcases hb' with ⟨e, -⟩ | h
        · omega
        · omega
      have hbutb : ∀ y ∈ bs, y ≠ b → ({ W2 with heap := W2.heap.setIfInBounds g (.map (es.modify j fun e => { e with key := .int .i64 k, val := v' }) clock) } : World).heap[y]? = W.heap[y]? := fun y hy hne => by
        have := hbs y hy
        rw [setH_same (by omega), n2.block y (by have := n1.size; omega) hne, n1.block y this.2 id]
      refine ⟨_, mu_old hW2 (hkeep n1).keys hk hf hkey v', hbutg, hbut3 hb.1 n1 n2, addK_len h.row, _, _, bs.set j b', setH_self hgW2, ?_, ?_, ?_⟩
      · rw [Array.toList_modify]
        exact hnext x _ v' b' hbutb (hE.keep hfl (setH_same hb'g))
      · rcases hb' with ⟨rfl, -⟩ | h'
        · rw [set_same hbj]
          exact hnd
        · exact nodup_set hnd fun hm => by
            have := hbs _ hm
            have := n1.size
            omega
      · intro y hy
        rw [setH_size]
        rcases List.mem_or_eq_of_mem_set hy with hy | rfl
        · have := hbs y hy
          have := n1.size
          have := n2.size
          omega
        · rcases hb' with ⟨rfl, -⟩ | h'
          · exact ⟨hb.1, hlt⟩
          · have := n1.size
            have := h.but.size
            exact ⟨by omega, hlt⟩
end Go.Proofs.Ytmebmpgffhajbaa


namespace Go.Proofs.Ytmebmpgffhajbaa
open Go.RowKit
set_option linter.unusedVariables false
set_option maxRecDepth 100000

noncomputable def ops4 : Array Oper := match codeL with
  | .block _ (.loop (.seq (.region _ o _) _)) => o
  | _ => #[]
noncomputable def ops5 : Array Oper := match codeL with
  | .block _ (.loop (.seq _ (.seq _ (.seq (.block _ (.seq (.region _ o _) _)) _)))) => o
  | _ => #[]
noncomputable def ops6 : Array Oper := match codeL with
  | .block _ (.loop (.seq _ (.seq _ (.seq (.block _ (.seq _ (.region _ o _))) _)))) => o
  | _ => #[]
noncomputable def ops7 : Array Oper := match codeL with
  | .block _ (.loop (.seq _ (.seq _ (.seq _ (.region _ o _))))) => o
  | _ => #[]
noncomputable def roundO : Code := .seq (.region 4 ops4 false) (.seq (.cond (.tmp 28) .skip (.exit 0)) (.seq (.block 1 (.seq (.region 5 ops5 false) (.region 6 ops6 true))) (.region 7 ops7 false)))
theorem codeL_eq : codeL = .block 0 (.loop roundO) := by kernel_rfl

def OpAt (ops : Array Oper) (i : Nat) (dst : Option Tmp) (op : Op) : Prop := ∃ o, ops[i]? = some o ∧ o.guard = none ∧ o.dst = dst ∧ o.op = op
abbrev TI : TypeId := 3
abbrev TU : TypeId := 37
abbrev TC : TypeId := 31
abbrev TRU : TypeId := 25
abbrev TRC : TypeId := 23
abbrev TM : TypeId := 93
theorem size4 : ops4.size = 1 := by kernel_rfl
theorem size5 : ops5.size = 4 := by kernel_rfl
theorem size6 : ops6.size = 12 := by kernel_rfl
theorem size7 : ops7.size = 2 := by kernel_rfl
theorem o4_0 : OpAt ops4 0 (some 28) (.binOp .lss TI (.tmp 27) (.tmp 26) TI) := ⟨_, rfl, rfl, rfl, rfl⟩
theorem o5_0 : OpAt ops5 0 (some 29) (.indexAddr TRU (.tmp 25) (.tmp 27)) := ⟨_, rfl, rfl, rfl, rfl⟩
theorem o5_1 : OpAt ops5 1 (some 30) (.load TU (.tmp 29)) := ⟨_, rfl, rfl, rfl, rfl⟩
theorem o5_2 : OpAt ops5 2 (some 8) (.alloc TU) := ⟨_, rfl, rfl, rfl, rfl⟩
theorem o5_3 : OpAt ops5 3 none (.store TU (.tmp 8) (.tmp 30)) := ⟨_, rfl, rfl, rfl, rfl⟩
theorem o6_0 : OpAt ops6 0 (some 31) (.load TM (.tmp 6)) := ⟨_, rfl, rfl, rfl, rfl⟩
theorem o6_1 : OpAt ops6 1 (some 32) (.fieldAddr TU (.tmp 8) 0) := ⟨_, rfl, rfl, rfl, rfl⟩
theorem o6_2 : OpAt ops6 2 (some 33) (.load TI (.tmp 32)) := ⟨_, rfl, rfl, rfl, rfl⟩
theorem o6_3 : OpAt ops6 3 (some 34) (.load TM (.tmp 6)) := ⟨_, rfl, rfl, rfl, rfl⟩
theorem o6_4 : OpAt ops6 4 (some 35) (.fieldAddr TU (.tmp 8) 0) := ⟨_, rfl, rfl, rfl, rfl⟩
theorem o6_5 : OpAt ops6 5 (some 36) (.load TI (.tmp 35)) := ⟨_, rfl, rfl, rfl, rfl⟩
theorem o6_6 : OpAt ops6 6 (some 37) (.lookup TM (.tmp 34) (.tmp 36) false) := ⟨_, rfl, rfl, rfl, rfl⟩
theorem o6_7 : OpAt ops6 7 (some 38) (.fieldAddr TU (.tmp 8) 1) := ⟨_, rfl, rfl, rfl, rfl⟩
theorem o6_8 : OpAt ops6 8 (some 39) (.load TC (.tmp 38)) := ⟨_, rfl, rfl, rfl, rfl⟩
theorem o6_9 : OpAt ops6 9 (some 40) (.buildSlice TRC 1 #[(0, .tmp 39)]) := ⟨_, rfl, rfl, rfl, rfl⟩
theorem o6_10 : OpAt ops6 10 (some 41) (.call { callee := .builtin .append, args := #[.tmp 37, .tmp 40], argTypes := #[TRC, TRC] }) := ⟨_, rfl, rfl, rfl, rfl⟩
theorem o6_11 : OpAt ops6 11 none (.mapUpdate TM (.tmp 31) (.tmp 33) (.tmp 41)) := ⟨_, rfl, rfl, rfl, rfl⟩
theorem o7_0 : OpAt ops7 0 (some 42) (.binOp .add TI (.tmp 27) (.const (.int .i64 1)) TI) := ⟨_, rfl, rfl, rfl, rfl⟩
theorem o7_1 : OpAt ops7 1 (some 27) (.move (.tmp 42)) := ⟨_, rfl, rfl, rfl, rfl⟩

section
variable {ops : Array Oper} {Q : Exit → Act → World → Prop} {a : Act} {w w' : World} {K : Act → World → Prop} {o : Oper} {v : Value} {i : Nat} {dst : Option Tmp} {op : Op}

theorem wpOps_at {rest : List Nat} (h : OpAt ops i dst op) (hk : ∀ o : Oper, o.dst = dst → o.op = op → o.wp Try.prog a w (wpOps Try.prog ops Q rest) Q) : wpOps Try.prog ops Q (i :: rest) a w := by
  obtain ⟨o, ho, hg, hd, hop⟩ := h
  simp only [wpOps, ho]
  rw [if_pos (by simp [Region.wanted, hg])]
  exact .inl (hk o hd hop)
theorem wpOp_at (h : OpAt ops i dst op) (hk : ∀ o : Oper, o.dst = dst → o.op = op → o.wp Try.prog a w K Q) : wpOp Try.prog ops Q i K a w := by
  obtain ⟨o, ho, hg, hd, hop⟩ := h
  unfold wpOp
  simp only [ho]
  rw [if_pos (by simp [Region.wanted, hg])]
  exact .inl (hk o hd hop)
theorem op_val (h : (execOp a.eval o).run Try.prog w = .ok (.value v) w') (hd : o.dst = dst) (hk : K (a.put dst v) w') : o.wp Try.prog a w K Q := by
  unfold Oper.wp
  rw [h, ← hd] at *
  exact hk
theorem op_skip (h : (execOp a.eval o).run Try.prog w = .ok .skip w') (hd : o.dst = none) (hk : K a w') : o.wp Try.prog a w K Q := by
  unfold Oper.wp
  rw [h]
  show K (a.put o.dst undef) w'
  rw [hd]
  exact hk
theorem takeH {S : World → Prop} {fuel : Nat} {listed : Array Bool} (h : OpAt ops i dst op) (hs : Region.noSelect ops = true) (hf : Region.free .any ops listed i = true) (hr : (Region.ready .any ops listed).contains i = true)
    (hQ : ∀ c a w, Q (.panic c) a w = False) (hy : ∀ o : Oper, o.op = op → ∀ w, S w → (execOp a.eval o).run Try.prog w = .ok (.value v) w) (hS : S w)
    (hk : wpAnyH Try.prog .any ops Q S fuel (listed.setIfInBounds i true) (a.put dst v) w) : wpAnyH Try.prog .any ops Q S (fuel + 1) listed a w := by
  obtain ⟨o, ho, hg, hd, hop⟩ := h
  refine wpAnyH_take ho hs hf hr (fun c a w h => by rw [hQ] at h; exact h.elim) (v := v) (.inl ⟨by simp [Region.wanted, hg], hy o hop⟩) hS ?_
  rw [hd]
  exact hk

theorem q0w {t : Nat} (h : a.tmps[t]? = some v) : a.eval (.tmp t) = v := by
  show a.tmps.getD t undef = v
  rw [Array.getD_eq_getD_getElem?, h]
  rfl
theorem put_ne {k t : Nat} (h : k ≠ t) : (a.put (some k) v).tmps[t]? = a.tmps[t]? := by
  simp only [Act.put]
  rw [Array.getElem?_setIfInBounds_ne h]
theorem put_self {k : Nat} (h : k < a.tmps.size) : (a.put (some k) v).tmps[k]? = some v := by
  simp only [Act.put]
  rw [Array.getElem?_setIfInBounds_self, if_pos h]
theorem put_size {k : Option Nat} : (a.put k v).tmps.size = a.tmps.size := by
  cases k <;> simp [Act.put]
theorem put_def {k : Option Nat} : (a.put k v).defers = a.defers := by
  cases k <;> simp [Act.put]

theorem x_load {T : TypeId} {y : Operand} {u : Value} (heq : o.op = .load T y) (hy : a.eval y = u) (hr : (Instr.loadAt T u).run Try.prog w = .ok v w) : (execOp a.eval o).run Try.prog w = .ok (.value v) w := by
  subst hy
  generalize a.eval = r at *
  simp [execOp, heq, hr]
theorem x_field {T : TypeId} {y : Operand} {j : Nat} {u : Value} (heq : o.op = .fieldAddr T y j) (hy : a.eval y = u) (hr : (Instr.fieldAt T u j).run Try.prog w = .ok v w) : (execOp a.eval o).run Try.prog w = .ok (.value v) w := by
  subst hy
  generalize a.eval = r at *
  simp [execOp, heq, hr]
theorem x_index {T : TypeId} {y z : Operand} {u x : Value} (heq : o.op = .indexAddr T y z) (hy : a.eval y = u) (hz : a.eval z = x) (hr : (Instr.indexAt T u x).run Try.prog w = .ok v w) : (execOp a.eval o).run Try.prog w = .ok (.value v) w := by
  subst hy hz
  generalize a.eval = r at *
  simp [execOp, heq, hr]
theorem x_lookup {T : TypeId} {y z : Operand} {u x : Value} (heq : o.op = .lookup T y z false) (hy : a.eval y = u) (hz : a.eval z = x) (hr : (Instr.lookup T u x false).run Try.prog w = .ok v w) : (execOp a.eval o).run Try.prog w = .ok (.value v) w := by
  subst hy hz
  generalize a.eval = r at *
  simp [execOp, heq, hr]
theorem x_alloc {T : TypeId} (heq : o.op = .alloc T) (hr : (Instr.alloc T true (.tuple #[])).run Try.prog w = .ok v w') : (execOp a.eval o).run Try.prog w = .ok (.value v) w' := by
  generalize a.eval = r at *
  simp [execOp, heq, hr]
theorem x_store {T : TypeId} {y z : Operand} {u x : Value} (heq : o.op = .store T y z) (hy : a.eval y = u) (hz : a.eval z = x) (hr : (Instr.storeAt T u x).run Try.prog w = .ok () w') : (execOp a.eval o).run Try.prog w = .ok .skip w' := by
  subst hy hz
  generalize a.eval = r at *
  simp [execOp, heq, hr]
theorem x_build {T : TypeId} {n : Nat} {y : Operand} {u : Value} (heq : o.op = .buildSlice T n #[(0, y)]) (hy : a.eval y = u) (hr : (Instr.buildSlice T n #[(0, u)]).run Try.prog w = .ok v w') : (execOp a.eval o).run Try.prog w = .ok (.value v) w' := by
  subst hy
  generalize a.eval = r at *
  simp [execOp, heq, hr]
theorem x_app {T : TypeId} {y z : Operand} {u x : Value} (heq : o.op = .call { callee := .builtin .append, args := #[y, z], argTypes := #[T, T] }) (hy : a.eval y = u) (hz : a.eval z = x) (hr : (Builtin.append_ #[T, T] o.type #[u, x]).run Try.prog w = .ok v w') : (execOp a.eval o).run Try.prog w = .ok (.value v) w' := by
  subst hy hz
  generalize a.eval = r at *
  simp [execOp, heq, resolve, invoke, builtin, hr]
theorem x_mset {T : TypeId} {m y z : Operand} {q u x : Value} (heq : o.op = .mapUpdate T m y z) (hm : a.eval m = q) (hy : a.eval y = u) (hz : a.eval z = x) (hr : (Instr.mapUpdate T q u x).run Try.prog w = .ok () w') : (execOp a.eval o).run Try.prog w = .ok .skip w' := by
  subst hm hy hz
  generalize a.eval = r at *
  simp [execOp, heq, hr]
theorem x_lss {T T' : TypeId} {y z : Operand} {m n : Int} (heq : o.op = .binOp .lss T y z T') (hy : a.eval y = .int .i64 m) (hz : a.eval z = .int .i64 n) : (execOp a.eval o).run Try.prog w = .ok (.value (.bool (decide (m < n)))) w := by
  generalize a.eval = r at *
  simp [execOp, heq, hy, hz, eqGuard, binOp, Op.intCmp]
theorem x_inc {T T' : TypeId} {y : Operand} {m : Int} (heq : o.op = .binOp .add T y (.const (.int .i64 1)) T') (hy : a.eval y = .int .i64 m) (hm : 0 ≤ m) (hm2 : m < 9223372036854775807) : (execOp a.eval o).run Try.prog w = .ok (.value (.int .i64 (m + 1))) w := by
  have hc : a.eval (.const (.int .i64 1)) = .int .i64 1 := rfl
  have ew : ∀ m : Int, IntKind.wrap .i64 m = if m % 18446744073709551616 ≥ 9223372036854775808 then m % 18446744073709551616 - 18446744073709551616 else m % 18446744073709551616 := fun m => by
    simp [IntKind.wrap, IntKind.bits, IntKind.signed]
  have hw : IntKind.wrap .i64 (m + 1) = m + 1 := by
    rw [ew, if_neg (by omega)]
    omega
  generalize a.eval = r at *
  simp [execOp, heq, hy, hc, eqGuard, binOp, Op.intArith, hw]
theorem x_move {y : Operand} {u : Value} (heq : o.op = .move y) (hy : a.eval y = u) : (execOp a.eval o).run Try.prog w = .ok (.value u) w := by
  subst hy
  generalize a.eval = r at *
  simp [execOp, heq]
end
end Go.Proofs.Ytmebmpgffhajbaa


namespace Go.Proofs.Ytmebmpgffhajbaa
open Go.RowKit
set_option linter.unusedVariables false
set_option maxRecDepth 100000

theorem tC : tyOf TC = some (.st 30) := by kernel_rfl
theorem tU : tyOf TU = some (.st 36) := by kernel_rfl
theorem tRU : tyOf TRU = some (.row TU) := by kernel_rfl
theorem fU : flds 36 = some [.int .i64, .st 30] := by kernel_rfl
theorem flC : flatB 8 (.st 30) = true := by kernel_rfl
theorem wC : (Ty.st 30).w = 2 := by kernel_rfl
theorem wU : (Ty.st 36).w = 3 := by kernel_rfl
theorem u_info : (Try.prog.info? TU).map (fun i => (i.size, i.zero)) = some (3, some (.agg #[.int .i64 0, .int .i64 0, .int .i64 0])) := by kernel_rfl
theorem c_info : (Try.prog.info? TC).map (fun i => (i.size, i.zero)) = some (2, some (.agg #[.int .i64 0, .int .i64 0])) := by kernel_rfl

theorem run_alloc_u (w : World) : (Instr.alloc TU true (.tuple #[])).run Try.prog w = .ok (.pointer (some ⟨w.heap.size, 0, none⟩)) (w.alloc (.cells #[.int .i64 0, .int .i64 0, .int .i64 0] TU)) := by
  obtain ⟨i, hi, e⟩ := Option.map_eq_some_iff.1 u_info
  simp only [Prod.mk.injEq] at e
  simp [Instr.alloc, zeroValue, typeInfo, hi, e.2, newVar, newRow, newObj, Sem.run, Value.cells]
theorem run_store_u {w : World} {g : Nat} {cur : Array Value} (hg : w.heap[g]? = some (.cells cur TU (0, 0))) (hc : cur.size = 3) {x y z : Value} (hone : ∀ u ∈ [x, y, z], u.oneCell' = true) :
    (Instr.storeAt TU (.pointer (some ⟨g, 0, none⟩)) (.agg #[x, y, z])).run Try.prog w = .ok () (w.setRow g #[x, y, z]) := by
  obtain ⟨i, hi, e⟩ := Option.map_eq_some_iff.1 u_info
  simp only [Prod.mk.injEq] at e
  have hst := run_storeCells_at Try.prog g 0 TU [x, y, z] 0 cur w hg (by simp; omega) hone
  have e1 : (cur.toList.take (0 + 0) ++ [x, y, z] ++ cur.toList.drop (0 + 0 + [x, y, z].length)) = [x, y, z] := by
    rw [List.drop_eq_nil_of_le (by simp; omega)]
    simp
  rw [e1] at hst
  have hcells : (Value.agg #[x, y, z]).cells = [x, y, z].toArray := rfl
  simp only [Instr.storeAt, Instr.sureAddr, Sem.run_bind, Sem.run_pure, Result.andThen_ok, storeVar, sizeOf, typeInfo, run_program, hi, hcells]
  rw [if_neg (by simp [e.1])]
  exact hst
theorem run_build_c (w : World) (x y : Value) : (Instr.buildSlice TRC 1 #[(0, .agg #[x, y])]).run Try.prog w = .ok (.slice (some ⟨w.heap.size, 0, none⟩) 1 1) (w.alloc (.cells #[x, y] TC)) := by
  obtain ⟨i, hi, e⟩ := Option.map_eq_some_iff.1 c_info
  simp only [Prod.mk.injEq] at e
  refine run_buildSlice w TRC TC 1 _ #[x, y] i (.agg #[.int .i64 0, .int .i64 0]) (row_row row_ty).1 hi e.2 (by rw [e.1]; omega) (by rw [e.1]; omega) ?_
  rw [e.1]
  kernel_rfl

structure LCx (w : World) (a0 : Act) (g g6 : Nat) (T6 : TypeId) (L : List D) (A : Option Addr) (cap : Nat) : Prop where
  gw : g < w.heap.size
  h6 : w.heap[g6]? = some (.cells #[.map (some g)] T6 (0, 0))
  g6g : g6 ≠ g
  sz : a0.tmps.size = 110
  e25 : a0.tmps[25]? = some (.slice A L.length cap)
  e26 : a0.tmps[26]? = some (.int .i64 L.length)
  e6 : a0.tmps[6]? = some (.pointer (some ⟨g6, 0, none⟩))
  hL : L.length ≤ 5864062014634
  el : ∀ j (h : j < L.length), ∃ b o k x u1 u2, A = some ⟨b, o, none⟩ ∧ b ≠ g ∧ w.rangeAt b (o + j * 3) [.int .i64 k, u1, u2] ∧ L[j] = .a [.i k, x] ∧ rngB .i64 k = true ∧ Rd w (fun _ => False) x (.st 30) [u1, u2]

structure LInv (w : World) (a0 : Act) (g : Nat) (L : List D) (j : Nat) (a : Act) (W : World) : Prop where
  df : a.defers = a0.defers
  sz : a.tmps.size = 110
  tm : ∀ t, hasN killO t = false → a.tmps[t]? = a0.tmps[t]?
  e27 : a.tmps[27]? = some (.int .i64 j)
  o : OInv w g (.st 30) j (grpD (L.take j)) W

theorem grp_succ {L : List D} {j : Nat} (h : j < L.length) : grpD (L.take (j + 1)) = addK (L[j].fld 0) (L[j].fld 1) (grpD (L.take j)) := by
  unfold grpD
  rw [List.take_succ_eq_append_getElem h, List.foldl_append]
  rfl

theorem region6_ok {w : World} {a0 a : Act} {g g6 g8 : Nat} {T6 : TypeId} {L l : List D} {A : Option Addr} {cap m : Nat} (hc : LCx w a0 g g6 T6 L A cap) {W : World} (hsz : a.tmps.size = 110) (e6 : a.tmps[6]? = some (.pointer (some ⟨g6, 0, none⟩))) (e8 : a.tmps[8]? = some (.pointer (some ⟨g8, 0, none⟩)))
    {k : Int} {x : D} {u1 u2 : Value} (hk : rngB .i64 k = true) (hx : Rd w (fun _ => False) x (.st 30) [u1, u2]) (h8 : W.heap[g8]? = some (.cells #[.int .i64 k, u1, u2] TU (0, 0))) (hg8 : w.heap.size ≤ g8) (ho : OInv w g (.st 30) m l W) (hm : m < 5864062014634)
    {Q : Exit → Act → World → Prop} (hQ : ∀ c a w, Q (.panic c) a w = False)
    (hfin : ∀ (a' : Act) (W' : World), a'.defers = a.defers → a'.tmps.size = 110 → (∀ t, hasN killO t = false → a'.tmps[t]? = a.tmps[t]?) → a'.tmps[27]? = a.tmps[27]? → OInv w g (.st 30) (m + 1) (addK (.i k) x l) W' → Q .normal a' W') :
    (Code.region 6 ops6 true).wp Try.prog Q a W := by
  let W0 : World := { W with drawn := W.drawn + 1 }
  have hd0 : But Nil W W0 := (But.refl Nil W).drew
  have ho0 : OInv w g (.st 30) m l W0 := ⟨ho.but.drew, ho.row, by obtain ⟨es, clock, bs, q1, q2, q3, q4⟩ := ho.map; exact ⟨es, clock, bs, q1, q2.keep flC (fun _ _ => rfl), q3, q4⟩⟩
  obtain ⟨va, ds, b, hlk, hdl, hbw, hbt, hput⟩ := oinv_step flC hc.gw hk ho0
  let H : World → Prop := fun V => V.heap[g6]? = some (.cells #[.map (some g)] T6 (0, 0)) ∧ V.heap[g8]? = some (.cells #[.int .i64 k, u1, u2] TU (0, 0))
  have g6w : g6 < w.heap.size := lt_of_heap hc.h6
  have g8W : g8 < W.heap.size := lt_of_heap h8
  have hH0 : H W0 := ⟨(ho.but.block g6 g6w (fun e => hc.g6g e)).trans hc.h6, h8⟩
  have hHn : ∀ {V V' : World}, H V → But Nil V V' → H V' := fun {V V'} hV hb => ⟨(hb.block g6 (lt_of_heap hV.1) id).trans hV.1, (hb.block g8 (lt_of_heap hV.2) id).trans hV.2⟩
  have hfU0 : ∀ (V : World), (Instr.fieldAt TU (.pointer (some ⟨g8, 0, none⟩)) 0).run Try.prog V = .ok (.pointer (some ⟨g8, 0, none⟩)) V := fun V => by
    have := run_fieldAt_of (w := V) tU fU (j := 0) rfl g8 0
    simpa [offs, widths] using this
  have hfU1 : ∀ (V : World), (Instr.fieldAt TU (.pointer (some ⟨g8, 0, none⟩)) 1).run Try.prog V = .ok (.pointer (some ⟨g8, 1, none⟩)) V := fun V => by
    have := run_fieldAt_of (w := V) tU fU (j := 1) rfl g8 0
    simpa [offs, widths, Ty.w] using this
  have hl0 : ∀ V, H V → (Instr.loadAt TM (.pointer (some ⟨g6, 0, none⟩))).run Try.prog V = .ok (.map (some g)) V := fun V hV => run_load_mapO hV.1
  have hl1 : ∀ V, H V → (Instr.loadAt TI (.pointer (some ⟨g8, 0, none⟩))).run Try.prog V = .ok (.int .i64 k) V := fun V hV => by
    obtain ⟨v, h1, h2⟩ := run_load_of (w := V) (F := fun _ => False) int_ty (b := g8) (o := 0) (cs := [.int .i64 k]) (fun j u hj => by
      rw [cell_of_row V g8 (0 + j) _ _ (0, 0) hV.2]
      cases j with
      | zero => simpa using hj
      | succ j => simp at hj) (rdI hk)
    have h2 : [Value.int .i64 k] = [v] := h2
    injection h2 with h2
    rw [h2]
    exact h1
  have hl2 : ∀ V, H V → (Instr.loadAt TC (.pointer (some ⟨g8, 1, none⟩))).run Try.prog V = .ok (.agg #[u1, u2]) V := fun V hV => by
    obtain ⟨v, h1, h2⟩ := run_load_of (w := V) (F := fun _ => False) tC (b := g8) (o := 1) (cs := [u1, u2]) (fun j u hj => by
      rw [cell_of_row V g8 (1 + j) _ _ (0, 0) hV.2]
      match j with
      | 0 => simpa using hj
      | 1 => simpa using hj
      | j + 2 => simp at hj) (Rd.flat 8 _ flC hx)
    have h2 : v = .agg [u1, u2].toArray := h2
    rw [h2] at h1
    exact h1
  refine wp_region_held mixed_okD (S := H) ?_
  rw [size6]
  refine takeH o6_0 (by kernel_rfl) (by kernel_rfl) (by kernel_rfl) hQ (v := .map (some g)) (fun o h V hV => x_load h (q0w e6) (hl0 V hV)) hH0 ?_
  refine takeH o6_1 (by kernel_rfl) (by kernel_rfl) (by kernel_rfl) hQ (v := .pointer (some ⟨g8, 0, none⟩)) (fun o h V hV => x_field h (q0w (by simpa [put_ne] using e8)) (hfU0 V)) hH0 ?_
  refine takeH o6_2 (by kernel_rfl) (by kernel_rfl) (by kernel_rfl) hQ (v := .int .i64 k) (fun o h V hV => x_load h (q0w (put_self (by simp [put_size, hsz]))) (hl1 V hV)) hH0 ?_
  refine takeH o6_3 (by kernel_rfl) (by kernel_rfl) (by kernel_rfl) hQ (v := .map (some g)) (fun o h V hV => x_load h (q0w (by simpa [put_ne] using e6)) (hl0 V hV)) hH0 ?_
  refine takeH o6_4 (by kernel_rfl) (by kernel_rfl) (by kernel_rfl) hQ (v := .pointer (some ⟨g8, 0, none⟩)) (fun o h V hV => x_field h (q0w (by simpa [put_ne] using e8)) (hfU0 V)) hH0 ?_
  refine takeH o6_5 (by kernel_rfl) (by kernel_rfl) (by kernel_rfl) hQ (v := .int .i64 k) (fun o h V hV => x_load h (q0w (put_self (by simp [put_size, hsz]))) (hl1 V hV)) hH0 ?_
  refine takeH o6_7 (by kernel_rfl) (by kernel_rfl) (by kernel_rfl) hQ (v := .pointer (some ⟨g8, 1, none⟩)) (fun o h V hV => x_field h (q0w (by simpa [put_ne] using e8)) (hfU1 V)) hH0 ?_
  refine takeH o6_8 (by kernel_rfl) (by kernel_rfl) (by kernel_rfl) hQ (v := .agg #[u1, u2]) (fun o h V hV => x_load h (q0w (put_self (by simp [put_size, hsz]))) (hl2 V hV)) hH0 ?_
  generalize ha1 : Act.put _ (some 39) _ = a1
  have s1 : a1.tmps.size = 110 := by rw [← ha1]; simp [put_size, hsz]
  have d1 : a1.defers = a.defers := by rw [← ha1]; simp [put_def]
  have k1 : ∀ t, hasN killO t = false → a1.tmps[t]? = a.tmps[t]? := fun t ht => by
    have hne : ∀ q, hasN killO q = true → q ≠ t := fun q hq e => by
      subst e
      rw [ht] at hq
      cases hq
    rw [← ha1, put_ne (hne 39 rfl), put_ne (hne 38 rfl), put_ne (hne 36 rfl), put_ne (hne 35 rfl), put_ne (hne 34 rfl), put_ne (hne 33 rfl), put_ne (hne 32 rfl), put_ne (hne 31 rfl)]
  have k27 : a1.tmps[27]? = a.tmps[27]? := by rw [← ha1]; simp [put_ne]
  have t31 : a1.tmps[31]? = some (.map (some g)) := by rw [← ha1, put_ne (show (39 : Nat) ≠ 31 by decide), put_ne (show (38 : Nat) ≠ 31 by decide), put_ne (show (36 : Nat) ≠ 31 by decide), put_ne (show (35 : Nat) ≠ 31 by decide), put_ne (show (34 : Nat) ≠ 31 by decide), put_ne (show (33 : Nat) ≠ 31 by decide), put_ne (show (32 : Nat) ≠ 31 by decide), put_self (by simp only [put_size, hsz]; decide)]
  have t33 : a1.tmps[33]? = some (.int .i64 k) := by rw [← ha1, put_ne (show (39 : Nat) ≠ 33 by decide), put_ne (show (38 : Nat) ≠ 33 by decide), put_ne (show (36 : Nat) ≠ 33 by decide), put_ne (show (35 : Nat) ≠ 33 by decide), put_ne (show (34 : Nat) ≠ 33 by decide), put_self (by simp only [put_size, hsz]; decide)]
  have t34 : a1.tmps[34]? = some (.map (some g)) := by rw [← ha1, put_ne (show (39 : Nat) ≠ 34 by decide), put_ne (show (38 : Nat) ≠ 34 by decide), put_ne (show (36 : Nat) ≠ 34 by decide), put_ne (show (35 : Nat) ≠ 34 by decide), put_self (by simp only [put_size, hsz]; decide)]
  have t36 : a1.tmps[36]? = some (.int .i64 k) := by rw [← ha1, put_ne (show (39 : Nat) ≠ 36 by decide), put_ne (show (38 : Nat) ≠ 36 by decide), put_self (by simp only [put_size, hsz]; decide)]
  have t39 : a1.tmps[39]? = some (.agg #[u1, u2]) := by rw [← ha1, put_self (by simp only [put_size, hsz]; decide)]
  clear ha1
  have h8b : g8 ≠ b := fun e => by
    subst e
    rcases hbt with ⟨cur, h⟩ | h
    · rw [hH0.2] at h
      injection h with h
      injection h with _ h
      exact absurd h (by decide)
    · exact absurd h (Nat.not_le.2 g8W)
  -- the last two operations
  have last : ∀ (listed : Array Bool) (a2 : Act) (W1 : World) (nb : Nat), Region.ready .any ops6 listed = [10] → Region.ready .any ops6 (listed.setIfInBounds 10 true) = [11] → Region.ready .any ops6 ((listed.setIfInBounds 10 true).setIfInBounds 11 true) = [] →
      But Nil W0 W1 → H W1 → W1.heap[nb]? = some (.cells #[u1, u2] TC (0, 0)) → a2.tmps.size = 110 → a2.defers = a1.defers → (∀ t, hasN killO t = false → a2.tmps[t]? = a1.tmps[t]?) → a2.tmps[27]? = a1.tmps[27]? → a2.tmps[31]? = some (.map (some g)) → a2.tmps[33]? = some (.int .i64 k) → a2.tmps[37]? = some va → a2.tmps[40]? = some (.slice (some ⟨nb, 0, none⟩) 1 1) →
      wpAnyH Try.prog .any ops6 Q H 2 listed a2 W1 := by
    intro listed a2 W1 nb r1 r2 r3 hb1 hH1 hnb s2 d2 k2 k27' q31 q33 q37 q40
    refine wpAnyH_all r1 (by simp) fun i hi => ?_
    simp only [List.mem_singleton] at hi
    subst hi
    refine wpOp_at o6_10 fun o hd hop => ?_
    obtain ⟨v', W2, b', hr, hb2, hE, hb', hlt⟩ := el_app (W := W1) tC flC (hlk W1 hb1).2 (vs := [u1, u2]) (Rd.flat 8 _ flC hx) hnb (by
      have h1 : (5864062014634 : Nat) ≤ LM (.st 30) := by decide
      omega) o.type
    refine op_val (x_app hop (q0w q37) (q0w q40) hr) hd ⟨?_, ?_⟩
    · refine ⟨(hb2.block g6 (lt_of_heap hH1.1) (fun e => ?_)).trans hH1.1, (hb2.block g8 (lt_of_heap hH1.2) (fun e => h8b e)).trans hH1.2⟩
      have : g6 = b := e
      omega
    · refine wpAnyH_all r2 (by simp) fun i hi => ?_
      simp only [List.mem_singleton] at hi
      subst hi
      refine wpOp_at o6_11 fun o' hd' hop' => ?_
      obtain ⟨W3, hr3, hb3, ho3⟩ := hput x W1 W2 v' b' hb1 hb2 hE hb' hlt
      refine op_skip (x_mset hop' (q0w (by simpa [put_ne] using q31)) (q0w (by simpa [put_ne] using q33)) (q0w (put_self (by omega))) hr3) hd' ⟨?_, wpAnyH_done r3 (hfin _ _ ?_ ?_ ?_ ?_ ho3) _⟩
      · have hH2 : H W2 := ⟨(hb2.block g6 (lt_of_heap hH1.1) (fun e => by have : g6 = b := e; omega)).trans hH1.1, (hb2.block g8 (lt_of_heap hH1.2) (fun e => h8b e)).trans hH1.2⟩
        exact ⟨(hb3.block g6 (lt_of_heap hH2.1) (fun e => hc.g6g e)).trans hH2.1, (hb3.block g8 (lt_of_heap hH2.2) (fun e => by have : g8 = g := e; have := hc.gw; omega)).trans hH2.2⟩
      · rw [put_def, d2, d1]
      · rw [put_size, s2]
      · intro t ht
        rw [put_ne (fun e => by subst e; simp [hasN, killO] at ht), k2 t ht, k1 t ht]
      · rw [put_ne (by decide), k27', k27]
  have hu : ∀ V : World, V.heap[V.heap.size]? = none := fun V => by simp
  refine wpAnyH_all (rs := [6, 9]) (by kernel_rfl) (by simp) fun i hi => ?_
  simp only [List.mem_cons, List.not_mem_nil, or_false] at hi
  rcases hi with rfl | rfl
  · refine wpOp_at o6_6 fun o hd hop => op_val (x_lookup hop (q0w t34) (q0w t36) (hlk W0 (But.refl _ _)).1) hd ⟨hH0, ?_⟩
    refine wpAnyH_all (rs := [9]) (by kernel_rfl) (by simp) fun i hi => ?_
    simp only [List.mem_singleton] at hi
    subst hi
    have hbn : But Nil W0 (W0.alloc (.cells #[u1, u2] TC)) := (But.refl Nil W0).alloc _
    refine wpOp_at o6_9 fun o hd hop => op_val (x_build hop (q0w (by simpa [put_ne] using t39)) (run_build_c W0 u1 u2)) hd ⟨hHn hH0 hbn, ?_⟩
    refine last _ _ _ W0.heap.size (by kernel_rfl) (by kernel_rfl) (by kernel_rfl) hbn (hHn hH0 hbn) (heap_new rfl) (by simp [put_size, s1]) (by simp [put_def]) (fun t ht => ?_) (by simp [put_ne]) (by simpa [put_ne] using t31) (by simpa [put_ne] using t33) ?_ (put_self (by simp [put_size, s1]))
    · rw [put_ne (fun e => by subst e; simp [hasN, killO] at ht), put_ne (fun e => by subst e; simp [hasN, killO] at ht)]
    · rw [put_ne (by decide)]
      exact put_self (by omega)
  · have hbn : But Nil W0 (W0.alloc (.cells #[u1, u2] TC)) := (But.refl Nil W0).alloc _
    refine wpOp_at o6_9 fun o hd hop => op_val (x_build hop (q0w t39) (run_build_c W0 u1 u2)) hd ⟨hHn hH0 hbn, ?_⟩
    refine wpAnyH_all (rs := [6]) (by kernel_rfl) (by simp) fun i hi => ?_
    simp only [List.mem_singleton] at hi
    subst hi
    refine wpOp_at o6_6 fun o hd hop => op_val (x_lookup hop (q0w (by simpa [put_ne] using t34)) (q0w (by simpa [put_ne] using t36)) (hlk _ hbn).1) hd ⟨hHn hH0 hbn, ?_⟩
    refine last _ _ _ W0.heap.size (by kernel_rfl) (by kernel_rfl) (by kernel_rfl) hbn (hHn hH0 hbn) (heap_new rfl) (by simp [put_size, s1]) (by simp [put_def]) (fun t ht => ?_) (by simp [put_ne]) (by simpa [put_ne] using t31) (by simpa [put_ne] using t33) (put_self (by simp [put_size, s1])) ?_
    · rw [put_ne (fun e => by subst e; simp [hasN, killO] at ht), put_ne (fun e => by subst e; simp [hasN, killO] at ht)]
    · rw [put_ne (by decide)]
      exact put_self (by omega)
end Go.Proofs.Ytmebmpgffhajbaa


namespace Go.Proofs.Ytmebmpgffhajbaa
open Go.RowKit
set_option linter.unusedVariables false
set_option maxRecDepth 100000

theorem round_ok {w : World} {a0 : Act} {g g6 : Nat} {T6 : TypeId} {L : List D} {A : Option Addr} {cap : Nat} (hc : LCx w a0 g g6 T6 L A cap) {j : Nat} {a : Act} {W : World} (h : LInv w a0 g L j a W)
    {R : Act → World → Prop} {R' : Act → World → Prop} (hR : j < L.length → ∀ a' W', LInv w a0 g L (j + 1) a' W' → R a' W')
    (hR' : L.length ≤ j → ∀ a' W', LInv w a0 g L j a' W' → R' a' W') : roundO.wp Try.prog (fun e a' W' => (e = .normal ∧ R a' W') ∨ (e = .exit 0 ∧ R' a' W')) a W := by
  have e25 : a.tmps[25]? = _ := (h.tm 25 rfl).trans hc.e25
  have e26 : a.tmps[26]? = _ := (h.tm 26 rfl).trans hc.e26
  have e6 : a.tmps[6]? = _ := (h.tm 6 rfl).trans hc.e6
  have hsz := h.sz
  refine wp_seq (wp_region ?_)
  rw [size4]
  refine wpOps_at o4_0 fun o hd hop => ?_
  refine op_val (x_lss hop (q0w h.e27) (q0w e26)) hd ?_
  show Code.wp _ _ _ _ _
  by_cases hlt : j < L.length
  · rw [decide_eq_true (show (j : Int) < (L.length : Int) by omega)]
    refine wp_seq (wp_cond_true (q0w (put_self (by omega))) (wp_skip ?_))
    show Code.wp _ _ _ _ _
    obtain ⟨b, ob, k, x, u1, u2, rfl, hbg, hrng, hLj, hk, hx⟩ := hc.el j hlt
    have hbw : b < w.heap.size := rangeAt_lt hrng (by simp)
    have hrW : W.rangeAt b (ob + j * 3) [.int .i64 k, u1, u2] := rangeAt_blk hrng (h.o.but.block b hbw fun e => hbg e)
    have hone := (Rd.len _ hx).2
    refine wp_seq (wp_block (wp_seq (wp_region ?_)))
    rw [size5]
    refine wpOps_at o5_0 fun o hd hop => ?_
    have hix := run_indexAt_of (w := W) tRU tU (b := b) (o := ob) (len := L.length) (cap := cap) (k := .i64) (i := (j : Int)) (by omega) (by omega)
    rw [wU, Int.toNat_natCast] at hix
    refine op_val (x_index hop (q0w (by rw [put_ne (by decide)]; exact e25)) (q0w (by rw [put_ne (by decide)]; exact h.e27)) hix) hd ?_
    refine wpOps_at o5_1 fun o hd hop => ?_
    obtain ⟨v, hl1, hl2⟩ := run_load_of (w := W) (F := fun _ => False) tU hrW (d := .a [.i k, x]) ⟨36, _, rfl, fU, .int .i64, [.st 30], [.int .i64 k], [u1, u2], rfl, rfl, ⟨.i64, rfl, rfl, hk⟩, .st 30, [], [u1, u2], [], rfl, rfl, Rd.flat 8 _ flC hx, rfl, rfl⟩
    have hl2 : v = .agg #[.int .i64 k, u1, u2] := hl2
    subst hl2
    refine op_val (x_load hop (q0w (put_self (by simp only [put_size]; omega))) hl1) hd ?_
    refine wpOps_at o5_2 fun o hd hop => ?_
    refine op_val (x_alloc hop (run_alloc_u W)) hd ?_
    refine wpOps_at o5_3 fun o hd hop => ?_
    have hst := run_store_u (w := W.alloc (.cells #[.int .i64 0, .int .i64 0, .int .i64 0] TU)) (g := W.heap.size) (heap_new rfl) rfl (x := .int .i64 k) (y := u1) (z := u2) (fun u hu => by
      rcases List.mem_cons.1 hu with rfl | hu
      · rfl
      · exact hone u hu)
    refine op_skip (x_store hop (q0w (put_self (by simp only [put_size]; omega))) (q0w (by rw [put_ne (by decide), put_self (by simp only [put_size]; omega)])) hst) hd ?_
    show Code.wp _ _ _ _ _
    generalize hW2 : (W.alloc (.cells #[.int .i64 0, .int .i64 0, .int .i64 0] TU)).setRow W.heap.size #[.int .i64 k, u1, u2] = W2
    have hb2 : But Nil W W2 := by
      rw [← hW2]
      exact setRow_but ((But.refl Nil W).alloc _) (.inr (Nat.le_refl _)) _
    have h8 : W2.heap[W.heap.size]? = some (.cells #[.int .i64 k, u1, u2] TU (0, 0)) := by
      rw [← hW2]
      exact setRow_heap _ _ _ _ _ _ (heap_new rfl)
    have ho2 : OInv w g (.st 30) j (grpD (L.take j)) W2 := by
      obtain ⟨es, clock, bs, q1, q2, q3, q4⟩ := h.o.map
      refine ⟨h.o.but.trans_nil hb2, h.o.row, es, clock, bs, (hb2.block g (lt_of_heap q1) id).trans q1, q2.keep flC fun y hy => hb2.block y (q4 y hy).2 id, q3, fun y hy => ?_⟩
      have := q4 y hy
      have := hb2.size
      exact ⟨(q4 y hy).1, by omega⟩
    have hjl := hc.hL
    refine region6_ok hc (m := j) (L := L) (by simp only [put_size]; exact hsz) (by rw [put_ne (by decide), put_ne (by decide), put_ne (by decide), put_ne (by decide)]; exact e6) (put_self (by simp only [put_size]; omega)) hk hx h8 h.o.but.size ho2 (by omega) (fun c a w => ?_) fun a' W' d' s' t' t27' ho' => ?_
    · simp only [Exit.inBlock, Exit.then]
      simp
    · show Code.wp _ _ _ _ _
      have hse : grpD (L.take (j + 1)) = addK (.i k) x (grpD (L.take j)) := by
        rw [grp_succ hlt, hLj]
        rfl
      have e27' : a'.tmps[27]? = some (.int .i64 j) := by
        rw [t27', put_ne (by decide), put_ne (by decide), put_ne (by decide), put_ne (by decide)]
        exact h.e27
      refine wp_region ?_
      rw [size7]
      refine wpOps_at o7_0 fun o hd hop => ?_
      refine op_val (x_inc hop (q0w e27') (by omega) (by omega)) hd ?_
      refine wpOps_at o7_1 fun o hd hop => ?_
      refine op_val (x_move hop (q0w (put_self (by omega)))) hd ?_
      refine .inl ⟨rfl, hR hlt _ _ ⟨?_, ?_, fun t ht => ?_, ?_, by rw [hse]; exact ho'⟩⟩
      · simp only [put_def, d']
        exact h.df
      · simp only [put_size]
        exact s'
      · have hne : ∀ q, hasN killO q = true → q ≠ t := fun q hq e => by
          subst e
          rw [ht] at hq
          cases hq
        rw [put_ne (hne 27 rfl), put_ne (hne 42 rfl), t' t ht, put_ne (hne 8 rfl), put_ne (hne 30 rfl), put_ne (hne 29 rfl), put_ne (hne 28 rfl)]
        exact h.tm t ht
      · rw [put_self (by simp only [put_size]; omega)]
        rfl
  · rw [decide_eq_false (show ¬ (j : Int) < (L.length : Int) by omega)]
    refine wp_seq (wp_cond_false (q0w (put_self (by omega))) (wp_exit ?_))
    refine .inr ⟨rfl, hR' (by omega) _ _ ⟨by rw [put_def]; exact h.df, by rw [put_size]; exact h.sz, fun t ht => ?_, ?_, h.o⟩⟩
    · rw [put_ne (fun e => by subst e; simp [hasN, killO] at ht)]
      exact h.tm t ht
    · rw [put_ne (by decide)]
      exact h.e27

theorem LInv.start {w : World} {a0 : Act} {g g6 : Nat} {T6 : TypeId} {L : List D} {A : Option Addr} {cap : Nat} (hc : LCx w a0 g g6 T6 L A cap) (h27 : a0.tmps[27]? = some (.int .i64 0)) {clock : Nat} (hm : w.heap[g]? = some (.map #[] clock)) : LInv w a0 g L 0 a0 w :=
  ⟨rfl, hc.sz, fun _ _ => rfl, h27, But.refl _ _, fun p hp => by simp [grpD] at hp, #[], clock, [], hm, trivial, List.nodup_nil, fun b hb => by cases hb⟩

theorem loop_ok {w : World} {a0 : Act} {g g6 : Nat} {T6 : TypeId} {L : List D} {A : Option Addr} {cap : Nat} (hc : LCx w a0 g g6 T6 L A cap) (h27 : a0.tmps[27]? = some (.int .i64 0)) {clock : Nat} (hm : w.heap[g]? = some (.map #[] clock))
    {Q : Exit → Act → World → Prop} (hQ : ∀ a' W', LInv w a0 g L L.length a' W' → Q .normal a' W') : codeL.wp Try.prog Q a0 w := by
  rw [codeL_eq]
  refine wp_block (wp_loop_rounds (L.length + 1) ?_)
  have key : ∀ m j a W, L.length - j < m → j ≤ L.length → LInv w a0 g L j a W → Code.rounds Try.prog roundO (Exit.inBlock 0 Q) m a W := by
    intro m
    induction m with
    | zero => intro j a W h; omega
    | succ m ih =>
      intro j a W h1 h2 h
      rw [rounds_succ]
      refine wp_mono (round_ok hc h (R := Code.rounds Try.prog roundO (Exit.inBlock 0 Q) m) (R' := Q .normal) (fun hlt a' W' h' => ih (j + 1) a' W' (by omega) (by omega) h') (fun hge a' W' h' => hQ a' W' (by
        obtain rfl : j = L.length := by omega
        exact h'))) ?_
      rintro e a' W' (⟨rfl, hr⟩ | ⟨rfl, hr⟩)
      · exact hr
      · simp only [Exit.then, Exit.inBlock, if_true]
        exact hr
  exact key _ 0 a0 w (by omega) (Nat.zero_le _) (LInv.start hc h27 hm)
end Go.Proofs.Ytmebmpgffhajbaa


namespace Go.Proofs.Ytmebmpgffhajbaa
open Go.RowKit
set_option linter.unusedVariables false
set_option maxRecDepth 100000

section
variable {c : Cx} {p : Pins} {w w0 : World} {S0 : Nat → Prop} {a : Act} {σ σ' : St} {d : List Deferred}

theorem olds_ok (hb : Bs c.A w0 S0 p w) (hf : SF c σ p w a) (hd : a.defers = d) (hz : a.tmps.size = 110) {N : List X} (h : doOlds σ = some (N, σ')) (hN : ∀ n ∈ N, n.says c.v) {Q : Exit → Act → World → Prop}
    (hk : ∀ a' w', Post c w0 S0 d 110 σ' a' w' → Q .normal a' w') : codeL.wp Try.prog Q a w := by
  unfold doOlds at h
  split at h
  · rename_i xT U own dep xn o1 d1 o2 d2 tm te pin dm h25 h26 h27 h6 hm6
    split at h
    · rename_i hok
      simp only [Bool.and_eq_true, Bool.not_eq_true'] at hok
      obtain ⟨hU, htm, hte, hp96, hpin⟩ := hok
      have hU := Nat.eq_of_beq_eq_true hU
      subst hU
      rw [Ty.q0c] at htm hte
      subst htm
      subst hte
      simp only [Option.some.injEq, Prod.mk.injEq] at h
      obtain ⟨rfl, rfl⟩ := h
      have hne96 : pin ≠ 96 := fun e => by subst e; simp at hp96
      -- the trail
      obtain ⟨v25, e25, hv25⟩ := hf.t 25 _ h25
      have hcon := asRow_ok (c := c) (p := p) (w := w) tU (show asRow TU (.v xT (.row TU) own dep) = some (xT, own, dep) by simp [asRow]) hv25
      obtain ⟨te0, A1, cap, hte0, hd1, hev, q1, q2, q3, hE1⟩ := hcon.row
      obtain rfl := Option.some.inj (hte0.symm.trans tU)
      subst hev
      -- its length
      obtain ⟨v26, e26, hv26⟩ := hf.t 26 _ h26
      obtain ⟨n26, hx26, hv26, -⟩ := pd_int hv26
      subst hv26
      have hn : n26 = ((xT.ev c.v).rs.length : Nat) := by
        have h0 : (D.b (decide (xn.ev c.v = .i ((xT.ev c.v).rs.length : Nat)))).tt = true := hN (.eq xn (.len xT)) (by simp)
        have h1 : xn.ev c.v = .i ((xT.ev c.v).rs.length : Nat) := of_decide_eq_true h0
        rw [hx26] at h1
        exact D.i.inj h1
      subst hn
      obtain ⟨v27, e27, hv27⟩ := hf.t 27 _ h27
      obtain ⟨n27, hx27, hv27, -⟩ := pd_int hv27
      subst hv27
      have hn27 : n27 = 0 := by
        have : D.i 0 = D.i n27 := hx27
        injection this with this
        exact this.symm
      subst hn27
      obtain ⟨v6, e6, g6, hg6, hv6, hat6⟩ := hf.t 6 _ h6
      subst hv6
      obtain ⟨g6', cs6, T6, hg6', hh6, hc6⟩ := hf.m 6 _ hm6
      obtain rfl := Option.some.inj (hg6.symm.trans hg6')
      have hc6 : Fl c.A p w dm (lkA [(0, pin)] 0) (.mp []) (.map TI TRC) cs6.toList := hc6
      rw [q03] at hc6
      obtain ⟨g, es, clock, hcs6, hgp, hmap, hml⟩ : ∃ g es clock, cs6 = #[.map (some g)] ∧ p pin = some g ∧ w.heap[g]? = some (.map es clock) ∧ es.toList = [] := by
        rcases hc6 with ⟨E, te, l, v, e, -⟩ | ⟨K, V, kt, vt, l, g, es, clock, e1, hK, hV, e2, e3, hg, hh, hl⟩
        · cases e
        · injection e2 with e2
          subst e2
          refine ⟨g, es, clock, by apply Array.ext'; exact e3, hg, hh, ?_⟩
          cases hes : es.toList with
          | nil => rfl
          | cons e r => rw [hes] at hl; exact hl.elim
      have hes : es = #[] := by apply Array.ext'; exact hml
      subst hes hcs6
      have hg6g : g6 ≠ g := fun e => by
        subst e
        exact hne96 (hb.inj _ _ _ hgp hg6)
      have hnotpin : ∀ {b : Nat}, FFD c.A p (own.map (·.2) ++ dep) b → b ≠ g := fun {b} hF e => by
        subst e
        rcases hF with ⟨-, hfr⟩ | ⟨x, hx, hpx⟩
        · exact hfr pin hgp
        · have := hb.inj _ _ _ hpx hgp
          subst this
          have : hasN (own.map (·.2) ++ dep) x = true := hasN_iff.2 hx
          rw [hpin] at this
          cases this
      have hlc : LCx w a g g6 T6 (xT.ev c.v).rs A1 cap := by
        refine ⟨lt_of_heap hmap, hh6, hg6g, hz, e25, e26, e6, ?_, fun j hj => ?_⟩
        · have : LM (.st 36) = 5864062014634 := by decide
          omega
        · obtain ⟨b, o, cs, e1, hF, hr, hd⟩ := (rdE_iff.1 hE1) j hj
          rw [wU, Nat.zero_add] at hr
          have hd : Rd w _ (xT.ev c.v).rs[j] (.st 36) cs := hd
          generalize (xT.ev c.v).rs[j] = y at hd ⊢
          cases y with
          | a l =>
            obtain ⟨T, fs, eT, hfl, hl⟩ := hd
            injection eT with eT
            subst eT
            obtain rfl := Option.some.inj (hfl.symm.trans fU)
            cases l with
            | nil => obtain ⟨h, -⟩ := hl; cases h
            | cons y0 l =>
              obtain ⟨t0, ts, c1, c2, e2, e3, h5, h6⟩ := hl
              injection e2 with e2 e4
              subst e2 e4 e3
              cases l with
              | nil => obtain ⟨h, -⟩ := h6; cases h
              | cons y1 l =>
                obtain ⟨t1, ts', c3, c4, e5, e6, h7, h8⟩ := h6
                injection e5 with e5 e7
                subst e5 e7 e6
                cases l with
                | cons y2 l => obtain ⟨t, ts, c1, c2, e1, -⟩ := h8; cases e1
                | nil =>
                  obtain ⟨-, rfl⟩ := h8
                  cases y0 with
                  | i k =>
                    obtain ⟨k0, e8, rfl, hk0⟩ := h5
                    injection e8 with e8
                    subst e8
                    have hl3 := (Rd.len _ h7).1
                    rw [wC] at hl3
                    match c3, hl3 with
                    | [u1, u2], _ =>
                      exact ⟨b, o, k, y1, u1, u2, e1, hnotpin hF, by simpa using hr, rfl, hk0, Rd.flat 8 _ flC h7⟩
                  | u => exact h5.elim
                  | b x => cases h5.1
                  | s x => cases h5.1
                  | a l => obtain ⟨T, fs, e, -⟩ := h5; cases e
                  | r l => obtain ⟨E, te, A, cap, e, -⟩ := h5; cases e
                  | mp l => obtain ⟨K, V, kt, vt, g, es, clock, e, -⟩ := h5; cases e
          | u => exact hd.elim
          | i n => obtain ⟨k, e, -⟩ := hd; cases e
          | b x => cases hd.1
          | s x => cases hd.1
          | r l => obtain ⟨E, te, A, cap, e, -⟩ := hd; cases e
          | mp l => obtain ⟨K, V, kt, vt, g, es, clock, e, -⟩ := hd; cases e
      refine loop_ok hlc e27 hmap fun a' W' hI => hk a' W' ?_
      obtain ⟨es', clock', bs, r1, r2, r3, r4⟩ := hI.o.map
      rw [List.take_length] at r2
      have hbut := hI.o.but
      have hst : Stab c.A (oneQ pin) no p w p W' := ⟨hbut.size, fun b hlt ha hfr => ⟨hbut.block b hlt fun e => by
          have e : b = g := e
          subst e
          exact hfr pin hgp, hfr⟩, fun x b _ h => h, fun x b hx hpx => hbut.block b (hb.bd x b hpx) fun e => by
          have e : b = g := e
          subst e
          have := hb.inj _ _ _ hpx hgp
          subst this
          simp [oneQ] at hx⟩
      have hb1 : Bs c.A w0 S0 p W' := by
        refine ⟨hb.inj, fun x b hx => Nat.lt_of_lt_of_le (hb.bd x b hx) hbut.size, hb.but.trans hbut fun x hx hlt => ?_, hb.pin, hb.new, hb.pa, fun x b hx => ?_⟩
        · have hx : x = g := hx
          subst hx
          exact hb.pin pin x hgp
        · by_cases hbg : b = g
          · subst hbg
            exact .inr ⟨_, _, r1⟩
          · exact (hb.obj x b hx).same (hbut.block b (hb.bd x b hx) hbg)
      have hf1 : SF c ⟨σ.t.filter fun e => !hasN killO e.1, σ.m⟩ p w a' := by
        refine ⟨fun t x hx => ?_, hf.m⟩
        obtain ⟨h1, h2⟩ := filter_lkq (q := fun y => !hasN killO y) hx
        obtain ⟨v, h3, h4⟩ := hf.t t x h1
        exact ⟨v, (hI.tm t (by simpa using h2)).trans h3, h4⟩
      have hf2 := SF.un (q := oneQ pin) hb1.inj hb1.pa (hf1.keep hst)
      have hq96 : oneQ pin 96 = false := by
        unfold oneQ
        cases hh : Nat.beq 96 pin with
        | false => rfl
        | true => exact absurd (Nat.eq_of_beq_eq_true hh).symm hne96
      refine ⟨unP (oneQ pin) p, hb1.un _, ⟨hf2.t, fun k e he => ?_⟩, hI.df.trans hd, hI.sz⟩
      by_cases hk6 : 6 = k
      · subst hk6
        rw [putA_self] at he
        injection he with he
        subst he
        have hng : Free (unP (oneQ pin) p) g := fun x hx => by
          obtain ⟨h1, h2⟩ := unP_some hx
          have := hb.inj _ _ _ h2 hgp
          subst this
          simp [oneQ] at h1
        refine ⟨g6, #[.map (some g)], T6, unP_of hq96 hg6, (hbut.block g6 (hb.bd _ _ hg6) fun e => hg6g e).trans hh6, ?_⟩
        show Fl c.A (unP (oneQ pin) p) W' [] (lkA [] 0) (.mp (grpD (xT.ev c.v).rs)) (.map TI TRC) [.map (some g)]
        show Rd W' (FFD c.A (unP (oneQ pin) p) []) (.mp (grpD (xT.ev c.v).rs)) (.map TI TRC) [.map (some g)]
        refine ⟨TI, TRC, _, _, g, es', clock', rfl, int_ty, row_ty, rfl, .inl ⟨hb.pa _ _ hgp, hng⟩, r1, r2.rdM tC rfl flC fun b hbm => .inl ⟨hb.new b ?_, fun x hx => ?_⟩⟩
        · have := (r4 b hbm).1
          have := hb.but.size
          omega
        · have := hb.bd x b (unP_some hx).2
          have := (r4 b hbm).1
          omega
      · rw [putA_ne hk6] at he
        exact hf2.m k e he
    · cases h
  · cases h
end

theorem fok_walk {ct : Ct} {tbl : Tbl} (fn : Func) (cd : Code) (hf : Try.prog.funcs[ct.f]? = some fn) (hb : fn.body = some cd) (hsz : ct.ar.length ≤ fn.ntmps)
    (hen : ∀ args w, (callFunc ct.f args).run Try.prog w = .ok (.enter ct.f args) w) {g : List D → Option (List D)} (hnp : noPan tbl = true)
    (h : ∀ ds outs, WfA ct.ars ds → g ds = some outs → ∀ (c : Cx) (w0 : World) (S0 : Nat → Prop) (p : Pins) (w : World) (a : Act) (Q : Exit → Act → World → Prop), c.lo = ct.ar.length → ds.length = dataN ct.ars → PanQ tbl w0 S0 [] Q → PanR tbl (fun o => o = outs) w0 S0 [] Q → Bs c.A w0 S0 p w → SF (c.at (tblS tbl) ds) (begS ct) p w a → a.defers = [] → a.tmps.size = fn.ntmps →
      (∀ n' r σ' l' B' p' w' a', l'.length = n' → (endT ct fn.results.toList n' r σ').go (tblS tbl) (fun o => o = outs) l' B' → Bs c.A w0 S0 p' w' → SF (c.at (tblS tbl) l') σ' p' w' a' → a'.defers = [] → a'.tmps.size = fn.ntmps → Q r.exit' a' w') →
      cd.wpIn (FR none) 0 Try.prog Q a w) : FOk ct g := by
  refine ⟨hen, fun A p w vs us ds outs hg hpre hvl hargs => calls_of_wp hf hb ?_⟩
  obtain ⟨hwf, hdl, -⟩ := hargs.wf
  rw [all_map] at hwf hdl
  obtain ⟨hb0, hsf⟩ := start_run (tbl := tbl) hsz hpre hvl hargs
  refine (wpIn_wide (n := 0)).1 ?_
  refine h ds outs hwf hg (cxA tbl ct A p vs us ds) w (pinned p) p w _ _ rfl hdl (fun e he T hT _ a w2 h3 h4 => (noPan_no hnp he hT).elim) (fun _ e he T hT a w2 h3 h4 => (noPan_no hnp he hT).elim) hb0 hsf rfl (by simp; omega) fun n' r σ' l' B' p' w' a' hl' hgo' hb' hf' hd' hz' => ?_
  have fin' : ∀ xs, fin ct fn.results.toList σ' = some xs → X.evs (evl (tblS tbl) l') xs = outs → a'.defers = [] ∧ ∃ v, (results fn a'.tmps).run Try.prog w' = .ok v w' ∧ ((∃ T, ct.pn = some T ∧ outs = [.u] ∧ Ending.returned v = .panicked (panCh T) ∧ But (pinned p) w w') ∨ ∃ rs p', Ending.returned v = .returned (retV rs) ∧ Bs A w (pinned p) p' w' ∧ ResL A p' w' ct.rs ct.ar.length rs (outs.take ct.rs.length) ∧ RefL A p p' w' ct.all (outs.drop ct.rs.length)) := by
    intro xs hfin hout
    obtain ⟨rs, p2, h1, h2, h3, h4⟩ := fin_run (c := cxA tbl ct A p vs us ds) rfl rfl (fun _ _ => rfl) hargs hb' hf' hfin
    rw [hout] at h3 h4
    exact ⟨hd', _, h1, .inr ⟨rs, p2, rfl, h2, h3, h4⟩⟩
  cases r with
  | exit i => exact hgo'.elim
  | normal =>
    simp only [endT] at hgo'
    split at hgo'
    · rename_i xs hx
      exact fin' xs hx hgo'
    · exact hgo'.elim
  | ret =>
    simp only [endT] at hgo'
    split at hgo'
    · rename_i xs hx
      exact fin' xs hx hgo'
    · exact hgo'.elim

noncomputable def bodyO : Code := match Try.f31.body with
  | some c => c
  | none => .skip
noncomputable def r0O : Code := match bodyO with | .seq x _ => x | _ => .skip
noncomputable def r1O : Code := match bodyO with | .seq _ (.seq x _) => x | _ => .skip
noncomputable def r2O : Code := match bodyO with | .seq _ (.seq _ (.seq x _)) => x | _ => .skip
noncomputable def r3O : Code := match bodyO with | .seq _ (.seq _ (.seq _ (.seq (.seq x _) _))) => x | _ => .skip
theorem bodyO_eq : Try.f31.body = some (.seq r0O (.seq r1O (.seq r2O (.seq (.seq r3O codeL) codeB)))) := by kernel_rfl
theorem codeA_eq : codeA = .seq r0O (.seq r1O (.seq r2O r3O)) := by kernel_rfl
theorem ntmpsO : Try.f31.ntmps = 110 := by kernel_rfl

theorem fok_mark {ct : Ct} {g : List D → Option (List D)} {tbl : Tbl} (ann : Ann) (htb : TblOk tbl) (hcf : Try.prog.funcs[ct.f]? = some Try.f31)
    (hen : ∀ args w, (callFunc ct.f args).run Try.prog w = .ok (.enter ct.f args) w) (hsz : ct.ar.length ≤ 110)
    (h : ∀ ds outs, WfA ct.ars ds → g ds = some outs → (treeH Try.prog tbl ann ct Try.f31 codeA codeB doOlds).go (tblS tbl) (fun o => o = outs) ds fun _ _ => False) (hnp : noPan tbl = true := by rfl) : FOk ct g := by
  refine fok_walk (tbl := tbl) Try.f31 _ hcf bodyO_eq (by rw [ntmpsO]; exact hsz) hen hnp fun ds outs hwf hg c w0 S0 p w a Q hlo hdl hQ hR hb hf hd hz hfin => ?_
  have hgo := h ds outs hwf hg
  unfold treeH at hgo
  rw [codeA_eq, ← hlo] at hgo
  simp only [toT] at hgo
  refine wpIn_seq (toT_ok none 0 htb r0O hgo hdl hb hf hd hz (fun e he T hT _ a w2 h3 h4 => (noPan_no hnp he hT).elim) (fun _ e he T hT a w2 h3 h4 => (noPan_no hnp he hT).elim) fun n1 r1 σ1 l1 B1 p1 w1 a1 hl1 _ _ hgo1 hb1 hf1 hd1 hz1 => ?_)
  cases r1 with
  | exit i => exact hfin n1 (.exit i) σ1 l1 B1 p1 w1 a1 hl1 hgo1 hb1 hf1 hd1 hz1
  | ret => exact hfin n1 .ret σ1 l1 B1 p1 w1 a1 hl1 hgo1 hb1 hf1 hd1 hz1
  | normal =>
    show Code.wpIn _ _ _ _ _ _ _
    refine wpIn_seq (toT_ok none 0 htb r1O hgo1 hl1 hb1 hf1 hd1 hz1 (fun e he T hT _ a w2 h3 h4 => (noPan_no hnp he hT).elim) (fun _ e he T hT a w2 h3 h4 => (noPan_no hnp he hT).elim) fun n2 r2 σ2 l2 B2 p2 w2 a2 hl2 _ _ hgo2 hb2 hf2 hd2 hz2 => ?_)
    cases r2 with
    | exit i => exact hfin n2 (.exit i) σ2 l2 B2 p2 w2 a2 hl2 hgo2 hb2 hf2 hd2 hz2
    | ret => exact hfin n2 .ret σ2 l2 B2 p2 w2 a2 hl2 hgo2 hb2 hf2 hd2 hz2
    | normal =>
      show Code.wpIn _ _ _ _ _ _ _
      refine wpIn_seq (toT_ok none 0 htb r2O hgo2 hl2 hb2 hf2 hd2 hz2 (fun e he T hT _ a w2 h3 h4 => (noPan_no hnp he hT).elim) (fun _ e he T hT a w2 h3 h4 => (noPan_no hnp he hT).elim) fun n3 r3 σ3 l3 B3 p3 w3 a3 hl3 _ _ hgo3 hb3 hf3 hd3 hz3 => ?_)
      cases r3 with
      | exit i => exact hfin n3 (.exit i) σ3 l3 B3 p3 w3 a3 hl3 hgo3 hb3 hf3 hd3 hz3
      | ret => exact hfin n3 .ret σ3 l3 B3 p3 w3 a3 hl3 hgo3 hb3 hf3 hd3 hz3
      | normal =>
        show Code.wpIn _ _ _ _ _ _ _
        refine wpIn_seq (wpIn_seq (toT_ok none 0 htb r3O hgo3 hl3 hb3 hf3 hd3 hz3 (fun e he T hT _ a w2 h3 h4 => (noPan_no hnp he hT).elim) (fun _ e he T hT a w2 h3 h4 => (noPan_no hnp he hT).elim) fun n4 r4 σ4 l4 B4 p4 w4 a4 hl4 _ _ hgo4 hb4 hf4 hd4 hz4 => ?_))
        cases r4 with
        | exit i => exact hfin n4 (.exit i) σ4 l4 B4 p4 w4 a4 hl4 hgo4 hb4 hf4 hd4 hz4
        | ret => exact hfin n4 .ret σ4 l4 B4 p4 w4 a4 hl4 hgo4 hb4 hf4 hd4 hz4
        | normal =>
          show Code.wpIn _ _ _ _ _ _ _
          simp only at hgo4
          split at hgo4
          · rename_i N σ5 hdo
            obtain ⟨hN, hgo5⟩ := needT_ok hgo4
            refine (wpIn_wide (n := 0)).2 ?_
            refine olds_ok (c := c.at (tblS tbl) l4) hb4 hf4 hd4 (hz4.trans ntmpsO) hdo hN fun a5 w5 hp5 => ?_
            obtain ⟨p5, hb5, hf5, hd5, hz5⟩ := hp5
            show Code.wpIn (FR none) 0 _ _ _ _ _
            refine toT_ok none 0 htb codeB hgo5 hl4 hb5 hf5 hd5 (hz5.trans ntmpsO.symm) (fun e he T hT _ a w2 h3 h4 => (noPan_no hnp he hT).elim) (fun _ e he T hT a w2 h3 h4 => (noPan_no hnp he hT).elim) fun n6 r6 σ6 l6 B6 p6 w6 a6 hl6 _ _ hgo6 hb6 hf6 hd6 hz6 => ?_
            exact hfin n6 r6 σ6 l6 B6 p6 w6 a6 hl6 hgo6 hb6 hf6 hd6 hz6
          · exact hgo4.elim
end Go.Proofs.Ytmebmpgffhajbaa


namespace Go.Proofs.Ytmebmpgffhajbaa
open Go.RowKit
set_option linter.unusedVariables false
set_option maxRecDepth 100000

abbrev T_Cells : Ty := .row 31
abbrev T_Symbols : Ty := .row 51
abbrev T_Undos : Ty := .row 37
abbrev T_Wakes : Ty := .row 63
abbrev T_Store : Ty := .st 27
abbrev T_Cell : Ty := .st 30
abbrev T_Roots : Ty := .st 34
abbrev T_Undo : Ty := .st 36
abbrev T_Symbol : Ty := .st 50
abbrev T_Wake : Ty := .st 62
abbrev T_Terms : Ty := .row 81
abbrev T_Term : Ty := .st 80
def q1h : Ct := ⟨14, [.val (.st 27), .val (.st 34)], [(.bool, false)], [], none⟩
theorem enter_law34_small (args : Array Value) (w : World) : (callFunc q1h.f args).run Try.prog w = .ok (.enter q1h.f args) w := by kernel_rfl
def ann_law34_small : Ann := ⟨[0, 1, 2, 3, 4], []⟩
def q2u : Tree := (.leaf [(.and (.and (.and (.and (.and (.and (.le (.len (.fld (.tok 0) 0)) (.lit (.i 300))) (.le (.len (.fld (.tok 0) 1)) (.lit (.i 100)))) (.le (.len (.fld (.tok 0) 2)) (.lit (.i 300)))) (.le (.len (.fld (.tok 0) 3)) (.lit (.i 50)))) (.le (.len (.fld (.tok 1) 0)) (.lit (.i 50)))) (.le (.len (.fld (.tok 1) 1)) (.lit (.i 50)))) (.le (.len (.fld (.tok 1) 2)) (.lit (.i 50))))])
set_option maxRecDepth 100000 in
theorem code_law34_small : ∀ cd, Try.f14.body = some cd → treeOf Try.prog [] ann_law34_small q1h Try.f14 cd = q2u := by
  intro cd h
  injection h with h
  subst h
  kernel_rfl
theorem fok_law34_small {g : List D → Option (List D)}  (h : ∀ ds outs, WfA q1h.ars ds → g ds = some outs → q2u.go (tblS []) (fun o => o = outs) ds fun _ _ => False) : FOk q1h g :=
  q0a ann_law34_small Try.f14 _ .nil rfl rfl enter_law34_small (by decide) fun ds outs hw hg => by rw [code_law34_small  _ rfl]; exact h ds outs hw hg

def q0z : Ct := ⟨11, [.val (.int .i64), .val (.int .i64)], [(.st 30, false)], [], none⟩
theorem enter_law34_cell (args : Array Value) (w : World) : (callFunc q0z.f args).run Try.prog w = .ok (.enter q0z.f args) w := by kernel_rfl
def ann_law34_cell : Ann := ⟨[0, 1, 4], []⟩
def q3e : Tree := (.leaf [(.mk [(.tok 0), (.tok 1)])])
set_option maxRecDepth 100000 in
theorem code_law34_cell : ∀ cd, Try.f11.body = some cd → treeOf Try.prog [] ann_law34_cell q0z Try.f11 cd = q3e := by
  intro cd h
  injection h with h
  subst h
  kernel_rfl
theorem fok_law34_cell {g : List D → Option (List D)}  (h : ∀ ds outs, WfA q0z.ars ds → g ds = some outs → q3e.go (tblS []) (fun o => o = outs) ds fun _ _ => False) : FOk q0z g :=
  q0a ann_law34_cell Try.f11 _ .nil rfl rfl enter_law34_cell (by decide) fun ds outs hw hg => by rw [code_law34_cell  _ rfl]; exact h ds outs hw hg

def q1p : Ct := ⟨10, [], [(.st 27, true)], [], none⟩
theorem enter_law34_six (args : Array Value) (w : World) : (callFunc q1p.f args).run Try.prog w = .ok (.enter q1p.f args) w := by kernel_rfl
def ann_law34_six : Ann := ⟨[0], []⟩
def q3j : Tree := (.need [(.ok 0 [(.lit (.i 1)), (.lit (.i 9))]), (.ok 0 [(.lit (.i 4)), (.lit (.i 0))]), (.ok 0 [(.lit (.i 1)), (.lit (.i 7))]), (.ok 0 [(.lit (.i 0)), (.lit (.i 4))]), (.ok 0 [(.lit (.i 0)), (.lit (.i 4))]), (.ok 0 [(.lit (.i 0)), (.lit (.i 5))])] (.leaf [(.set (.set (.set (.lit (.a [(.r []), (.r []), (.r []), (.r []), (.i 0), (.i 0)])) 0 (.row [(.call 0 0 [(.lit (.i 1)), (.lit (.i 9))]), (.call 0 0 [(.lit (.i 4)), (.lit (.i 0))]), (.call 0 0 [(.lit (.i 1)), (.lit (.i 7))]), (.call 0 0 [(.lit (.i 0)), (.lit (.i 4))]), (.call 0 0 [(.lit (.i 0)), (.lit (.i 4))]), (.call 0 0 [(.lit (.i 0)), (.lit (.i 5))])])) 1 (.row [(.mk [(.lit (.s ⟨#[102]⟩)), (.lit (.i 2))])])) 5 (.lit (.i 10)))]))
set_option maxRecDepth 100000 in
theorem code_law34_six (g0 : List D → Option (List D)) : ∀ cd, Try.f10.body = some cd → treeOf Try.prog [(q0z, g0)] ann_law34_six q1p Try.f10 cd = q3j := by
  intro cd h
  injection h with h
  subst h
  kernel_rfl
theorem fok_law34_six {g0 : List D → Option (List D)} {g : List D → Option (List D)} (h0 : FOk q0z g0) (h : ∀ ds outs, WfA q1p.ars ds → g ds = some outs → q3j.go (tblS [(q0z, g0)]) (fun o => o = outs) ds fun _ _ => False) : FOk q1p g :=
  q0a ann_law34_six Try.f10 _ (.cons h0 .nil) rfl rfl enter_law34_six (by decide) fun ds outs hw hg => by rw [code_law34_six g0 _ rfl]; exact h ds outs hw hg

def q0e : Ct := ⟨43, [.val (.row 51)], [(.bool, false)], [], none⟩
theorem q3u (args : Array Value) (w : World) : (callFunc q0e.f args).run Try.prog w = .ok (.enter q0e.f args) w := by kernel_rfl
def q2m : Ann := ⟨[0, 2, 3, 5, 8, 12, 13, 14, 15, 36], [(5, ⟨[(2, .bool, false), (14, .int .i64, false), (3, .map 51 4, false)], [], [15, 16, 17, 5, 18, 19, 20, 21, 22, 23, 24, 25, 26, 27, 28, 29, 30, 31, 32, 33, 34, 35, 36, 37, 38, 39, 11], []⟩)]⟩
def q1s : Tree := (.br (.lt (.lit (.i 1048576)) (.len (.tok 0))) (.leaf [(.lit (.b .false))]) (.loop 5 1 [(.lit (.b .false)), (.lit (.i 0)), (.lit (.mp []))] (.br (.lt (.tok 2) (.len (.tok 0))) (.need [(.le (.lit (.i 0)) (.tok 2)), (.lt (.tok 2) (.len (.tok 0)))] (.br (.or (.or (.or (.lt (.lit (.i 100)) (.slen (.fld (.get (.tok 0) (.tok 2)) 0))) (.lt (.fld (.get (.tok 0) (.tok 2)) 1) (.lit (.i 0)))) (.lt (.lit (.i 8)) (.fld (.get (.tok 0) (.tok 2)) 1))) (.fn 0 [(.tok 3), (.get (.tok 0) (.tok 2)), (.lit (.b .false))])) (.leaf [(.lit (.b .false))]) (.need [(.rng .i64 (.add (.tok 2) (.lit (.i 1))))] (.back 5 [(.tok 1), (.add (.tok 2) (.lit (.i 1))), (.fn 2 [(.tok 3), (.get (.tok 0) (.tok 2)), (.lit (.b .true))])])))) (.leaf [(.lit (.b .true))]))))
set_option maxRecDepth 100000 in
theorem code_cells_validSymbols : ∀ cd, Try.f43.body = some cd → treeOf Try.prog [] q2m q0e Try.f43 cd = q1s := by
  intro cd h
  injection h with h
  subst h
  kernel_rfl
theorem q2o {g : List D → Option (List D)}  (h : ∀ ds outs, WfA q0e.ars ds → g ds = some outs → q1s.go (tblS []) (fun o => o = outs) ds fun _ _ => False) : FOk q0e g :=
  q0a q2m Try.f43 _ .nil rfl rfl q3u (by decide) fun ds outs hw hg => by rw [code_cells_validSymbols  _ rfl]; exact h ds outs hw hg

def q0f : Ct := ⟨56, [.val (.st 27), .val (.int .i64)], [(.int .i64, false)], [], none⟩
theorem enter_cells_arity (args : Array Value) (w : World) : (callFunc q0f.f args).run Try.prog w = .ok (.enter q0f.f args) w := by kernel_rfl
def ann_cells_arity : Ann := ⟨[0, 1, 2, 4, 13], []⟩
def q24 : Tree := (.br (.or (.lt (.tok 1) (.lit (.i 0))) (.le (.len (.fld (.tok 0) 1)) (.tok 1))) (.leaf [(.lit (.i (-1)))]) (.need [(.le (.lit (.i 0)) (.tok 1)), (.lt (.tok 1) (.len (.fld (.tok 0) 1)))] (.leaf [(.fld (.get (.fld (.tok 0) 1) (.tok 1)) 1)])))
set_option maxRecDepth 100000 in
theorem code_cells_arity : ∀ cd, Try.f56.body = some cd → treeOf Try.prog [] ann_cells_arity q0f Try.f56 cd = q24 := by
  intro cd h
  injection h with h
  subst h
  kernel_rfl
theorem fok_cells_arity {g : List D → Option (List D)}  (h : ∀ ds outs, WfA q0f.ars ds → g ds = some outs → q24.go (tblS []) (fun o => o = outs) ds fun _ _ => False) : FOk q0f g :=
  q0a ann_cells_arity Try.f56 _ .nil rfl rfl enter_cells_arity (by decide) fun ds outs hw hg => by rw [code_cells_arity  _ rfl]; exact h ds outs hw hg

def q09 : Ct := ⟨57, [.val (.st 27), .val (.int .i64)], [(.int .i64, false)], [], none⟩
theorem enter_cells_tag (args : Array Value) (w : World) : (callFunc q09.f args).run Try.prog w = .ok (.enter q09.f args) w := by kernel_rfl
def ann_cells_tag : Ann := ⟨[0, 1, 2, 4, 13], []⟩
def q2f : Tree := (.br (.or (.lt (.tok 1) (.lit (.i 0))) (.le (.len (.fld (.tok 0) 0)) (.tok 1))) (.leaf [(.lit (.i (-1)))]) (.need [(.le (.lit (.i 0)) (.tok 1)), (.lt (.tok 1) (.len (.fld (.tok 0) 0)))] (.leaf [(.fld (.get (.fld (.tok 0) 0) (.tok 1)) 0)])))
set_option maxRecDepth 100000 in
theorem code_cells_tag : ∀ cd, Try.f57.body = some cd → treeOf Try.prog [] ann_cells_tag q09 Try.f57 cd = q2f := by
  intro cd h
  injection h with h
  subst h
  kernel_rfl
theorem fok_cells_tag {g : List D → Option (List D)}  (h : ∀ ds outs, WfA q09.ars ds → g ds = some outs → q2f.go (tblS []) (fun o => o = outs) ds fun _ _ => False) : FOk q09 g :=
  q0a ann_cells_tag Try.f57 _ .nil rfl rfl enter_cells_tag (by decide) fun ds outs hw hg => by rw [code_cells_tag  _ rfl]; exact h ds outs hw hg

def q0k : Ct := ⟨66, [.val (.st 27), .val (.int .i64)], [(.bool, false)], [], none⟩
theorem enter_cells_group (args : Array Value) (w : World) : (callFunc q0k.f args).run Try.prog w = .ok (.enter q0k.f args) w := by kernel_rfl
def ann_cells_group : Ann := ⟨[0, 1, 2, 4, 5, 6, 11], []⟩
def q26 : Tree := (.need [(.rng .i64 (.add (.tok 1) (.lit (.i 1)))), (.ok 0 [(.tok 0), (.add (.tok 1) (.lit (.i 1)))])] (.br (.not (.eq (.call 0 0 [(.tok 0), (.add (.tok 1) (.lit (.i 1)))]) (.lit (.i 1)))) (.leaf [(.lit (.b .false))]) (.need [(.ok 0 [(.tok 0), (.add (.tok 1) (.lit (.i 2)))]), (.rng .i64 (.add (.tok 1) (.lit (.i 2)))), (.le (.lit (.i 0)) (.add (.tok 1) (.lit (.i 1)))), (.lt (.add (.tok 1) (.lit (.i 1))) (.len (.fld (.tok 0) 0))), (.rng .i64 (.add (.tok 1) (.lit (.i 1))))] (.leaf [(.and (.and (.and (.and (.le (.lit (.i 1)) (.fld (.get (.fld (.tok 0) 0) (.add (.tok 1) (.lit (.i 1)))) 1)) (.le (.fld (.get (.fld (.tok 0) 0) (.add (.tok 1) (.lit (.i 1)))) 1) (.fld (.tok 0) 4))) (.le (.lit (.i 0)) (.call 0 0 [(.tok 0), (.add (.tok 1) (.lit (.i 2)))]))) (.not (.eq (.call 0 0 [(.tok 0), (.add (.tok 1) (.lit (.i 2)))]) (.lit (.i 4))))) (.not (.eq (.call 0 0 [(.tok 0), (.add (.tok 1) (.lit (.i 2)))]) (.lit (.i 5)))))]))))
set_option maxRecDepth 100000 in
theorem code_cells_group (g0 : List D → Option (List D)) : ∀ cd, Try.f66.body = some cd → treeOf Try.prog [(q09, g0)] ann_cells_group q0k Try.f66 cd = q26 := by
  intro cd h
  injection h with h
  subst h
  kernel_rfl
theorem fok_cells_group {g0 : List D → Option (List D)} {g : List D → Option (List D)} (h0 : FOk q09 g0) (h : ∀ ds outs, WfA q0k.ars ds → g ds = some outs → q26.go (tblS [(q09, g0)]) (fun o => o = outs) ds fun _ _ => False) : FOk q0k g :=
  q0a ann_cells_group Try.f66 _ (.cons h0 .nil) rfl rfl enter_cells_group (by decide) fun ds outs hw hg => by rw [code_cells_group g0 _ rfl]; exact h ds outs hw hg

def q05 : Ct := ⟨30, [.val (.st 27), .val (.st 30)], [(.bool, false)], [], none⟩
theorem enter_cells_ValidCell (args : Array Value) (w : World) : (callFunc q05.f args).run Try.prog w = .ok (.enter q05.f args) w := by kernel_rfl
def q3i : Ann := ⟨[0, 1, 2, 3, 4, 5, 7, 8, 10, 17, 29, 36], []⟩
def q1y : Tree := (.br (.eq (.fld (.tok 1) 0) (.lit (.i 1))) (.leaf [(.lit (.b .true))]) (.br (.eq (.fld (.tok 1) 0) (.lit (.i 2))) (.need [(.ok 0 [(.tok 0), (.fld (.tok 1) 1)])] (.leaf [(.eq (.call 0 0 [(.tok 0), (.fld (.tok 1) 1)]) (.lit (.i 0)))])) (.br (.eq (.fld (.tok 1) 0) (.lit (.i 0))) (.need [(.ok 1 [(.tok 0), (.fld (.tok 1) 1)])] (.leaf [(.and (.le (.lit (.i 0)) (.call 1 0 [(.tok 0), (.fld (.tok 1) 1)])) (.not (.eq (.call 1 0 [(.tok 0), (.fld (.tok 1) 1)]) (.lit (.i 4)))))])) (.br (.eq (.fld (.tok 1) 0) (.lit (.i 3))) (.need [(.ok 1 [(.tok 0), (.fld (.tok 1) 1)])] (.leaf [(.eq (.call 1 0 [(.tok 0), (.fld (.tok 1) 1)]) (.lit (.i 4)))])) (.br (.eq (.fld (.tok 1) 0) (.lit (.i 5))) (.need [(.ok 1 [(.tok 0), (.fld (.tok 1) 1)])] (.leaf [(.eq (.call 1 0 [(.tok 0), (.fld (.tok 1) 1)]) (.lit (.i 5)))])) (.leaf [(.lit (.b .false))]))))))
set_option maxRecDepth 100000 in
theorem code_cells_ValidCell (g0 g1 : List D → Option (List D)) : ∀ cd, Try.f30.body = some cd → treeOf Try.prog [(q0f, g0), (q09, g1)] q3i q05 Try.f30 cd = q1y := by
  intro cd h
  injection h with h
  subst h
  kernel_rfl
theorem q3f {g0 g1 : List D → Option (List D)} {g : List D → Option (List D)} (h0 : FOk q0f g0) (h1 : FOk q09 g1) (h : ∀ ds outs, WfA q05.ars ds → g ds = some outs → q1y.go (tblS [(q0f, g0), (q09, g1)]) (fun o => o = outs) ds fun _ _ => False) : FOk q05 g :=
  q0a q3i Try.f30 _ (.cons h0 (.cons h1 .nil)) rfl rfl enter_cells_ValidCell (by decide) fun ds outs hw hg => by rw [code_cells_ValidCell g0 g1 _ rfl]; exact h ds outs hw hg

def q12 : Ct := ⟨44, [.val (.st 27), .val (.int .i64)], [(.bool, false)], [], none⟩
theorem enter_cells_fits (args : Array Value) (w : World) : (callFunc q12.f args).run Try.prog w = .ok (.enter q12.f args) w := by kernel_rfl
def ann_cells_fits : Ann := ⟨[0, 1, 2, 4, 5, 6, 7, 8, 15, 16, 23, 30, 41, 42], [(8, ⟨[(4, .bool, false), (7, .int .i64, false)], [], [26, 27, 28, 29, 30, 33, 34, 35, 8, 36, 37, 38, 39, 40, 41, 31, 32], []⟩)]⟩
def q2b : Tree := (.need [(.le (.lit (.i 0)) (.tok 1)), (.lt (.tok 1) (.len (.fld (.tok 0) 0)))] (.br (.eq (.fld (.get (.fld (.tok 0) 0) (.tok 1)) 0) (.lit (.i 4))) (.need [(.ok 0 [(.tok 0), (.fld (.get (.fld (.tok 0) 0) (.tok 1)) 1)])] (.br (.lt (.call 0 0 [(.tok 0), (.fld (.get (.fld (.tok 0) 0) (.tok 1)) 1)]) (.lit (.i 1))) (.leaf [(.lit (.b .false))]) (.need [(.rng .i64 (.add (.tok 1) (.lit (.i 1))))] (.loop 8 2 [(.lit (.b .false)), (.add (.tok 1) (.lit (.i 1)))] (.need [(.rng .i64 (.add (.tok 1) (.call 0 0 [(.tok 0), (.fld (.get (.fld (.tok 0) 0) (.tok 1)) 1)])))] (.br (.le (.tok 3) (.add (.tok 1) (.call 0 0 [(.tok 0), (.fld (.get (.fld (.tok 0) 0) (.tok 1)) 1)]))) (.need [(.ok 1 [(.tok 0), (.tok 3)])] (.br (.or (.lt (.call 1 0 [(.tok 0), (.tok 3)]) (.lit (.i 0))) (.eq (.call 1 0 [(.tok 0), (.tok 3)]) (.lit (.i 4)))) (.leaf [(.lit (.b .false))]) (.need [(.rng .i64 (.add (.tok 3) (.lit (.i 1))))] (.back 8 [(.tok 2), (.add (.tok 3) (.lit (.i 1)))])))) (.leaf [(.lit (.b .true))]))))))) (.br (.eq (.fld (.get (.fld (.tok 0) 0) (.tok 1)) 0) (.lit (.i 5))) (.need [(.imp (.eq (.fld (.get (.fld (.tok 0) 0) (.tok 1)) 1) (.tok 1)) (.ok 2 [(.tok 0), (.tok 1)]))] (.leaf [(.and (.eq (.fld (.get (.fld (.tok 0) 0) (.tok 1)) 1) (.tok 1)) (.call 2 0 [(.tok 0), (.tok 1)]))])) (.need [(.ok 3 [(.tok 0), (.get (.fld (.tok 0) 0) (.tok 1))])] (.leaf [(.call 3 0 [(.tok 0), (.get (.fld (.tok 0) 0) (.tok 1))])])))))
set_option maxRecDepth 100000 in
theorem code_cells_fits (g0 g1 g2 g3 : List D → Option (List D)) : ∀ cd, Try.f44.body = some cd → treeOf Try.prog [(q0f, g0), (q09, g1), (q0k, g2), (q05, g3)] ann_cells_fits q12 Try.f44 cd = q2b := by
  intro cd h
  injection h with h
  subst h
  kernel_rfl
theorem fok_cells_fits {g0 g1 g2 g3 : List D → Option (List D)} {g : List D → Option (List D)} (h0 : FOk q0f g0) (h1 : FOk q09 g1) (h2 : FOk q0k g2) (h3 : FOk q05 g3) (h : ∀ ds outs, WfA q12.ars ds → g ds = some outs → q2b.go (tblS [(q0f, g0), (q09, g1), (q0k, g2), (q05, g3)]) (fun o => o = outs) ds fun _ _ => False) : FOk q12 g :=
  q0a ann_cells_fits Try.f44 _ (.cons h0 (.cons h1 (.cons h2 (.cons h3 .nil)))) rfl rfl enter_cells_fits (by decide) fun ds outs hw hg => by rw [code_cells_fits g0 g1 g2 g3 _ rfl]; exact h ds outs hw hg

def q0o : Ct := ⟨45, [.val (.st 27)], [(.bool, false)], [], none⟩
theorem enter_cells_acyclic (args : Array Value) (w : World) : (callFunc q0o.f args).run Try.prog w = .ok (.enter q0o.f args) w := by kernel_rfl
def ann_cells_acyclic : Ann := ⟨[0, 1, 2, 3, 4, 5, 6, 7, 9, 16, 17, 18, 25, 46, 53, 54, 55, 56, 57], [(3, ⟨[(2, .bool, false), (17, .int .i64, false), (3, .row 3, false)], [], [18, 19, 4, 5, 20, 6, 21, 22, 23, 24, 25, 26, 27, 28, 29, 30, 31, 32, 33, 34, 35, 36, 37, 7, 38, 39, 40, 41, 42, 43, 44, 45, 46, 47, 48, 49, 50, 51, 52, 53, 54, 55, 56, 57, 58, 59, 9, 60, 61, 62, 63, 64, 13], []⟩),
  (7, ⟨[(5, .row 3, false), (6, .int .i64, false), (2, .bool, false), (3, .row 3, false)], [], [21, 22, 23, 24, 25, 26, 27, 28, 29, 30, 31, 32, 33, 34, 35, 36, 37, 7, 38, 39, 40, 41, 42, 43, 44, 45, 46, 47, 48, 49, 50, 51, 52, 53, 13, 60], []⟩),
  (16, ⟨[(56, .int .i64, false), (3, .row 3, false)], [], [57, 58, 59, 9, 60, 61, 62, 63, 13, 21, 26, 49], []⟩)]⟩
def q20 : Tree := (.need [(.le (.lit (.i 0)) (.len (.fld (.tok 0) 0))), (.le (.len (.fld (.tok 0) 0)) (.lit (.i 16777216)))] (.loop 3 1 [(.lit (.b .false)), (.lit (.i 0)), (.rep (.len (.fld (.tok 0) 0)) (.lit (.i 0)))] (.br (.lt (.tok 2) (.len (.fld (.tok 0) 0))) (.loop 7 4 [(.lit (.r [])), (.tok 2), (.tok 1), (.tok 3)] (.need [(.le (.lit (.i 0)) (.tok 5)), (.lt (.tok 5) (.len (.tok 7)))] (.br (.eq (.get (.tok 7) (.tok 5)) (.lit (.i 0))) (.need [(.le (.lit (.i 0)) (.tok 5)), (.lt (.tok 5) (.len (.tok 7)))] (.need [(.le (.add (.len (.tok 4)) (.lit (.i 1))) (.lit (.i 17592186043904)))] (.need [(.le (.lit (.i 0)) (.tok 5)), (.lt (.tok 5) (.len (.fld (.tok 0) 0)))] (.br (.or (.not (.eq (.fld (.get (.fld (.tok 0) 0) (.tok 5)) 0) (.lit (.i 0)))) (.eq (.fld (.get (.fld (.tok 0) 0) (.tok 5)) 1) (.tok 5))) (.loop 16 8 [(.lit (.i 0)), (.put (.tok 7) (.tok 5) (.lit (.i 1)))] (.br (.lt (.tok 8) (.len (.app (.tok 4) (.row [(.tok 5)])))) (.need [(.le (.lit (.i 0)) (.tok 8)), (.lt (.tok 8) (.len (.app (.tok 4) (.row [(.tok 5)]))))] (.need [(.le (.lit (.i 0)) (.get (.app (.tok 4) (.row [(.tok 5)])) (.tok 8))), (.lt (.get (.app (.tok 4) (.row [(.tok 5)])) (.tok 8)) (.len (.tok 9)))] (.need [(.rng .i64 (.add (.tok 8) (.lit (.i 1))))] (.back 16 [(.add (.tok 8) (.lit (.i 1))), (.put (.tok 9) (.get (.app (.tok 4) (.row [(.tok 5)])) (.tok 8)) (.lit (.i 2)))])))) (.need [(.rng .i64 (.add (.tok 2) (.lit (.i 1))))] (.back 3 [(.tok 6), (.add (.tok 2) (.lit (.i 1))), (.tok 9)])))) (.need [(.le (.lit (.i 0)) (.fld (.get (.fld (.tok 0) 0) (.tok 5)) 1)), (.lt (.fld (.get (.fld (.tok 0) 0) (.tok 5)) 1) (.len (.put (.tok 7) (.tok 5) (.lit (.i 1)))))] (.br (.eq (.get (.put (.tok 7) (.tok 5) (.lit (.i 1))) (.fld (.get (.fld (.tok 0) 0) (.tok 5)) 1)) (.lit (.i 1))) (.leaf [(.lit (.b .false))]) (.back 7 [(.app (.tok 4) (.row [(.tok 5)])), (.fld (.get (.fld (.tok 0) 0) (.tok 5)) 1), (.tok 6), (.put (.tok 7) (.tok 5) (.lit (.i 1)))]))))))) (.loop 16 8 [(.lit (.i 0)), (.tok 7)] (.br (.lt (.tok 8) (.len (.tok 4))) (.need [(.le (.lit (.i 0)) (.tok 8)), (.lt (.tok 8) (.len (.tok 4)))] (.need [(.le (.lit (.i 0)) (.get (.tok 4) (.tok 8))), (.lt (.get (.tok 4) (.tok 8)) (.len (.tok 9)))] (.need [(.rng .i64 (.add (.tok 8) (.lit (.i 1))))] (.back 16 [(.add (.tok 8) (.lit (.i 1))), (.put (.tok 9) (.get (.tok 4) (.tok 8)) (.lit (.i 2)))])))) (.need [(.rng .i64 (.add (.tok 2) (.lit (.i 1))))] (.back 3 [(.tok 6), (.add (.tok 2) (.lit (.i 1))), (.tok 9)]))))))) (.leaf [(.lit (.b .true))]))))
set_option maxRecDepth 100000 in
theorem code_cells_acyclic : ∀ cd, Try.f45.body = some cd → treeOf Try.prog [] ann_cells_acyclic q0o Try.f45 cd = q20 := by
  intro cd h
  injection h with h
  subst h
  kernel_rfl
theorem fok_cells_acyclic {g : List D → Option (List D)}  (h : ∀ ds outs, WfA q0o.ars ds → g ds = some outs → q20.go (tblS []) (fun o => o = outs) ds fun _ _ => False) : FOk q0o g :=
  q0a ann_cells_acyclic Try.f45 _ .nil rfl rfl enter_cells_acyclic (by decide) fun ds outs hw hg => by rw [code_cells_acyclic  _ rfl]; exact h ds outs hw hg

def q0i : Ct := ⟨46, [.val (.st 27), .val (.st 36)], [(.bool, false)], [], none⟩
theorem enter_cells_validUndo (args : Array Value) (w : World) : (callFunc q0i.f args).run Try.prog w = .ok (.enter q0i.f args) w := by kernel_rfl
def q3g : Ann := ⟨[0, 1, 2, 3, 4, 5, 11, 14, 15, 22, 41], []⟩
def q1z : Tree := (.need [(.ok 0 [(.tok 0), (.fld (.tok 1) 0)])] (.br (.lt (.call 0 0 [(.tok 0), (.fld (.tok 1) 0)]) (.lit (.i 0))) (.leaf [(.lit (.b .false))]) (.br (.eq (.fld (.fld (.tok 1) 1) 0) (.lit (.i 0))) (.leaf [(.eq (.fld (.fld (.tok 1) 1) 1) (.fld (.tok 1) 0))]) (.br (.eq (.fld (.fld (.tok 1) 1) 0) (.lit (.i 5))) (.need [(.imp (.eq (.fld (.fld (.tok 1) 1) 1) (.fld (.tok 1) 0)) (.ok 1 [(.tok 0), (.fld (.tok 1) 0)])), (.imp (.and (.eq (.fld (.fld (.tok 1) 1) 1) (.fld (.tok 1) 0)) (.call 1 0 [(.tok 0), (.fld (.tok 1) 0)])) (.rng .i64 (.sub (.fld (.tok 1) 0) (.lit (.i 1))))), (.imp (.and (.eq (.fld (.fld (.tok 1) 1) 1) (.fld (.tok 1) 0)) (.call 1 0 [(.tok 0), (.fld (.tok 1) 0)])) (.ok 0 [(.tok 0), (.sub (.fld (.tok 1) 0) (.lit (.i 1)))]))] (.leaf [(.and (.and (.eq (.fld (.fld (.tok 1) 1) 1) (.fld (.tok 1) 0)) (.call 1 0 [(.tok 0), (.fld (.tok 1) 0)])) (.not (.eq (.call 0 0 [(.tok 0), (.sub (.fld (.tok 1) 0) (.lit (.i 1)))]) (.lit (.i 5)))))])) (.br (.eq (.fld (.fld (.tok 1) 1) 0) (.lit (.i 1))) (.br (.eq (.fld (.fld (.tok 1) 1) 0) (.lit (.i 1))) (.need [(.ok 2 [(.tok 0), (.fld (.tok 1) 1)])] (.leaf [(.call 2 0 [(.tok 0), (.fld (.tok 1) 1)])])) (.leaf [(.lit (.b .false))])) (.br (.eq (.fld (.fld (.tok 1) 1) 0) (.lit (.i 2))) (.br (.eq (.fld (.fld (.tok 1) 1) 0) (.lit (.i 2))) (.need [(.ok 2 [(.tok 0), (.fld (.tok 1) 1)])] (.leaf [(.call 2 0 [(.tok 0), (.fld (.tok 1) 1)])])) (.leaf [(.lit (.b .false))])) (.br (.eq (.fld (.fld (.tok 1) 1) 0) (.lit (.i 3))) (.need [(.ok 2 [(.tok 0), (.fld (.tok 1) 1)])] (.leaf [(.call 2 0 [(.tok 0), (.fld (.tok 1) 1)])])) (.leaf [(.lit (.b .false))]))))))))
set_option maxRecDepth 100000 in
theorem code_cells_validUndo (g0 g1 g2 : List D → Option (List D)) : ∀ cd, Try.f46.body = some cd → treeOf Try.prog [(q09, g0), (q0k, g1), (q05, g2)] q3g q0i Try.f46 cd = q1z := by
  intro cd h
  injection h with h
  subst h
  kernel_rfl
theorem q3h {g0 g1 g2 : List D → Option (List D)} {g : List D → Option (List D)} (h0 : FOk q09 g0) (h1 : FOk q0k g1) (h2 : FOk q05 g2) (h : ∀ ds outs, WfA q0i.ars ds → g ds = some outs → q1z.go (tblS [(q09, g0), (q0k, g1), (q05, g2)]) (fun o => o = outs) ds fun _ _ => False) : FOk q0i g :=
  q0a q3g Try.f46 _ (.cons h0 (.cons h1 (.cons h2 .nil))) rfl rfl enter_cells_validUndo (by decide) fun ds outs hw hg => by rw [code_cells_validUndo g0 g1 g2 _ rfl]; exact h ds outs hw hg

def q15 : Ct := ⟨26, [.val (.st 27)], [(.bool, false)], [], none⟩
theorem enter_cells_Valid (args : Array Value) (w : World) : (callFunc q15.f args).run Try.prog w = .ok (.enter q15.f args) w := by kernel_rfl
def ann_cells_Valid : Ann := ⟨[0, 1, 2, 3, 5, 7, 34, 37, 38, 39, 44, 48, 50, 51, 52, 53, 59, 62, 63, 64, 65, 91], [(4, ⟨[(2, .bool, false), (38, .int .i64, false)], [], [39, 40, 3, 41, 42, 43, 44, 45], []⟩),
  (12, ⟨[(2, .bool, false), (52, .int .i64, false)], [], [53, 54, 55, 5, 56, 57, 58, 59, 60], []⟩),
  (18, ⟨[(2, .bool, false), (64, .int .i64, false)], [], [65, 66, 67, 7, 68, 69, 70, 71, 72, 73, 74, 75, 76, 77, 78, 79, 80, 81, 82, 83, 84, 85, 86, 87, 88, 89, 90, 91, 92], []⟩)]⟩
def q25 : Tree := (.need [(.imp (.not (.or (.or (.or (.lt (.fld (.tok 0) 5) (.lit (.i 1))) (.lt (.lit (.i 1048576)) (.fld (.tok 0) 5))) (.lt (.fld (.tok 0) 5) (.len (.fld (.tok 0) 0)))) (.lt (.fld (.tok 0) 4) (.lit (.i 0))))) (.ok 0 [(.fld (.tok 0) 1)]))] (.br (.or (.or (.or (.or (.lt (.fld (.tok 0) 5) (.lit (.i 1))) (.lt (.lit (.i 1048576)) (.fld (.tok 0) 5))) (.lt (.fld (.tok 0) 5) (.len (.fld (.tok 0) 0)))) (.lt (.fld (.tok 0) 4) (.lit (.i 0)))) (.not (.call 0 0 [(.fld (.tok 0) 1)]))) (.leaf [(.lit (.b .false))]) (.loop 4 1 [(.lit (.b .false)), (.lit (.i 0))] (.br (.lt (.tok 2) (.len (.fld (.tok 0) 0))) (.need [(.ok 1 [(.tok 0), (.tok 2)])] (.br (.not (.call 1 0 [(.tok 0), (.tok 2)])) (.leaf [(.lit (.b .false))]) (.need [(.rng .i64 (.add (.tok 2) (.lit (.i 1))))] (.back 4 [(.tok 1), (.add (.tok 2) (.lit (.i 1)))])))) (.need [(.ok 2 [(.tok 0)])] (.br (.not (.call 2 0 [(.tok 0)])) (.leaf [(.lit (.b .false))]) (.loop 12 3 [(.tok 1), (.lit (.i 0))] (.br (.lt (.tok 4) (.len (.fld (.tok 0) 2))) (.need [(.le (.lit (.i 0)) (.tok 4)), (.lt (.tok 4) (.len (.fld (.tok 0) 2)))] (.need [(.ok 3 [(.tok 0), (.get (.fld (.tok 0) 2) (.tok 4))])] (.br (.not (.call 3 0 [(.tok 0), (.get (.fld (.tok 0) 2) (.tok 4))])) (.leaf [(.lit (.b .false))]) (.need [(.rng .i64 (.add (.tok 4) (.lit (.i 1))))] (.back 12 [(.tok 3), (.add (.tok 4) (.lit (.i 1)))]))))) (.loop 18 5 [(.tok 3), (.lit (.i 0))] (.br (.lt (.tok 6) (.len (.fld (.tok 0) 3))) (.need [(.le (.lit (.i 0)) (.tok 6)), (.lt (.tok 6) (.len (.fld (.tok 0) 3)))] (.need [(.imp (.not (.or (.lt (.fld (.get (.fld (.tok 0) 3) (.tok 6)) 0) (.lit (.i 1))) (.lt (.fld (.tok 0) 4) (.fld (.get (.fld (.tok 0) 3) (.tok 6)) 0)))) (.ok 4 [(.tok 0), (.fld (.get (.fld (.tok 0) 3) (.tok 6)) 1)])), (.imp (.not (.or (.or (.lt (.fld (.get (.fld (.tok 0) 3) (.tok 6)) 0) (.lit (.i 1))) (.lt (.fld (.tok 0) 4) (.fld (.get (.fld (.tok 0) 3) (.tok 6)) 0))) (.not (.call 4 0 [(.tok 0), (.fld (.get (.fld (.tok 0) 3) (.tok 6)) 1)])))) (.ok 4 [(.tok 0), (.fld (.get (.fld (.tok 0) 3) (.tok 6)) 2)]))] (.br (.or (.or (.or (.lt (.fld (.get (.fld (.tok 0) 3) (.tok 6)) 0) (.lit (.i 1))) (.lt (.fld (.tok 0) 4) (.fld (.get (.fld (.tok 0) 3) (.tok 6)) 0))) (.not (.call 4 0 [(.tok 0), (.fld (.get (.fld (.tok 0) 3) (.tok 6)) 1)]))) (.not (.call 4 0 [(.tok 0), (.fld (.get (.fld (.tok 0) 3) (.tok 6)) 2)]))) (.leaf [(.lit (.b .false))]) (.need [(.rng .i64 (.add (.tok 6) (.lit (.i 1))))] (.back 18 [(.tok 5), (.add (.tok 6) (.lit (.i 1)))]))))) (.leaf [(.lit (.b .true))])))))))))))
set_option maxRecDepth 100000 in
theorem code_cells_Valid (g0 g1 g2 g3 g4 : List D → Option (List D)) : ∀ cd, Try.f26.body = some cd → treeOf Try.prog [(q0e, g0), (q12, g1), (q0o, g2), (q0i, g3), (q05, g4)] ann_cells_Valid q15 Try.f26 cd = q25 := by
  intro cd h
  injection h with h
  subst h
  kernel_rfl
theorem fok_cells_Valid {g0 g1 g2 g3 g4 : List D → Option (List D)} {g : List D → Option (List D)} (h0 : FOk q0e g0) (h1 : FOk q12 g1) (h2 : FOk q0o g2) (h3 : FOk q0i g3) (h4 : FOk q05 g4) (h : ∀ ds outs, WfA q15.ars ds → g ds = some outs → q25.go (tblS [(q0e, g0), (q12, g1), (q0o, g2), (q0i, g3), (q05, g4)]) (fun o => o = outs) ds fun _ _ => False) : FOk q15 g :=
  q0a ann_cells_Valid Try.f26 _ (.cons h0 (.cons h1 (.cons h2 (.cons h3 (.cons h4 .nil))))) rfl rfl enter_cells_Valid (by decide) fun ds outs hw hg => by rw [code_cells_Valid g0 g1 g2 g3 g4 _ rfl]; exact h ds outs hw hg

def q0n : Ct := ⟨19, [.val (.st 27), .val (.st 34)], [(.bool, false)], [], none⟩
theorem enter_gc_Valid (args : Array Value) (w : World) : (callFunc q0n.f args).run Try.prog w = .ok (.enter q0n.f args) w := by kernel_rfl
def ann_gc_Valid : Ann := ⟨[0, 1, 2, 3, 4, 6, 8, 10, 13, 15, 16, 17, 18, 24, 27, 28, 29, 30, 41, 44, 45, 46, 47, 58], [(4, ⟨[(4, .bool, false), (17, .int .i64, false)], [], [18, 19, 20, 6, 21, 22, 23, 24, 25], []⟩),
  (10, ⟨[(4, .bool, false), (29, .int .i64, false)], [], [30, 31, 32, 8, 33, 34, 35, 36, 37, 38, 39, 40, 41, 42], []⟩),
  (16, ⟨[(4, .bool, false), (46, .int .i64, false)], [], [47, 48, 49, 10, 50, 51, 52, 53, 54, 55, 56, 57, 58, 59], []⟩)]⟩
def q2r : Tree := (.need [(.ok 0 [(.tok 0)])] (.br (.not (.call 0 0 [(.tok 0)])) (.leaf [(.lit (.b .false))]) (.loop 4 2 [(.lit (.b .false)), (.lit (.i 0))] (.br (.lt (.tok 3) (.len (.fld (.tok 1) 0))) (.need [(.le (.lit (.i 0)) (.tok 3)), (.lt (.tok 3) (.len (.fld (.tok 1) 0)))] (.need [(.ok 1 [(.tok 0), (.get (.fld (.tok 1) 0) (.tok 3))])] (.br (.not (.call 1 0 [(.tok 0), (.get (.fld (.tok 1) 0) (.tok 3))])) (.leaf [(.lit (.b .false))]) (.need [(.rng .i64 (.add (.tok 3) (.lit (.i 1))))] (.back 4 [(.tok 2), (.add (.tok 3) (.lit (.i 1)))]))))) (.loop 10 4 [(.tok 2), (.lit (.i 0))] (.br (.lt (.tok 5) (.len (.fld (.tok 1) 1))) (.need [(.le (.lit (.i 0)) (.tok 5)), (.lt (.tok 5) (.len (.fld (.tok 1) 1)))] (.br (.or (.lt (.get (.fld (.tok 1) 1) (.tok 5)) (.lit (.i 0))) (.lt (.len (.fld (.tok 0) 0)) (.get (.fld (.tok 1) 1) (.tok 5)))) (.leaf [(.lit (.b .false))]) (.need [(.rng .i64 (.add (.tok 5) (.lit (.i 1))))] (.back 10 [(.tok 4), (.add (.tok 5) (.lit (.i 1)))])))) (.loop 16 6 [(.tok 4), (.lit (.i 0))] (.br (.lt (.tok 7) (.len (.fld (.tok 1) 2))) (.need [(.le (.lit (.i 0)) (.tok 7)), (.lt (.tok 7) (.len (.fld (.tok 1) 2)))] (.br (.or (.lt (.get (.fld (.tok 1) 2) (.tok 7)) (.lit (.i 0))) (.lt (.len (.fld (.tok 0) 2)) (.get (.fld (.tok 1) 2) (.tok 7)))) (.leaf [(.lit (.b .false))]) (.need [(.rng .i64 (.add (.tok 7) (.lit (.i 1))))] (.back 16 [(.tok 6), (.add (.tok 7) (.lit (.i 1)))])))) (.leaf [(.lit (.b .true))])))))))))
set_option maxRecDepth 100000 in
theorem code_gc_Valid (g0 g1 : List D → Option (List D)) : ∀ cd, Try.f19.body = some cd → treeOf Try.prog [(q15, g0), (q05, g1)] ann_gc_Valid q0n Try.f19 cd = q2r := by
  intro cd h
  injection h with h
  subst h
  kernel_rfl
theorem fok_gc_Valid {g0 g1 : List D → Option (List D)} {g : List D → Option (List D)} (h0 : FOk q15 g0) (h1 : FOk q05 g1) (h : ∀ ds outs, WfA q0n.ars ds → g ds = some outs → q2r.go (tblS [(q15, g0), (q05, g1)]) (fun o => o = outs) ds fun _ _ => False) : FOk q0n g :=
  q0a ann_gc_Valid Try.f19 _ (.cons h0 (.cons h1 .nil)) rfl rfl enter_gc_Valid (by decide) fun ds outs hw hg => by rw [code_gc_Valid g0 g1 _ rfl]; exact h ds outs hw hg

def q0b : Ct := ⟨32, [.val (.row 94), .val (.int .i64)], [(.bool, false)], [], none⟩
theorem enter_gc_marks_has (args : Array Value) (w : World) : (callFunc q0b.f args).run Try.prog w = .ok (.enter q0b.f args) w := by kernel_rfl
def ann_gc_marks_has : Ann := ⟨[0, 1, 4], []⟩
def q22 : Tree := (.need [(.rng .i64 (.fn 8 [(.tok 1), (.lit (.i 6))])), (.le (.lit (.i 0)) (.fn 8 [(.tok 1), (.lit (.i 6))])), (.lt (.fn 8 [(.tok 1), (.lit (.i 6))]) (.len (.tok 0))), (.le (.lit (.i 0)) (.tok 1)), (.lit (.b .true)), (.le (.lit (.i 0)) (.fn 13 [(.tok 1), (.lit (.i 63))])), (.le (.fn 13 [(.tok 1), (.lit (.i 63))]) (.lit (.i 64))), (.rng .u64 (.fn 8 [(.get (.tok 0) (.fn 8 [(.tok 1), (.lit (.i 6))])), (.fn 13 [(.tok 1), (.lit (.i 63))])])), (.le (.lit (.i 0)) (.fn 8 [(.get (.tok 0) (.fn 8 [(.tok 1), (.lit (.i 6))])), (.fn 13 [(.tok 1), (.lit (.i 63))])])), (.lit (.b .true))] (.leaf [(.eq (.fn 13 [(.fn 8 [(.get (.tok 0) (.fn 8 [(.tok 1), (.lit (.i 6))])), (.fn 13 [(.tok 1), (.lit (.i 63))])]), (.lit (.i 1))]) (.lit (.i 1)))]))
set_option maxRecDepth 100000 in
theorem code_gc_marks_has : ∀ cd, Try.f32.body = some cd → treeOf Try.prog [] ann_gc_marks_has q0b Try.f32 cd = q22 := by
  intro cd h
  injection h with h
  subst h
  kernel_rfl
theorem fok_gc_marks_has {g : List D → Option (List D)}  (h : ∀ ds outs, WfA q0b.ars ds → g ds = some outs → q22.go (tblS []) (fun o => o = outs) ds fun _ _ => False) : FOk q0b g :=
  q0a ann_gc_marks_has Try.f32 _ .nil rfl rfl enter_gc_marks_has (by decide) fun ds outs hw hg => by rw [code_gc_marks_has  _ rfl]; exact h ds outs hw hg

def q0g : Ct := ⟨58, [.val (.int .i64), .ref (.row 94), .ref (.row 31), .rref (.st 27), .rref (.map 3 23)], [], [], none⟩
theorem enter_gc_mark_1 (args : Array Value) (w : World) : (callFunc q0g.f args).run Try.prog w = .ok (.enter q0g.f args) w := by kernel_rfl
def ann_gc_mark_1 : Ann := ⟨[0, 1, 2, 3, 4, 9], []⟩
def q2d : Tree := (.need [(.ok 0 [(.tok 1), (.tok 0)])] (.br (.not (.call 0 0 [(.tok 1), (.tok 0)])) (.need [(.le (.lit (.i 0)) (.fn 8 [(.tok 0), (.lit (.i 6))])), (.lt (.fn 8 [(.tok 0), (.lit (.i 6))]) (.len (.tok 1))), (.le (.lit (.i 0)) (.get (.tok 1) (.fn 8 [(.tok 0), (.lit (.i 6))]))), (.le (.lit (.i 0)) (.fn 15 [(.lit (.i 1)), (.fn 13 [(.tok 0), (.lit (.i 63))])])), (.le (.lit (.i 0)) (.fn 13 [(.tok 0), (.lit (.i 63))])), (.le (.fn 13 [(.tok 0), (.lit (.i 63))]) (.lit (.i 64))), (.le (.lit (.i 0)) (.tok 0)), (.lit (.b .true)), (.le (.lit (.i 0)) (.fn 8 [(.tok 0), (.lit (.i 6))])), (.lt (.fn 8 [(.tok 0), (.lit (.i 6))]) (.len (.tok 1))), (.rng .i64 (.fn 8 [(.tok 0), (.lit (.i 6))]))] (.need [(.le (.add (.len (.app (.tok 2) (.row [(.get (.fld (.tok 3) 0) (.tok 0))]))) (.len (.fn 0 [(.tok 4), (.tok 0), (.lit (.r []))]))) (.lit (.i 8796093021952))), (.le (.add (.len (.tok 2)) (.lit (.i 1))) (.lit (.i 8796093021952))), (.le (.lit (.i 0)) (.tok 0)), (.lt (.tok 0) (.len (.fld (.tok 3) 0)))] (.leaf [(.put (.tok 1) (.fn 8 [(.tok 0), (.lit (.i 6))]) (.fn 14 [(.get (.tok 1) (.fn 8 [(.tok 0), (.lit (.i 6))])), (.fn 15 [(.lit (.i 1)), (.fn 13 [(.tok 0), (.lit (.i 63))])])])), (.app (.app (.tok 2) (.row [(.get (.fld (.tok 3) 0) (.tok 0))])) (.fn 0 [(.tok 4), (.tok 0), (.lit (.r []))]))]))) (.leaf [(.tok 1), (.tok 2)])))
set_option maxRecDepth 100000 in
theorem code_gc_mark_1 (g0 : List D → Option (List D)) : ∀ cd, Try.f58.body = some cd → treeOf Try.prog [(q0b, g0)] ann_gc_mark_1 q0g Try.f58 cd = q2d := by
  intro cd h
  injection h with h
  subst h
  kernel_rfl
theorem fok_gc_mark_1 {g0 : List D → Option (List D)} {g : List D → Option (List D)} (h0 : FOk q0b g0) (h : ∀ ds outs, WfA q0g.ars ds → g ds = some outs → q2d.go (tblS [(q0b, g0)]) (fun o => o = outs) ds fun _ _ => False) : FOk q0g g :=
  q0a ann_gc_mark_1 Try.f58 _ (.cons h0 .nil) rfl rfl enter_gc_mark_1 (by decide) fun ds outs hw hg => by rw [code_gc_mark_1 g0 _ rfl]; exact h ds outs hw hg

def q17 : Ct := ⟨31, [.val (.st 27), .val (.st 34)], [(.row 94, true)], [], none⟩
theorem enter_gc_mark (args : Array Value) (w : World) : (callFunc q17.f args).run Try.prog w = .ok (.enter q17.f args) w := by kernel_rfl
def ann_gc_mark : Ann := ⟨[0, 1, 2, 3, 4, 5, 6, 8, 9, 10, 12, 13, 14, 15, 16, 25, 26, 27, 28, 49, 50, 51, 52, 65, 80, 81, 83, 96, 99, 100, 101], [(4, ⟨[(27, .int .i64, false)], [], [28, 29, 30, 8, 31, 32, 33, 34, 35, 36, 37, 38, 39, 40, 41, 42], []⟩),
  (12, ⟨[(51, .int .i64, false)], [9], [52, 53, 54, 12, 55, 56, 57, 58, 59, 60, 61, 62], []⟩),
  (16, ⟨[], [5, 9], [63, 64, 65, 66, 67, 68, 69, 70, 71, 13, 72, 73, 74, 75, 76, 77, 78, 14, 15, 79, 80, 82, 81, 84, 83, 85, 86, 87, 88, 89, 90, 91, 92, 93, 94, 95, 97, 96, 98, 99, 100, 101, 102, 16, 103, 104, 105, 106, 107, 108], []⟩),
  (27, ⟨[(100, .int .i64, false)], [5, 9], [101, 102, 16, 103, 104, 105, 106, 107, 108], []⟩)]⟩
def q3d : Tree := (.need [(.rng .i64 (.fn 8 [(.len (.fld (.tok 0) 0)), (.lit (.i 6))])), (.rng .i64 (.add (.fn 8 [(.len (.fld (.tok 0) 0)), (.lit (.i 6))]) (.lit (.i 1)))), (.le (.lit (.i 0)) (.add (.fn 8 [(.len (.fld (.tok 0) 0)), (.lit (.i 6))]) (.lit (.i 1)))), (.le (.add (.fn 8 [(.len (.fld (.tok 0) 0)), (.lit (.i 6))]) (.lit (.i 1))) (.lit (.i 16777216)))] (.need [(.eq (.len (.fld (.tok 0) 2)) (.len (.fld (.tok 0) 2)))] (.need [(.le (.add (.lit (.i 0)) (.len (.fld (.tok 1) 0))) (.lit (.i 8796093021952)))] (.loop 12 2 [(.lit (.i 0)), (.app (.lit (.r [])) (.fld (.tok 1) 0))] (.br (.lt (.tok 2) (.len (.fld (.tok 0) 3))) (.need [(.le (.lit (.i 0)) (.tok 2)), (.lt (.tok 2) (.len (.fld (.tok 0) 3)))] (.need [(.le (.add (.len (.tok 3)) (.lit (.i 2))) (.lit (.i 8796093021952)))] (.need [(.rng .i64 (.add (.tok 2) (.lit (.i 1))))] (.back 12 [(.add (.tok 2) (.lit (.i 1))), (.app (.tok 3) (.row [(.fld (.get (.fld (.tok 0) 3) (.tok 2)) 1), (.fld (.get (.fld (.tok 0) 3) (.tok 2)) 2)]))])))) (.loop 16 4 [(.rep (.add (.fn 8 [(.len (.fld (.tok 0) 0)), (.lit (.i 6))]) (.lit (.i 1))) (.lit (.i 0))), (.tok 3)] (.br (.lt (.lit (.i 0)) (.len (.tok 5))) (.need [(.rng .i64 (.sub (.len (.tok 5)) (.lit (.i 1)))), (.le (.lit (.i 0)) (.sub (.len (.tok 5)) (.lit (.i 1)))), (.lt (.sub (.len (.tok 5)) (.lit (.i 1))) (.len (.tok 5)))] (.need [(.rng .i64 (.sub (.len (.tok 5)) (.lit (.i 1)))), (.le (.lit (.i 0)) (.sub (.len (.tok 5)) (.lit (.i 1)))), (.le (.sub (.len (.tok 5)) (.lit (.i 1))) (.len (.tok 5)))] (.br (.eq (.fld (.get (.tok 5) (.sub (.len (.tok 5)) (.lit (.i 1)))) 0) (.lit (.i 0))) (.need [(.rng .i64 (.lit (.i 1)))] (.loop 27 6 [(.lit (.i 0)), (.tok 4), (.cut (.tok 5) (.lit (.i 0)) (.sub (.len (.tok 5)) (.lit (.i 1))))] (.br (.lt (.tok 6) (.lit (.i 1))) (.need [(.rng .i64 (.add (.fld (.get (.tok 5) (.sub (.len (.tok 5)) (.lit (.i 1)))) 1) (.tok 6))), (.ok 0 [(.add (.fld (.get (.tok 5) (.sub (.len (.tok 5)) (.lit (.i 1)))) 1) (.tok 6)), (.tok 7), (.tok 8), (.tok 0), (.fn 16 [(.fld (.tok 0) 2)])])] (.need [(.rng .i64 (.add (.tok 6) (.lit (.i 1))))] (.back 27 [(.add (.tok 6) (.lit (.i 1))), (.call 0 0 [(.add (.fld (.get (.tok 5) (.sub (.len (.tok 5)) (.lit (.i 1)))) 1) (.tok 6)), (.tok 7), (.tok 8), (.tok 0), (.fn 16 [(.fld (.tok 0) 2)])]), (.call 0 1 [(.add (.fld (.get (.tok 5) (.sub (.len (.tok 5)) (.lit (.i 1)))) 1) (.tok 6)), (.tok 7), (.tok 8), (.tok 0), (.fn 16 [(.fld (.tok 0) 2)])])]))) (.back 16 [(.tok 7), (.tok 8)])))) (.br (.eq (.fld (.get (.tok 5) (.sub (.len (.tok 5)) (.lit (.i 1)))) 0) (.lit (.i 3))) (.need [(.le (.lit (.i 0)) (.fld (.get (.fld (.tok 0) 0) (.fld (.get (.tok 5) (.sub (.len (.tok 5)) (.lit (.i 1)))) 1)) 1)), (.lt (.fld (.get (.fld (.tok 0) 0) (.fld (.get (.tok 5) (.sub (.len (.tok 5)) (.lit (.i 1)))) 1)) 1) (.len (.fld (.tok 0) 1))), (.le (.lit (.i 0)) (.fld (.get (.tok 5) (.sub (.len (.tok 5)) (.lit (.i 1)))) 1)), (.lt (.fld (.get (.tok 5) (.sub (.len (.tok 5)) (.lit (.i 1)))) 1) (.len (.fld (.tok 0) 0)))] (.need [(.rng .i64 (.add (.fld (.get (.fld (.tok 0) 1) (.fld (.get (.fld (.tok 0) 0) (.fld (.get (.tok 5) (.sub (.len (.tok 5)) (.lit (.i 1)))) 1)) 1)) 1) (.lit (.i 1))))] (.loop 27 6 [(.lit (.i 0)), (.tok 4), (.cut (.tok 5) (.lit (.i 0)) (.sub (.len (.tok 5)) (.lit (.i 1))))] (.br (.lt (.tok 6) (.add (.fld (.get (.fld (.tok 0) 1) (.fld (.get (.fld (.tok 0) 0) (.fld (.get (.tok 5) (.sub (.len (.tok 5)) (.lit (.i 1)))) 1)) 1)) 1) (.lit (.i 1)))) (.need [(.rng .i64 (.add (.fld (.get (.tok 5) (.sub (.len (.tok 5)) (.lit (.i 1)))) 1) (.tok 6))), (.ok 0 [(.add (.fld (.get (.tok 5) (.sub (.len (.tok 5)) (.lit (.i 1)))) 1) (.tok 6)), (.tok 7), (.tok 8), (.tok 0), (.fn 16 [(.fld (.tok 0) 2)])])] (.need [(.rng .i64 (.add (.tok 6) (.lit (.i 1))))] (.back 27 [(.add (.tok 6) (.lit (.i 1))), (.call 0 0 [(.add (.fld (.get (.tok 5) (.sub (.len (.tok 5)) (.lit (.i 1)))) 1) (.tok 6)), (.tok 7), (.tok 8), (.tok 0), (.fn 16 [(.fld (.tok 0) 2)])]), (.call 0 1 [(.add (.fld (.get (.tok 5) (.sub (.len (.tok 5)) (.lit (.i 1)))) 1) (.tok 6)), (.tok 7), (.tok 8), (.tok 0), (.fn 16 [(.fld (.tok 0) 2)])])]))) (.back 16 [(.tok 7), (.tok 8)]))))) (.br (.eq (.fld (.get (.tok 5) (.sub (.len (.tok 5)) (.lit (.i 1)))) 0) (.lit (.i 5))) (.need [(.rng .i64 (.lit (.i 3)))] (.loop 27 6 [(.lit (.i 0)), (.tok 4), (.cut (.tok 5) (.lit (.i 0)) (.sub (.len (.tok 5)) (.lit (.i 1))))] (.br (.lt (.tok 6) (.lit (.i 3))) (.need [(.rng .i64 (.add (.fld (.get (.tok 5) (.sub (.len (.tok 5)) (.lit (.i 1)))) 1) (.tok 6))), (.ok 0 [(.add (.fld (.get (.tok 5) (.sub (.len (.tok 5)) (.lit (.i 1)))) 1) (.tok 6)), (.tok 7), (.tok 8), (.tok 0), (.fn 16 [(.fld (.tok 0) 2)])])] (.need [(.rng .i64 (.add (.tok 6) (.lit (.i 1))))] (.back 27 [(.add (.tok 6) (.lit (.i 1))), (.call 0 0 [(.add (.fld (.get (.tok 5) (.sub (.len (.tok 5)) (.lit (.i 1)))) 1) (.tok 6)), (.tok 7), (.tok 8), (.tok 0), (.fn 16 [(.fld (.tok 0) 2)])]), (.call 0 1 [(.add (.fld (.get (.tok 5) (.sub (.len (.tok 5)) (.lit (.i 1)))) 1) (.tok 6)), (.tok 7), (.tok 8), (.tok 0), (.fn 16 [(.fld (.tok 0) 2)])])]))) (.back 16 [(.tok 7), (.tok 8)])))) (.back 16 [(.tok 4), (.cut (.tok 5) (.lit (.i 0)) (.sub (.len (.tok 5)) (.lit (.i 1))))])))))) (.leaf [(.tok 4)]))))))))
set_option maxRecDepth 100000 in
theorem code_gc_mark (g0 : List D → Option (List D)) : treeH Try.prog [(q0g, g0)] ann_gc_mark q17 Try.f31 codeA codeB doOlds = q3d := by kernel_rfl
theorem fok_gc_mark {g0 : List D → Option (List D)} {g : List D → Option (List D)} (h0 : FOk q0g g0) (h : ∀ ds outs, WfA q17.ars ds → g ds = some outs → q3d.go (tblS [(q0g, g0)]) (fun o => o = outs) ds fun _ _ => False) : FOk q17 g :=
  fok_mark ann_gc_mark (.cons h0 .nil) rfl enter_gc_mark (by decide) fun ds outs hw hg => by rw [code_gc_mark g0]; exact h ds outs hw hg

def q10 : Ct := ⟨33, [.val (.st 30), .rref (.row 3)], [(.st 30, false)], [], none⟩
theorem enter_gc_Collect_1 (args : Array Value) (w : World) : (callFunc q10.f args).run Try.prog w = .ok (.enter q10.f args) w := by kernel_rfl
def ann_gc_Collect_1 : Ann := ⟨[0, 1, 2, 3, 16], []⟩
def q21 : Tree := (.br (.or (.or (.eq (.fld (.tok 0) 0) (.lit (.i 0))) (.eq (.fld (.tok 0) 0) (.lit (.i 3)))) (.eq (.fld (.tok 0) 0) (.lit (.i 5)))) (.need [(.le (.lit (.i 0)) (.fld (.tok 0) 1)), (.lt (.fld (.tok 0) 1) (.len (.tok 1)))] (.leaf [(.set (.tok 0) 1 (.get (.tok 1) (.fld (.tok 0) 1)))])) (.leaf [(.tok 0)]))
set_option maxRecDepth 100000 in
theorem code_gc_Collect_1 : ∀ cd, Try.f33.body = some cd → treeOf Try.prog [] ann_gc_Collect_1 q10 Try.f33 cd = q21 := by
  intro cd h
  injection h with h
  subst h
  kernel_rfl
theorem fok_gc_Collect_1 {g : List D → Option (List D)}  (h : ∀ ds outs, WfA q10.ars ds → g ds = some outs → q21.go (tblS []) (fun o => o = outs) ds fun _ _ => False) : FOk q10 g :=
  q0a ann_gc_Collect_1 Try.f33 _ .nil rfl rfl enter_gc_Collect_1 (by decide) fun ds outs hw hg => by rw [code_gc_Collect_1  _ rfl]; exact h ds outs hw hg

def q1v : Ct := ⟨17, [.val (.st 27), .val (.st 34)], [(.int .i64, false), (.int .i64, false)], [], none⟩
theorem enter_gc_Live (args : Array Value) (w : World) : (callFunc q1v.f args).run Try.prog w = .ok (.enter q1v.f args) w := by kernel_rfl
def ann_gc_Live : Ann := ⟨[0, 1, 2, 3, 4, 5, 6, 7, 11, 17, 18, 19, 23], [(5, ⟨[(4, .int .i64, false), (18, .int .i64, false)], [], [19, 20, 7, 21, 22, 23, 24, 25, 26], []⟩)]⟩
def tree_gc_Live : Tree := (.need [(.ok 0 [(.tok 0), (.tok 1)])] (.br (.not (.call 0 0 [(.tok 0), (.tok 1)])) (.leaf [(.lit (.i 0)), (.lit (.i 1))]) (.need [(.ok 1 [(.tok 0), (.tok 1)])] (.loop 5 2 [(.lit (.i 0)), (.lit (.i 0))] (.br (.lt (.tok 3) (.len (.fld (.tok 0) 0))) (.need [(.ok 2 [(.call 1 0 [(.tok 0), (.tok 1)]), (.tok 3)])] (.br (.call 2 0 [(.call 1 0 [(.tok 0), (.tok 1)]), (.tok 3)]) (.need [(.rng .i64 (.add (.tok 2) (.lit (.i 1))))] (.need [(.rng .i64 (.add (.tok 3) (.lit (.i 1))))] (.back 5 [(.add (.tok 2) (.lit (.i 1))), (.add (.tok 3) (.lit (.i 1)))]))) (.need [(.rng .i64 (.add (.tok 3) (.lit (.i 1))))] (.back 5 [(.tok 2), (.add (.tok 3) (.lit (.i 1)))])))) (.leaf [(.tok 2), (.lit (.i 0))]))))))
set_option maxRecDepth 100000 in
theorem code_gc_Live (g0 g1 g2 : List D → Option (List D)) : ∀ cd, Try.f17.body = some cd → treeOf Try.prog [(q0n, g0), (q17, g1), (q0b, g2)] ann_gc_Live q1v Try.f17 cd = tree_gc_Live := by
  intro cd h
  injection h with h
  subst h
  kernel_rfl
theorem fok_gc_Live {g0 g1 g2 : List D → Option (List D)} {g : List D → Option (List D)} (h0 : FOk q0n g0) (h1 : FOk q17 g1) (h2 : FOk q0b g2) (h : ∀ ds outs, WfA q1v.ars ds → g ds = some outs → tree_gc_Live.go (tblS [(q0n, g0), (q17, g1), (q0b, g2)]) (fun o => o = outs) ds fun _ _ => False) : FOk q1v g :=
  q0a ann_gc_Live Try.f17 _ (.cons h0 (.cons h1 (.cons h2 .nil))) rfl rfl enter_gc_Live (by decide) fun ds outs hw hg => by rw [code_gc_Live g0 g1 g2 _ rfl]; exact h ds outs hw hg

def q0u : Ct := ⟨12, [.ref (.st 27), .ref (.st 34)], [(.int .i64, false)], [], none⟩
theorem enter_gc_Collect (args : Array Value) (w : World) : (callFunc q0u.f args).run Try.prog w = .ok (.enter q0u.f args) w := by kernel_rfl
def ann_gc_Collect : Ann := ⟨[0, 1, 4, 5, 6, 7, 8, 9, 10, 11, 12, 13, 14, 15, 16, 18, 19, 21, 23, 25, 41, 60, 61, 62, 74, 87, 88, 89, 90, 96, 114, 115, 116, 117, 124, 148, 149, 150, 151, 185, 186, 187, 188, 203, 204, 205, 206, 222, 223, 224, 225], [(6, ⟨[(61, .int .i64, false)], [6], [62, 63, 7, 64, 65, 66, 67, 68, 69, 70, 71, 72, 73, 74, 75, 76, 77, 78, 79, 80, 81, 82], []⟩),
  (15, ⟨[(9, .row 31, false), (89, .int .i64, false)], [], [90, 91, 92, 93, 11, 10, 94, 95, 96, 97, 98, 99, 100, 101, 102, 103], []⟩),
  (23, ⟨[(13, .row 37, false), (116, .int .i64, false), (12, .row 3, false)], [], [117, 118, 119, 120, 15, 14, 121, 122, 123, 124, 125, 126, 127, 128, 129, 130, 131, 132, 133, 134, 135, 136, 137, 138, 139, 140, 141, 142, 143, 144, 110, 230], []⟩),
  (31, ⟨[(16, .row 63, false), (150, .int .i64, false)], [], [151, 152, 153, 18, 154, 155, 156, 157, 158, 159, 160, 161, 162, 163, 164, 165, 166, 167, 168], []⟩),
  (38, ⟨[(187, .int .i64, false)], [19], [188, 189, 190, 21, 191, 192, 193, 194, 195, 196, 197, 198, 199], []⟩),
  (43, ⟨[(205, .int .i64, false)], [19], [206, 207, 208, 23, 209, 210, 211, 212, 213, 214, 215, 216, 217, 218], []⟩),
  (48, ⟨[(224, .int .i64, false)], [19], [225, 226, 227, 25, 228, 229, 230, 231, 232, 233, 234, 235, 236, 237], []⟩)]⟩
def q29 : Tree := (.need [(.ok 1 [(.tok 0), (.tok 1)])] (.br (.not (.call 1 0 [(.tok 0), (.tok 1)])) (.leaf [(.lit (.i 1)), (.tok 0), (.tok 1)]) (.need [(.ok 2 [(.tok 0), (.tok 1)])] (.need [(.rng .i64 (.add (.len (.fld (.tok 0) 0)) (.lit (.i 1)))), (.le (.lit (.i 0)) (.add (.len (.fld (.tok 0) 0)) (.lit (.i 1)))), (.le (.add (.len (.fld (.tok 0) 0)) (.lit (.i 1))) (.lit (.i 16777216)))] (.loop 6 2 [(.lit (.i 0)), (.rep (.add (.len (.fld (.tok 0) 0)) (.lit (.i 1))) (.lit (.i 0)))] (.br (.lt (.tok 2) (.len (.fld (.tok 0) 0))) (.need [(.le (.lit (.i 0)) (.add (.tok 2) (.lit (.i 1)))), (.lt (.add (.tok 2) (.lit (.i 1))) (.len (.tok 3))), (.le (.lit (.i 0)) (.tok 2)), (.lt (.tok 2) (.len (.tok 3))), (.rng .i64 (.add (.tok 2) (.lit (.i 1))))] (.need [(.ok 3 [(.call 2 0 [(.tok 0), (.tok 1)]), (.tok 2)])] (.br (.call 3 0 [(.call 2 0 [(.tok 0), (.tok 1)]), (.tok 2)]) (.need [(.rng .i64 (.add (.tok 2) (.lit (.i 1)))), (.le (.lit (.i 0)) (.add (.tok 2) (.lit (.i 1)))), (.lt (.add (.tok 2) (.lit (.i 1))) (.len (.put (.tok 3) (.add (.tok 2) (.lit (.i 1))) (.get (.tok 3) (.tok 2))))), (.rng .i64 (.add (.get (.put (.tok 3) (.add (.tok 2) (.lit (.i 1))) (.get (.tok 3) (.tok 2))) (.add (.tok 2) (.lit (.i 1)))) (.lit (.i 1)))), (.le (.lit (.i 0)) (.add (.tok 2) (.lit (.i 1)))), (.lt (.add (.tok 2) (.lit (.i 1))) (.len (.put (.tok 3) (.add (.tok 2) (.lit (.i 1))) (.get (.tok 3) (.tok 2)))))] (.need [(.rng .i64 (.add (.tok 2) (.lit (.i 1))))] (.back 6 [(.add (.tok 2) (.lit (.i 1))), (.put (.put (.tok 3) (.add (.tok 2) (.lit (.i 1))) (.get (.tok 3) (.tok 2))) (.add (.tok 2) (.lit (.i 1))) (.add (.get (.put (.tok 3) (.add (.tok 2) (.lit (.i 1))) (.get (.tok 3) (.tok 2))) (.add (.tok 2) (.lit (.i 1)))) (.lit (.i 1))))]))) (.need [(.rng .i64 (.add (.tok 2) (.lit (.i 1))))] (.back 6 [(.add (.tok 2) (.lit (.i 1))), (.put (.tok 3) (.add (.tok 2) (.lit (.i 1))) (.get (.tok 3) (.tok 2)))]))))) (.loop 15 4 [(.lit (.r [])), (.lit (.i 0))] (.br (.lt (.tok 5) (.len (.fld (.tok 0) 0))) (.need [(.le (.lit (.i 0)) (.tok 5)), (.lt (.tok 5) (.len (.fld (.tok 0) 0)))] (.need [(.ok 3 [(.call 2 0 [(.tok 0), (.tok 1)]), (.tok 5)])] (.br (.call 3 0 [(.call 2 0 [(.tok 0), (.tok 1)]), (.tok 5)]) (.need [(.ok 0 [(.get (.fld (.tok 0) 0) (.tok 5)), (.tok 3)]), (.le (.add (.len (.tok 4)) (.lit (.i 1))) (.lit (.i 8796093021952)))] (.need [(.rng .i64 (.add (.tok 5) (.lit (.i 1))))] (.back 15 [(.app (.tok 4) (.row [(.call 0 0 [(.get (.fld (.tok 0) 0) (.tok 5)), (.tok 3)])])), (.add (.tok 5) (.lit (.i 1)))]))) (.need [(.rng .i64 (.add (.tok 5) (.lit (.i 1))))] (.back 15 [(.tok 4), (.add (.tok 5) (.lit (.i 1)))]))))) (.need [(.rng .i64 (.add (.len (.fld (.tok 0) 2)) (.lit (.i 1)))), (.le (.lit (.i 0)) (.add (.len (.fld (.tok 0) 2)) (.lit (.i 1)))), (.le (.add (.len (.fld (.tok 0) 2)) (.lit (.i 1))) (.lit (.i 16777216)))] (.loop 23 6 [(.lit (.r [])), (.lit (.i 0)), (.rep (.add (.len (.fld (.tok 0) 2)) (.lit (.i 1))) (.lit (.i 0)))] (.br (.lt (.tok 7) (.len (.fld (.tok 0) 2))) (.need [(.le (.lit (.i 0)) (.tok 7)), (.lt (.tok 7) (.len (.fld (.tok 0) 2)))] (.need [(.ok 3 [(.call 2 0 [(.tok 0), (.tok 1)]), (.fld (.get (.fld (.tok 0) 2) (.tok 7)) 0)])] (.br (.call 3 0 [(.call 2 0 [(.tok 0), (.tok 1)]), (.fld (.get (.fld (.tok 0) 2) (.tok 7)) 0)]) (.need [(.le (.add (.len (.tok 6)) (.lit (.i 1))) (.lit (.i 5864062014634))), (.ok 0 [(.fld (.get (.fld (.tok 0) 2) (.tok 7)) 1), (.tok 3)]), (.le (.lit (.i 0)) (.fld (.get (.fld (.tok 0) 2) (.tok 7)) 0)), (.lt (.fld (.get (.fld (.tok 0) 2) (.tok 7)) 0) (.len (.tok 3)))] (.need [(.rng .i64 (.add (.tok 7) (.lit (.i 1)))), (.le (.lit (.i 0)) (.add (.tok 7) (.lit (.i 1)))), (.lt (.add (.tok 7) (.lit (.i 1))) (.len (.tok 8)))] (.need [(.rng .i64 (.add (.tok 7) (.lit (.i 1))))] (.back 23 [(.app (.tok 6) (.row [(.mk [(.get (.tok 3) (.fld (.get (.fld (.tok 0) 2) (.tok 7)) 0)), (.call 0 0 [(.fld (.get (.fld (.tok 0) 2) (.tok 7)) 1), (.tok 3)])])])), (.add (.tok 7) (.lit (.i 1))), (.put (.tok 8) (.add (.tok 7) (.lit (.i 1))) (.len (.app (.tok 6) (.row [(.mk [(.get (.tok 3) (.fld (.get (.fld (.tok 0) 2) (.tok 7)) 0)), (.call 0 0 [(.fld (.get (.fld (.tok 0) 2) (.tok 7)) 1), (.tok 3)])])]))))])))) (.need [(.rng .i64 (.add (.tok 7) (.lit (.i 1)))), (.le (.lit (.i 0)) (.add (.tok 7) (.lit (.i 1)))), (.lt (.add (.tok 7) (.lit (.i 1))) (.len (.tok 8)))] (.need [(.rng .i64 (.add (.tok 7) (.lit (.i 1))))] (.back 23 [(.tok 6), (.add (.tok 7) (.lit (.i 1))), (.put (.tok 8) (.add (.tok 7) (.lit (.i 1))) (.len (.tok 6)))])))))) (.loop 31 9 [(.lit (.r [])), (.lit (.i 0))] (.br (.lt (.tok 10) (.len (.fld (.tok 0) 3))) (.need [(.le (.lit (.i 0)) (.tok 10)), (.lt (.tok 10) (.len (.fld (.tok 0) 3)))] (.need [(.le (.add (.len (.tok 9)) (.lit (.i 1))) (.lit (.i 3518437208780))), (.ok 0 [(.fld (.get (.fld (.tok 0) 3) (.tok 10)) 2), (.tok 3)]), (.ok 0 [(.fld (.get (.fld (.tok 0) 3) (.tok 10)) 1), (.tok 3)])] (.need [(.rng .i64 (.add (.tok 10) (.lit (.i 1))))] (.back 31 [(.app (.tok 9) (.row [(.mk [(.fld (.get (.fld (.tok 0) 3) (.tok 10)) 0), (.call 0 0 [(.fld (.get (.fld (.tok 0) 3) (.tok 10)) 1), (.tok 3)]), (.call 0 0 [(.fld (.get (.fld (.tok 0) 3) (.tok 10)) 2), (.tok 3)])])])), (.add (.tok 10) (.lit (.i 1)))])))) (.loop 38 11 [(.lit (.i 0)), (.lit (.a [(.r []), (.r []), (.r [])]))] (.br (.lt (.tok 11) (.len (.fld (.tok 1) 0))) (.need [(.le (.lit (.i 0)) (.tok 11)), (.lt (.tok 11) (.len (.fld (.tok 1) 0)))] (.need [(.le (.add (.len (.fld (.tok 12) 0)) (.lit (.i 1))) (.lit (.i 8796093021952))), (.ok 0 [(.get (.fld (.tok 1) 0) (.tok 11)), (.tok 3)])] (.need [(.rng .i64 (.add (.tok 11) (.lit (.i 1))))] (.back 38 [(.add (.tok 11) (.lit (.i 1))), (.set (.tok 12) 0 (.app (.fld (.tok 12) 0) (.row [(.call 0 0 [(.get (.fld (.tok 1) 0) (.tok 11)), (.tok 3)])])))])))) (.loop 43 13 [(.lit (.i 0)), (.tok 12)] (.br (.lt (.tok 13) (.len (.fld (.tok 1) 1))) (.need [(.le (.lit (.i 0)) (.tok 13)), (.lt (.tok 13) (.len (.fld (.tok 1) 1)))] (.need [(.le (.add (.len (.fld (.tok 14) 1)) (.lit (.i 1))) (.lit (.i 17592186043904))), (.le (.lit (.i 0)) (.get (.fld (.tok 1) 1) (.tok 13))), (.lt (.get (.fld (.tok 1) 1) (.tok 13)) (.len (.tok 3)))] (.need [(.rng .i64 (.add (.tok 13) (.lit (.i 1))))] (.back 43 [(.add (.tok 13) (.lit (.i 1))), (.set (.tok 14) 1 (.app (.fld (.tok 14) 1) (.row [(.get (.tok 3) (.get (.fld (.tok 1) 1) (.tok 13)))])))])))) (.loop 48 15 [(.lit (.i 0)), (.tok 14)] (.br (.lt (.tok 15) (.len (.fld (.tok 1) 2))) (.need [(.le (.lit (.i 0)) (.tok 15)), (.lt (.tok 15) (.len (.fld (.tok 1) 2)))] (.need [(.le (.add (.len (.fld (.tok 16) 2)) (.lit (.i 1))) (.lit (.i 17592186043904))), (.le (.lit (.i 0)) (.get (.fld (.tok 1) 2) (.tok 15))), (.lt (.get (.fld (.tok 1) 2) (.tok 15)) (.len (.tok 8)))] (.need [(.rng .i64 (.add (.tok 15) (.lit (.i 1))))] (.back 48 [(.add (.tok 15) (.lit (.i 1))), (.set (.tok 16) 2 (.app (.fld (.tok 16) 2) (.row [(.get (.tok 8) (.get (.fld (.tok 1) 2) (.tok 15)))])))])))) (.leaf [(.lit (.i 0)), (.set (.set (.set (.tok 0) 0 (.tok 4)) 2 (.tok 6)) 3 (.tok 9)), (.tok 16)]))))))))))))))))))))
set_option maxRecDepth 100000 in
theorem code_gc_Collect (g0 g1 g2 g3 : List D → Option (List D)) : ∀ cd, Try.f12.body = some cd → treeOf Try.prog [(q10, g0), (q0n, g1), (q17, g2), (q0b, g3)] ann_gc_Collect q0u Try.f12 cd = q29 := by
  intro cd h
  injection h with h
  subst h
  kernel_rfl
theorem fok_gc_Collect {g0 g1 g2 g3 : List D → Option (List D)} {g : List D → Option (List D)} (h0 : FOk q10 g0) (h1 : FOk q0n g1) (h2 : FOk q17 g2) (h3 : FOk q0b g3) (h : ∀ ds outs, WfA q0u.ars ds → g ds = some outs → q29.go (tblS [(q10, g0), (q0n, g1), (q17, g2), (q0b, g3)]) (fun o => o = outs) ds fun _ _ => False) : FOk q0u g :=
  q0a ann_gc_Collect Try.f12 _ (.cons h0 (.cons h1 (.cons h2 (.cons h3 .nil)))) rfl rfl enter_gc_Collect (by decide) fun ds outs hw hg => by rw [code_gc_Collect g0 g1 g2 g3 _ rfl]; exact h ds outs hw hg

def q1d : Ct := ⟨21, [.val (.st 27), .val (.st 27)], [(.bool, false)], [], none⟩
theorem enter_ref30_Same (args : Array Value) (w : World) : (callFunc q1d.f args).run Try.prog w = .ok (.enter q1d.f args) w := by kernel_rfl
def ann_ref30_Same : Ann := ⟨[0, 1, 2, 3, 4, 5, 6, 7, 8, 56, 61, 74, 79, 92, 97, 110, 115, 128], [(4, ⟨[(4, .bool, false), (5, .int .i64, false)], [], [57, 58, 59, 60, 61, 64, 65, 66, 67, 68, 69, 70, 71, 72, 73, 74, 62, 63], []⟩),
  (9, ⟨[(4, .bool, false), (6, .int .i64, false)], [], [75, 76, 77, 78, 79, 82, 83, 84, 85, 86, 87, 88, 89, 90, 91, 92, 80, 81], []⟩),
  (14, ⟨[(4, .bool, false), (7, .int .i64, false)], [], [93, 94, 95, 96, 97, 100, 101, 102, 103, 104, 105, 106, 107, 108, 109, 110, 98, 99], []⟩),
  (19, ⟨[(4, .bool, false), (8, .int .i64, false)], [], [111, 112, 113, 114, 115, 118, 119, 120, 121, 122, 123, 124, 125, 126, 127, 128, 116, 117], []⟩)]⟩
def q36 : Tree := (.br (.or (.or (.or (.or (.or (.not (.eq (.len (.fld (.tok 0) 0)) (.len (.fld (.tok 1) 0)))) (.not (.eq (.len (.fld (.tok 0) 1)) (.len (.fld (.tok 1) 1))))) (.not (.eq (.len (.fld (.tok 0) 2)) (.len (.fld (.tok 1) 2))))) (.not (.eq (.len (.fld (.tok 0) 3)) (.len (.fld (.tok 1) 3))))) (.not (.eq (.fld (.tok 0) 4) (.fld (.tok 1) 4)))) (.not (.eq (.fld (.tok 0) 5) (.fld (.tok 1) 5)))) (.leaf [(.lit (.b .false))]) (.loop 4 2 [(.lit (.b .false)), (.lit (.i 0))] (.br (.lt (.tok 3) (.len (.fld (.tok 0) 0))) (.need [(.le (.lit (.i 0)) (.tok 3)), (.lt (.tok 3) (.len (.fld (.tok 1) 0))), (.le (.lit (.i 0)) (.tok 3)), (.lt (.tok 3) (.len (.fld (.tok 0) 0)))] (.br (.not (.eq (.get (.fld (.tok 0) 0) (.tok 3)) (.get (.fld (.tok 1) 0) (.tok 3)))) (.leaf [(.lit (.b .false))]) (.need [(.rng .i64 (.add (.tok 3) (.lit (.i 1))))] (.back 4 [(.tok 2), (.add (.tok 3) (.lit (.i 1)))])))) (.loop 9 4 [(.tok 2), (.lit (.i 0))] (.br (.lt (.tok 5) (.len (.fld (.tok 0) 1))) (.need [(.le (.lit (.i 0)) (.tok 5)), (.lt (.tok 5) (.len (.fld (.tok 1) 1))), (.le (.lit (.i 0)) (.tok 5)), (.lt (.tok 5) (.len (.fld (.tok 0) 1)))] (.br (.not (.eq (.get (.fld (.tok 0) 1) (.tok 5)) (.get (.fld (.tok 1) 1) (.tok 5)))) (.leaf [(.lit (.b .false))]) (.need [(.rng .i64 (.add (.tok 5) (.lit (.i 1))))] (.back 9 [(.tok 4), (.add (.tok 5) (.lit (.i 1)))])))) (.loop 14 6 [(.tok 4), (.lit (.i 0))] (.br (.lt (.tok 7) (.len (.fld (.tok 0) 2))) (.need [(.le (.lit (.i 0)) (.tok 7)), (.lt (.tok 7) (.len (.fld (.tok 1) 2))), (.le (.lit (.i 0)) (.tok 7)), (.lt (.tok 7) (.len (.fld (.tok 0) 2)))] (.br (.not (.eq (.get (.fld (.tok 0) 2) (.tok 7)) (.get (.fld (.tok 1) 2) (.tok 7)))) (.leaf [(.lit (.b .false))]) (.need [(.rng .i64 (.add (.tok 7) (.lit (.i 1))))] (.back 14 [(.tok 6), (.add (.tok 7) (.lit (.i 1)))])))) (.loop 19 8 [(.tok 6), (.lit (.i 0))] (.br (.lt (.tok 9) (.len (.fld (.tok 0) 3))) (.need [(.le (.lit (.i 0)) (.tok 9)), (.lt (.tok 9) (.len (.fld (.tok 1) 3))), (.le (.lit (.i 0)) (.tok 9)), (.lt (.tok 9) (.len (.fld (.tok 0) 3)))] (.br (.not (.eq (.get (.fld (.tok 0) 3) (.tok 9)) (.get (.fld (.tok 1) 3) (.tok 9)))) (.leaf [(.lit (.b .false))]) (.need [(.rng .i64 (.add (.tok 9) (.lit (.i 1))))] (.back 19 [(.tok 8), (.add (.tok 9) (.lit (.i 1)))])))) (.leaf [(.lit (.b .true))]))))))))))
set_option maxRecDepth 100000 in
theorem code_ref30_Same : ∀ cd, Try.f21.body = some cd → treeOf Try.prog [] ann_ref30_Same q1d Try.f21 cd = q36 := by
  intro cd h
  injection h with h
  subst h
  kernel_rfl
theorem fok_ref30_Same {g : List D → Option (List D)}  (h : ∀ ds outs, WfA q1d.ars ds → g ds = some outs → q36.go (tblS []) (fun o => o = outs) ds fun _ _ => False) : FOk q1d g :=
  q0a ann_ref30_Same Try.f21 _ .nil rfl rfl enter_ref30_Same (by decide) fun ds outs hw hg => by rw [code_ref30_Same  _ rfl]; exact h ds outs hw hg

def q1c : Ct := ⟨22, [.val (.st 34), .val (.st 34)], [(.bool, false)], [], none⟩
theorem enter_ref34_Same (args : Array Value) (w : World) : (callFunc q1c.f args).run Try.prog w = .ok (.enter q1c.f args) w := by kernel_rfl
def ann_ref34_Same : Ann := ⟨[0, 1, 2, 3, 4, 5, 6, 7, 32, 37, 50, 55, 68, 73, 86], [(4, ⟨[(4, .bool, false), (5, .int .i64, false)], [], [33, 34, 35, 36, 37, 40, 41, 42, 43, 44, 45, 46, 47, 48, 49, 50, 38, 39], []⟩),
  (9, ⟨[(4, .bool, false), (6, .int .i64, false)], [], [51, 52, 53, 54, 55, 58, 59, 60, 61, 62, 63, 64, 65, 66, 67, 68, 56, 57], []⟩),
  (14, ⟨[(4, .bool, false), (7, .int .i64, false)], [], [69, 70, 71, 72, 73, 76, 77, 78, 79, 80, 81, 82, 83, 84, 85, 86, 74, 75], []⟩)]⟩
def q38 : Tree := (.br (.or (.or (.not (.eq (.len (.fld (.tok 0) 0)) (.len (.fld (.tok 1) 0)))) (.not (.eq (.len (.fld (.tok 0) 1)) (.len (.fld (.tok 1) 1))))) (.not (.eq (.len (.fld (.tok 0) 2)) (.len (.fld (.tok 1) 2))))) (.leaf [(.lit (.b .false))]) (.loop 4 2 [(.lit (.b .false)), (.lit (.i 0))] (.br (.lt (.tok 3) (.len (.fld (.tok 0) 0))) (.need [(.le (.lit (.i 0)) (.tok 3)), (.lt (.tok 3) (.len (.fld (.tok 1) 0))), (.le (.lit (.i 0)) (.tok 3)), (.lt (.tok 3) (.len (.fld (.tok 0) 0)))] (.br (.not (.eq (.get (.fld (.tok 0) 0) (.tok 3)) (.get (.fld (.tok 1) 0) (.tok 3)))) (.leaf [(.lit (.b .false))]) (.need [(.rng .i64 (.add (.tok 3) (.lit (.i 1))))] (.back 4 [(.tok 2), (.add (.tok 3) (.lit (.i 1)))])))) (.loop 9 4 [(.tok 2), (.lit (.i 0))] (.br (.lt (.tok 5) (.len (.fld (.tok 0) 1))) (.need [(.le (.lit (.i 0)) (.tok 5)), (.lt (.tok 5) (.len (.fld (.tok 1) 1))), (.le (.lit (.i 0)) (.tok 5)), (.lt (.tok 5) (.len (.fld (.tok 0) 1)))] (.br (.not (.eq (.get (.fld (.tok 0) 1) (.tok 5)) (.get (.fld (.tok 1) 1) (.tok 5)))) (.leaf [(.lit (.b .false))]) (.need [(.rng .i64 (.add (.tok 5) (.lit (.i 1))))] (.back 9 [(.tok 4), (.add (.tok 5) (.lit (.i 1)))])))) (.loop 14 6 [(.tok 4), (.lit (.i 0))] (.br (.lt (.tok 7) (.len (.fld (.tok 0) 2))) (.need [(.le (.lit (.i 0)) (.tok 7)), (.lt (.tok 7) (.len (.fld (.tok 1) 2))), (.le (.lit (.i 0)) (.tok 7)), (.lt (.tok 7) (.len (.fld (.tok 0) 2)))] (.br (.not (.eq (.get (.fld (.tok 0) 2) (.tok 7)) (.get (.fld (.tok 1) 2) (.tok 7)))) (.leaf [(.lit (.b .false))]) (.need [(.rng .i64 (.add (.tok 7) (.lit (.i 1))))] (.back 14 [(.tok 6), (.add (.tok 7) (.lit (.i 1)))])))) (.leaf [(.lit (.b .true))]))))))))
set_option maxRecDepth 100000 in
theorem code_ref34_Same : ∀ cd, Try.f22.body = some cd → treeOf Try.prog [] ann_ref34_Same q1c Try.f22 cd = q38 := by
  intro cd h
  injection h with h
  subst h
  kernel_rfl
theorem fok_ref34_Same {g : List D → Option (List D)}  (h : ∀ ds outs, WfA q1c.ars ds → g ds = some outs → q38.go (tblS []) (fun o => o = outs) ds fun _ _ => False) : FOk q1c g :=
  q0a ann_ref34_Same Try.f22 _ .nil rfl rfl enter_ref34_Same (by decide) fun ds outs hw hg => by rw [code_ref34_Same  _ rfl]; exact h ds outs hw hg

def q1e : Ct := ⟨9, [.own (.st 27), .own (.st 34), .val (.row 31), .val (.row 37), .val (.st 34)], [(.bool, false)], [], none⟩
theorem enter_law34_gives (args : Array Value) (w : World) : (callFunc q1e.f args).run Try.prog w = .ok (.enter q1e.f args) w := by kernel_rfl
def ann_law34_gives : Ann := ⟨[0, 1, 2, 3, 4, 5, 6, 9, 10, 11, 12, 13, 14], []⟩
def q2t : Tree := (.need [(.ok 0 [(.tok 0), (.tok 1)])] (.need [(.ok 1 [(.tok 0), (.tok 1)])] (.need [(.imp (.and (.and (.eq (.call 0 1 [(.tok 0), (.tok 1)]) (.lit (.i 0))) (.eq (.call 1 0 [(.tok 0), (.tok 1)]) (.lit (.i 0)))) (.eq (.call 0 0 [(.tok 0), (.tok 1)]) (.len (.tok 2)))) (.ok 2 [(.call 1 1 [(.tok 0), (.tok 1)]), (.set (.set (.set (.set (.lit (.a [(.r []), (.r []), (.r []), (.r []), (.i 0), (.i 0)])) 0 (.tok 2)) 1 (.fld (.call 1 1 [(.tok 0), (.tok 1)]) 1)) 2 (.tok 3)) 5 (.lit (.i 10)))])), (.imp (.and (.and (.and (.eq (.call 0 1 [(.tok 0), (.tok 1)]) (.lit (.i 0))) (.eq (.call 1 0 [(.tok 0), (.tok 1)]) (.lit (.i 0)))) (.eq (.call 0 0 [(.tok 0), (.tok 1)]) (.len (.tok 2)))) (.call 2 0 [(.call 1 1 [(.tok 0), (.tok 1)]), (.set (.set (.set (.set (.lit (.a [(.r []), (.r []), (.r []), (.r []), (.i 0), (.i 0)])) 0 (.tok 2)) 1 (.fld (.call 1 1 [(.tok 0), (.tok 1)]) 1)) 2 (.tok 3)) 5 (.lit (.i 10)))])) (.ok 3 [(.call 1 2 [(.tok 0), (.tok 1)]), (.tok 4)]))] (.leaf [(.and (.and (.and (.and (.eq (.call 0 1 [(.tok 0), (.tok 1)]) (.lit (.i 0))) (.eq (.call 1 0 [(.tok 0), (.tok 1)]) (.lit (.i 0)))) (.eq (.call 0 0 [(.tok 0), (.tok 1)]) (.len (.tok 2)))) (.call 2 0 [(.call 1 1 [(.tok 0), (.tok 1)]), (.set (.set (.set (.set (.lit (.a [(.r []), (.r []), (.r []), (.r []), (.i 0), (.i 0)])) 0 (.tok 2)) 1 (.fld (.call 1 1 [(.tok 0), (.tok 1)]) 1)) 2 (.tok 3)) 5 (.lit (.i 10)))])) (.call 3 0 [(.call 1 2 [(.tok 0), (.tok 1)]), (.tok 4)]))]))))
set_option maxRecDepth 100000 in
theorem code_law34_gives (g0 g1 g2 g3 : List D → Option (List D)) : ∀ cd, Try.f9.body = some cd → treeOf Try.prog [(q1v, g0), (q0u, g1), (q1d, g2), (q1c, g3)] ann_law34_gives q1e Try.f9 cd = q2t := by
  intro cd h
  injection h with h
  subst h
  kernel_rfl
theorem fok_law34_gives {g0 g1 g2 g3 : List D → Option (List D)} {g : List D → Option (List D)} (h0 : FOk q1v g0) (h1 : FOk q0u g1) (h2 : FOk q1d g2) (h3 : FOk q1c g3) (h : ∀ ds outs, WfA q1e.ars ds → g ds = some outs → q2t.go (tblS [(q1v, g0), (q0u, g1), (q1d, g2), (q1c, g3)]) (fun o => o = outs) ds fun _ _ => False) : FOk q1e g :=
  q0a ann_law34_gives Try.f9 _ (.cons h0 (.cons h1 (.cons h2 (.cons h3 .nil)))) rfl rfl enter_law34_gives (by decide) fun ds outs hw hg => by rw [code_law34_gives g0 g1 g2 g3 _ rfl]; exact h ds outs hw hg

def q1g : Ct := ⟨13, [], [(.bool, false)], [], none⟩
theorem enter_law34_awake (args : Array Value) (w : World) : (callFunc q1g.f args).run Try.prog w = .ok (.enter q1g.f args) w := by kernel_rfl
def ann_law34_awake : Ann := ⟨[0, 1], []⟩
def tree_law34_awake : Tree := (.need [(.ok 0 [(.lit (.i 4)), (.lit (.i 0))]), (.ok 0 [(.lit (.i 1)), (.lit (.i 7))]), (.ok 0 [(.lit (.i 0)), (.lit (.i 3))]), (.ok 0 [(.lit (.i 0)), (.lit (.i 3))])] (.need [(.ok 1 []), (.ok 0 [(.lit (.i 3)), (.lit (.i 1))]), (.ok 0 [(.lit (.i 3)), (.lit (.i 0))]), (.ok 2 [(.call 1 0 []), (.set (.set (.lit (.a [(.r []), (.r []), (.r [])])) 0 (.row [(.call 0 0 [(.lit (.i 3)), (.lit (.i 1))])])) 1 (.row [(.lit (.i 1)), (.lit (.i 5)), (.lit (.i 6))])), (.row [(.call 0 0 [(.lit (.i 4)), (.lit (.i 0))]), (.call 0 0 [(.lit (.i 1)), (.lit (.i 7))]), (.call 0 0 [(.lit (.i 0)), (.lit (.i 3))]), (.call 0 0 [(.lit (.i 0)), (.lit (.i 3))])]), (.lit (.r [])), (.set (.set (.lit (.a [(.r []), (.r []), (.r [])])) 0 (.row [(.call 0 0 [(.lit (.i 3)), (.lit (.i 0))])])) 1 (.row [(.lit (.i 0)), (.lit (.i 4)), (.lit (.i 4))]))])] (.leaf [(.call 2 0 [(.call 1 0 []), (.set (.set (.lit (.a [(.r []), (.r []), (.r [])])) 0 (.row [(.call 0 0 [(.lit (.i 3)), (.lit (.i 1))])])) 1 (.row [(.lit (.i 1)), (.lit (.i 5)), (.lit (.i 6))])), (.row [(.call 0 0 [(.lit (.i 4)), (.lit (.i 0))]), (.call 0 0 [(.lit (.i 1)), (.lit (.i 7))]), (.call 0 0 [(.lit (.i 0)), (.lit (.i 3))]), (.call 0 0 [(.lit (.i 0)), (.lit (.i 3))])]), (.lit (.r [])), (.set (.set (.lit (.a [(.r []), (.r []), (.r [])])) 0 (.row [(.call 0 0 [(.lit (.i 3)), (.lit (.i 0))])])) 1 (.row [(.lit (.i 0)), (.lit (.i 4)), (.lit (.i 4))]))])])))
set_option maxRecDepth 100000 in
theorem code_law34_awake (g0 g1 g2 : List D → Option (List D)) : ∀ cd, Try.f13.body = some cd → treeOf Try.prog [(q0z, g0), (q1p, g1), (q1e, g2)] ann_law34_awake q1g Try.f13 cd = tree_law34_awake := by
  intro cd h
  injection h with h
  subst h
  kernel_rfl
theorem fok_law34_awake {g0 g1 g2 : List D → Option (List D)} {g : List D → Option (List D)} (h0 : FOk q0z g0) (h1 : FOk q1p g1) (h2 : FOk q1e g2) (h : ∀ ds outs, WfA q1g.ars ds → g ds = some outs → tree_law34_awake.go (tblS [(q0z, g0), (q1p, g1), (q1e, g2)]) (fun o => o = outs) ds fun _ _ => False) : FOk q1g g :=
  q0a ann_law34_awake Try.f13 _ (.cons h0 (.cons h1 (.cons h2 .nil))) rfl rfl enter_law34_awake (by decide) fun ds outs hw hg => by rw [code_law34_awake g0 g1 g2 _ rfl]; exact h ds outs hw hg

def q1i : Ct := ⟨16, [.val (.st 34)], [(.st 34, true)], [], none⟩
theorem enter_ref34_Clone (args : Array Value) (w : World) : (callFunc q1i.f args).run Try.prog w = .ok (.enter q1i.f args) w := by kernel_rfl
def ann_ref34_Clone : Ann := ⟨[0, 1, 2], []⟩
def q2y : Tree := (.need [(.le (.add (.lit (.i 0)) (.len (.fld (.tok 0) 2))) (.lit (.i 17592186043904))), (.le (.add (.lit (.i 0)) (.len (.fld (.tok 0) 1))) (.lit (.i 17592186043904))), (.le (.add (.lit (.i 0)) (.len (.fld (.tok 0) 0))) (.lit (.i 8796093021952))), (.le (.add (.lit (.i 0)) (.len (.fld (.tok 0) 0))) (.lit (.i 8796093021952)))] (.leaf [(.mk [(.app (.row []) (.fld (.tok 0) 0)), (.app (.row []) (.fld (.tok 0) 1)), (.app (.row []) (.fld (.tok 0) 2))])]))
set_option maxRecDepth 100000 in
theorem code_ref34_Clone : ∀ cd, Try.f16.body = some cd → treeOf Try.prog [] ann_ref34_Clone q1i Try.f16 cd = q2y := by
  intro cd h
  injection h with h
  subst h
  kernel_rfl
theorem fok_ref34_Clone {g : List D → Option (List D)}  (h : ∀ ds outs, WfA q1i.ars ds → g ds = some outs → q2y.go (tblS []) (fun o => o = outs) ds fun _ _ => False) : FOk q1i g :=
  q0a ann_ref34_Clone Try.f16 _ .nil rfl rfl enter_ref34_Clone (by decide) fun ds outs hw hg => by rw [code_ref34_Clone  _ rfl]; exact h ds outs hw hg

def q0q : Ct := ⟨39, [.val (.row 31)], [(.row 31, true)], [], none⟩
theorem enter_slices_Clone_Cell (args : Array Value) (w : World) : (callFunc q0q.f args).run Try.prog w = .ok (.enter q0q.f args) w := by kernel_rfl
def q32 : Ann := ⟨[0, 2, 4], []⟩
def q2p : Tree := (.amb (.tok 0) .false (.leaf [(.lit (.r []))]) (.need [(.le (.add (.lit (.i 0)) (.len (.tok 0))) (.lit (.i 8796093021952)))] (.leaf [(.app (.row []) (.tok 0))])))
set_option maxRecDepth 100000 in
theorem code_slices_Clone_Cell : ∀ cd, Try.f39.body = some cd → treeOf Try.prog [] q32 q0q Try.f39 cd = q2p := by
  intro cd h
  injection h with h
  subst h
  kernel_rfl
theorem fok_slices_Clone_Cell {g : List D → Option (List D)}  (h : ∀ ds outs, WfA q0q.ars ds → g ds = some outs → q2p.go (tblS []) (fun o => o = outs) ds fun _ _ => False) : FOk q0q g :=
  q0a q32 Try.f39 _ .nil rfl rfl enter_slices_Clone_Cell (by decide) fun ds outs hw hg => by rw [code_slices_Clone_Cell  _ rfl]; exact h ds outs hw hg

def q0m : Ct := ⟨40, [.val (.row 51)], [(.row 51, true)], [], none⟩
theorem q3t (args : Array Value) (w : World) : (callFunc q0m.f args).run Try.prog w = .ok (.enter q0m.f args) w := by kernel_rfl
def q2g : Ann := ⟨[0, 2, 4], []⟩
def q2c : Tree := (.amb (.tok 0) .false (.leaf [(.lit (.r []))]) (.need [(.le (.add (.lit (.i 0)) (.len (.tok 0))) (.lit (.i 5864062014634)))] (.leaf [(.app (.row []) (.tok 0))])))
set_option maxRecDepth 100000 in
theorem q3v : ∀ cd, Try.f40.body = some cd → treeOf Try.prog [] q2g q0m Try.f40 cd = q2c := by
  intro cd h
  injection h with h
  subst h
  kernel_rfl
theorem fok_slices_Clone_Symbol {g : List D → Option (List D)}  (h : ∀ ds outs, WfA q0m.ars ds → g ds = some outs → q2c.go (tblS []) (fun o => o = outs) ds fun _ _ => False) : FOk q0m g :=
  q0a q2g Try.f40 _ .nil rfl rfl q3t (by decide) fun ds outs hw hg => by rw [q3v  _ rfl]; exact h ds outs hw hg

def q0r : Ct := ⟨41, [.val (.row 37)], [(.row 37, true)], [], none⟩
theorem enter_slices_Clone_Undo (args : Array Value) (w : World) : (callFunc q0r.f args).run Try.prog w = .ok (.enter q0r.f args) w := by kernel_rfl
def q34 : Ann := ⟨[0, 2, 4], []⟩
def q2q : Tree := (.amb (.tok 0) .false (.leaf [(.lit (.r []))]) (.need [(.le (.add (.lit (.i 0)) (.len (.tok 0))) (.lit (.i 5864062014634)))] (.leaf [(.app (.row []) (.tok 0))])))
set_option maxRecDepth 100000 in
theorem code_slices_Clone_Undo : ∀ cd, Try.f41.body = some cd → treeOf Try.prog [] q34 q0r Try.f41 cd = q2q := by
  intro cd h
  injection h with h
  subst h
  kernel_rfl
theorem fok_slices_Clone_Undo {g : List D → Option (List D)}  (h : ∀ ds outs, WfA q0r.ars ds → g ds = some outs → q2q.go (tblS []) (fun o => o = outs) ds fun _ _ => False) : FOk q0r g :=
  q0a q34 Try.f41 _ .nil rfl rfl enter_slices_Clone_Undo (by decide) fun ds outs hw hg => by rw [code_slices_Clone_Undo  _ rfl]; exact h ds outs hw hg

def q0p : Ct := ⟨42, [.val (.row 63)], [(.row 63, true)], [], none⟩
theorem enter_slices_Clone_Wake (args : Array Value) (w : World) : (callFunc q0p.f args).run Try.prog w = .ok (.enter q0p.f args) w := by kernel_rfl
def q35 : Ann := ⟨[0, 2, 4], []⟩
def q2n : Tree := (.amb (.tok 0) .false (.leaf [(.lit (.r []))]) (.need [(.le (.add (.lit (.i 0)) (.len (.tok 0))) (.lit (.i 3518437208780)))] (.leaf [(.app (.row []) (.tok 0))])))
set_option maxRecDepth 100000 in
theorem code_slices_Clone_Wake : ∀ cd, Try.f42.body = some cd → treeOf Try.prog [] q35 q0p Try.f42 cd = q2n := by
  intro cd h
  injection h with h
  subst h
  kernel_rfl
theorem fok_slices_Clone_Wake {g : List D → Option (List D)}  (h : ∀ ds outs, WfA q0p.ars ds → g ds = some outs → q2n.go (tblS []) (fun o => o = outs) ds fun _ _ => False) : FOk q0p g :=
  q0a q35 Try.f42 _ .nil rfl rfl enter_slices_Clone_Wake (by decide) fun ds outs hw hg => by rw [code_slices_Clone_Wake  _ rfl]; exact h ds outs hw hg

def q1l : Ct := ⟨24, [.val (.st 27)], [(.st 27, true)], [], none⟩
theorem enter_cells_Clone (args : Array Value) (w : World) : (callFunc q1l.f args).run Try.prog w = .ok (.enter q1l.f args) w := by kernel_rfl
def ann_cells_Clone : Ann := ⟨[0, 1, 2], []⟩
def q2v : Tree := (.need [(.ok 0 [(.fld (.tok 0) 0)])] (.need [(.ok 1 [(.fld (.tok 0) 1)])] (.need [(.ok 2 [(.fld (.tok 0) 2)])] (.need [(.ok 3 [(.fld (.tok 0) 3)])] (.leaf [(.set (.set (.set (.set (.tok 0) 0 (.call 0 0 [(.fld (.tok 0) 0)])) 1 (.call 1 0 [(.fld (.tok 0) 1)])) 2 (.call 2 0 [(.fld (.tok 0) 2)])) 3 (.call 3 0 [(.fld (.tok 0) 3)]))])))))
set_option maxRecDepth 100000 in
theorem code_cells_Clone (g0 g1 g2 g3 : List D → Option (List D)) : ∀ cd, Try.f24.body = some cd → treeOf Try.prog [(q0q, g0), (q0m, g1), (q0r, g2), (q0p, g3)] ann_cells_Clone q1l Try.f24 cd = q2v := by
  intro cd h
  injection h with h
  subst h
  kernel_rfl
theorem fok_cells_Clone {g0 g1 g2 g3 : List D → Option (List D)} {g : List D → Option (List D)} (h0 : FOk q0q g0) (h1 : FOk q0m g1) (h2 : FOk q0r g2) (h3 : FOk q0p g3) (h : ∀ ds outs, WfA q1l.ars ds → g ds = some outs → q2v.go (tblS [(q0q, g0), (q0m, g1), (q0r, g2), (q0p, g3)]) (fun o => o = outs) ds fun _ _ => False) : FOk q1l g :=
  q0a ann_cells_Clone Try.f24 _ (.cons h0 (.cons h1 (.cons h2 (.cons h3 .nil)))) rfl rfl enter_cells_Clone (by decide) fun ds outs hw hg => by rw [code_cells_Clone g0 g1 g2 g3 _ rfl]; exact h ds outs hw hg

def q1k : Ct := ⟨79, [.val (.st 27), .val (.st 30)], [(.st 30, false)], [], none⟩
theorem enter_cells_Deref (args : Array Value) (w : World) : (callFunc q1k.f args).run Try.prog w = .ok (.enter q1k.f args) w := by kernel_rfl
def ann_cells_Deref : Ann := ⟨[0, 1, 2, 3, 4, 8, 12, 13, 14, 34], [(4, ⟨[(13, .int .i64, false)], [3], [14, 15, 16, 17, 18, 19, 20, 21, 22, 23, 24, 25, 26, 27, 28, 29, 30, 31, 32, 33, 34, 35, 36, 37, 38, 39, 40, 41], []⟩)]⟩
def q30 : Tree := (.need [(.ok 0 [(.tok 0), (.tok 1)])] (.br (.not (.call 0 0 [(.tok 0), (.tok 1)])) (.leaf [(.lit (.a [(.i 0), (.i 0)]))]) (.loop 4 2 [(.lit (.i 0)), (.tok 1)] (.br (.lt (.tok 2) (.len (.fld (.tok 0) 0))) (.need [(.imp (.not (.or (.not (.eq (.fld (.tok 3) 0) (.lit (.i 0)))) (.lt (.call 1 0 [(.tok 0), (.fld (.tok 3) 1)]) (.lit (.i 0))))) (.le (.lit (.i 0)) (.fld (.tok 3) 1))), (.imp (.not (.or (.not (.eq (.fld (.tok 3) 0) (.lit (.i 0)))) (.lt (.call 1 0 [(.tok 0), (.fld (.tok 3) 1)]) (.lit (.i 0))))) (.lt (.fld (.tok 3) 1) (.len (.fld (.tok 0) 0)))), (.imp (.not (.or (.not (.eq (.fld (.tok 3) 0) (.lit (.i 0)))) (.lt (.call 1 0 [(.tok 0), (.fld (.tok 3) 1)]) (.lit (.i 0))))) (.le (.lit (.i 0)) (.fld (.tok 3) 1))), (.imp (.not (.or (.not (.eq (.fld (.tok 3) 0) (.lit (.i 0)))) (.lt (.call 1 0 [(.tok 0), (.fld (.tok 3) 1)]) (.lit (.i 0))))) (.lt (.fld (.tok 3) 1) (.len (.fld (.tok 0) 0)))), (.imp (.not (.not (.eq (.fld (.tok 3) 0) (.lit (.i 0))))) (.ok 1 [(.tok 0), (.fld (.tok 3) 1)]))] (.br (.or (.or (.not (.eq (.fld (.tok 3) 0) (.lit (.i 0)))) (.lt (.call 1 0 [(.tok 0), (.fld (.tok 3) 1)]) (.lit (.i 0)))) (.eq (.get (.fld (.tok 0) 0) (.fld (.tok 3) 1)) (.tok 3))) (.leaf [(.tok 3)]) (.need [(.le (.lit (.i 0)) (.fld (.tok 3) 1)), (.lt (.fld (.tok 3) 1) (.len (.fld (.tok 0) 0)))] (.need [(.rng .i64 (.add (.tok 2) (.lit (.i 1))))] (.back 4 [(.add (.tok 2) (.lit (.i 1))), (.get (.fld (.tok 0) 0) (.fld (.tok 3) 1))]))))) (.leaf [(.tok 3)])))))
set_option maxRecDepth 100000 in
theorem code_cells_Deref (g0 g1 : List D → Option (List D)) : ∀ cd, Try.f79.body = some cd → treeOf Try.prog [(q05, g0), (q09, g1)] ann_cells_Deref q1k Try.f79 cd = q30 := by
  intro cd h
  injection h with h
  subst h
  kernel_rfl
theorem fok_cells_Deref {g0 g1 : List D → Option (List D)} {g : List D → Option (List D)} (h0 : FOk q05 g0) (h1 : FOk q09 g1) (h : ∀ ds outs, WfA q1k.ars ds → g ds = some outs → q30.go (tblS [(q05, g0), (q09, g1)]) (fun o => o = outs) ds fun _ _ => False) : FOk q1k g :=
  q0a ann_cells_Deref Try.f79 _ (.cons h0 (.cons h1 .nil)) rfl rfl enter_cells_Deref (by decide) fun ds outs hw hg => by rw [code_cells_Deref g0 g1 _ rfl]; exact h ds outs hw hg

def q1u : Ct := ⟨80, [.val (.int .i64)], [(.st 80, false)], [], none⟩
theorem enter_term_Int (args : Array Value) (w : World) : (callFunc q1u.f args).run Try.prog w = .ok (.enter q1u.f args) w := by kernel_rfl
def ann_term_Int : Ann := ⟨[0, 2], []⟩
def tree_term_Int : Tree := (.leaf [(.set (.set (.lit (.a [(.i 0), (.i 0), (.s ⟨#[]⟩), (.r [])])) 0 (.lit (.i 1))) 1 (.tok 0))])
set_option maxRecDepth 100000 in
theorem code_term_Int : ∀ cd, Try.f80.body = some cd → treeOf Try.prog [] ann_term_Int q1u Try.f80 cd = tree_term_Int := by
  intro cd h
  injection h with h
  subst h
  kernel_rfl
theorem fok_term_Int {g : List D → Option (List D)}  (h : ∀ ds outs, WfA q1u.ars ds → g ds = some outs → tree_term_Int.go (tblS []) (fun o => o = outs) ds fun _ _ => False) : FOk q1u g :=
  q0a ann_term_Int Try.f80 _ .nil rfl rfl enter_term_Int (by decide) fun ds outs hw hg => by rw [code_term_Int  _ rfl]; exact h ds outs hw hg

def q0x : Ct := ⟨78, [.val (.st 30), .ref (.int .i64), .rref (.st 27), .cell 111 4], [(.st 80, false)], [(.cell 3, .fn 78 [1, 2, 3])], none⟩
theorem enter_cells_Get_1 (args : Array Value) (w : World) : (callFunc q0x.f args).run Try.prog w = .ok (.enter q0x.f args) w := by kernel_rfl
def q18 : Ct := ⟨70, [.val (.str)], [(.st 80, false)], [], none⟩
theorem enter_term_Atom (args : Array Value) (w : World) : (callFunc q18.f args).run Try.prog w = .ok (.enter q18.f args) w := by kernel_rfl
def ann_cells_Get_1 : Ann := ⟨[0, 1, 2, 3, 4, 5, 6, 7, 8, 12, 17, 24, 43, 99], [(13, ⟨[(8, .int .i64, false)], [1, 7], [83, 84, 85, 86, 87, 88, 89, 90, 91, 92, 93, 94, 95, 96, 97, 98, 99, 102, 103, 104, 105, 106, 107, 108, 109, 110, 111, 112, 113, 100, 101], []⟩)]⟩
def q2z : Tree := (.need [(.rng .i64 (.sub (.tok 1) (.lit (.i 1))))] (.br (.lt (.sub (.tok 1) (.lit (.i 1))) (.lit (.i 0))) (.leaf [(.lit (.a [(.i 0), (.i 0), (.s ⟨#[]⟩), (.r [])])), (.sub (.tok 1) (.lit (.i 1)))]) (.need [(.ok 1 [(.tok 2), (.tok 0)])] (.br (.eq (.fld (.call 1 0 [(.tok 2), (.tok 0)]) 0) (.lit (.i 1))) (.need [(.ok 2 [(.fld (.call 1 0 [(.tok 2), (.tok 0)]) 1)])] (.leaf [(.call 2 0 [(.fld (.call 1 0 [(.tok 2), (.tok 0)]) 1)]), (.sub (.tok 1) (.lit (.i 1)))])) (.need [(.imp (.eq (.fld (.call 1 0 [(.tok 2), (.tok 0)]) 0) (.lit (.i 2))) (.ok 3 [(.tok 2), (.fld (.call 1 0 [(.tok 2), (.tok 0)]) 1)]))] (.br (.and (.eq (.fld (.call 1 0 [(.tok 2), (.tok 0)]) 0) (.lit (.i 2))) (.le (.lit (.i 0)) (.call 3 0 [(.tok 2), (.fld (.call 1 0 [(.tok 2), (.tok 0)]) 1)]))) (.need [(.le (.lit (.i 0)) (.fld (.call 1 0 [(.tok 2), (.tok 0)]) 1)), (.lt (.fld (.call 1 0 [(.tok 2), (.tok 0)]) 1) (.len (.fld (.tok 2) 1))), (.ok 4 [(.fld (.get (.fld (.tok 2) 1) (.fld (.call 1 0 [(.tok 2), (.tok 0)]) 1)) 0)])] (.leaf [(.call 4 0 [(.fld (.get (.fld (.tok 2) 1) (.fld (.call 1 0 [(.tok 2), (.tok 0)]) 1)) 0)]), (.sub (.tok 1) (.lit (.i 1)))])) (.need [(.imp (.and (.eq (.fld (.call 1 0 [(.tok 2), (.tok 0)]) 0) (.lit (.i 3))) (.eq (.call 5 0 [(.tok 2), (.fld (.call 1 0 [(.tok 2), (.tok 0)]) 1)]) (.lit (.i 4)))) (.ok 3 [(.tok 2), (.fld (.get (.fld (.tok 2) 0) (.fld (.call 1 0 [(.tok 2), (.tok 0)]) 1)) 1)])), (.imp (.and (.eq (.fld (.call 1 0 [(.tok 2), (.tok 0)]) 0) (.lit (.i 3))) (.eq (.call 5 0 [(.tok 2), (.fld (.call 1 0 [(.tok 2), (.tok 0)]) 1)]) (.lit (.i 4)))) (.le (.lit (.i 0)) (.fld (.call 1 0 [(.tok 2), (.tok 0)]) 1))), (.imp (.and (.eq (.fld (.call 1 0 [(.tok 2), (.tok 0)]) 0) (.lit (.i 3))) (.eq (.call 5 0 [(.tok 2), (.fld (.call 1 0 [(.tok 2), (.tok 0)]) 1)]) (.lit (.i 4)))) (.lt (.fld (.call 1 0 [(.tok 2), (.tok 0)]) 1) (.len (.fld (.tok 2) 0)))), (.imp (.eq (.fld (.call 1 0 [(.tok 2), (.tok 0)]) 0) (.lit (.i 3))) (.ok 5 [(.tok 2), (.fld (.call 1 0 [(.tok 2), (.tok 0)]) 1)]))] (.br (.and (.and (.eq (.fld (.call 1 0 [(.tok 2), (.tok 0)]) 0) (.lit (.i 3))) (.eq (.call 5 0 [(.tok 2), (.fld (.call 1 0 [(.tok 2), (.tok 0)]) 1)]) (.lit (.i 4)))) (.le (.lit (.i 0)) (.call 3 0 [(.tok 2), (.fld (.get (.fld (.tok 2) 0) (.fld (.call 1 0 [(.tok 2), (.tok 0)]) 1)) 1)]))) (.need [(.le (.lit (.i 0)) (.fld (.get (.fld (.tok 2) 0) (.fld (.call 1 0 [(.tok 2), (.tok 0)]) 1)) 1)), (.lt (.fld (.get (.fld (.tok 2) 0) (.fld (.call 1 0 [(.tok 2), (.tok 0)]) 1)) 1) (.len (.fld (.tok 2) 1))), (.le (.lit (.i 0)) (.fld (.call 1 0 [(.tok 2), (.tok 0)]) 1)), (.lt (.fld (.call 1 0 [(.tok 2), (.tok 0)]) 1) (.len (.fld (.tok 2) 0)))] (.need [(.rng .i64 (.add (.fld (.call 1 0 [(.tok 2), (.tok 0)]) 1) (.lit (.i 1))))] (.loop 13 3 [(.add (.fld (.call 1 0 [(.tok 2), (.tok 0)]) 1) (.lit (.i 1))), (.sub (.tok 1) (.lit (.i 1))), (.set (.set (.lit (.a [(.i 0), (.i 0), (.s ⟨#[]⟩), (.r [])])) 0 (.lit (.i 3))) 2 (.fld (.get (.fld (.tok 2) 1) (.fld (.get (.fld (.tok 2) 0) (.fld (.call 1 0 [(.tok 2), (.tok 0)]) 1)) 1)) 0))] (.need [(.rng .i64 (.add (.fld (.call 1 0 [(.tok 2), (.tok 0)]) 1) (.fld (.get (.fld (.tok 2) 1) (.fld (.get (.fld (.tok 2) 0) (.fld (.call 1 0 [(.tok 2), (.tok 0)]) 1)) 1)) 1))), (.imp (.le (.tok 3) (.add (.fld (.call 1 0 [(.tok 2), (.tok 0)]) 1) (.fld (.get (.fld (.tok 2) 1) (.fld (.get (.fld (.tok 2) 0) (.fld (.call 1 0 [(.tok 2), (.tok 0)]) 1)) 1)) 1))) (.ok 5 [(.tok 2), (.tok 3)]))] (.br (.and (.and (.le (.tok 3) (.add (.fld (.call 1 0 [(.tok 2), (.tok 0)]) 1) (.fld (.get (.fld (.tok 2) 1) (.fld (.get (.fld (.tok 2) 0) (.fld (.call 1 0 [(.tok 2), (.tok 0)]) 1)) 1)) 1))) (.le (.lit (.i 0)) (.call 5 0 [(.tok 2), (.tok 3)]))) (.le (.lit (.i 0)) (.tok 4))) (.need [(.le (.add (.len (.fld (.tok 5) 3)) (.lit (.i 1))) (.lit (.i 2513169434843))), (.ok 0 [(.get (.fld (.tok 2) 0) (.tok 3)), (.tok 4), (.tok 2)]), (.le (.lit (.i 0)) (.tok 3)), (.lt (.tok 3) (.len (.fld (.tok 2) 0)))] (.need [(.rng .i64 (.add (.tok 3) (.lit (.i 1))))] (.back 13 [(.add (.tok 3) (.lit (.i 1))), (.call 0 1 [(.get (.fld (.tok 2) 0) (.tok 3)), (.tok 4), (.tok 2)]), (.set (.tok 5) 3 (.app (.fld (.tok 5) 3) (.row [(.call 0 0 [(.get (.fld (.tok 2) 0) (.tok 3)), (.tok 4), (.tok 2)])])))]))) (.leaf [(.tok 5), (.tok 4)])))))) (.leaf [(.set (.set (.lit (.a [(.i 0), (.i 0), (.s ⟨#[]⟩), (.r [])])) 0 (.lit (.i 0))) 1 (.fld (.call 1 0 [(.tok 2), (.tok 0)]) 1)), (.sub (.tok 1) (.lit (.i 1)))])))))))))
set_option maxRecDepth 100000 in
theorem code_cells_Get_1 (g0 g1 g2 g3 g4 g5 : List D → Option (List D)) : ∀ cd, Try.f78.body = some cd → treeOf Try.prog [(q0x, g0), (q1k, g1), (q1u, g2), (q0f, g3), (q18, g4), (q09, g5)] ann_cells_Get_1 q0x Try.f78 cd = q2z := by
  intro cd h
  injection h with h
  subst h
  kernel_rfl
theorem fok_cells_Get_1 {g0 g1 g2 g3 g4 g5 : List D → Option (List D)} {g : List D → Option (List D)} (h0 : FOk q0x g0) (h1 : FOk q1k g1) (h2 : FOk q1u g2) (h3 : FOk q0f g3) (h4 : FOk q18 g4) (h5 : FOk q09 g5) (h : ∀ ds outs, WfA q0x.ars ds → g ds = some outs → q2z.go (tblS [(q0x, g0), (q1k, g1), (q1u, g2), (q0f, g3), (q18, g4), (q09, g5)]) (fun o => o = outs) ds fun _ _ => False) : FOk q0x g :=
  q0a ann_cells_Get_1 Try.f78 _ (.cons h0 (.cons h1 (.cons h2 (.cons h3 (.cons h4 (.cons h5 .nil)))))) rfl rfl enter_cells_Get_1 (by decide) fun ds outs hw hg => by rw [code_cells_Get_1 g0 g1 g2 g3 g4 g5 _ rfl]; exact h ds outs hw hg

def q1q : Ct := ⟨67, [.val (.st 27), .val (.st 30)], [(.st 80, false), (.int .i64, false)], [], none⟩
theorem enter_cells_Get (args : Array Value) (w : World) : (callFunc q1q.f args).run Try.prog w = .ok (.enter q1q.f args) w := by kernel_rfl
def ann_cells_Get : Ann := ⟨[0, 1, 2, 3, 4, 5, 6, 7, 11, 18], []⟩
def q3m : Tree := (.need [(.ok 1 [(.tok 0), (.tok 1)])] (.br (.not (.call 1 0 [(.tok 0), (.tok 1)])) (.leaf [(.lit (.a [(.i 0), (.i 0), (.s ⟨#[]⟩), (.r [])])), (.lit (.i 1))]) (.need [(.ok 0 [(.tok 1), (.lit (.i 2000)), (.tok 0)])] (.br (.lt (.call 0 1 [(.tok 1), (.lit (.i 2000)), (.tok 0)]) (.lit (.i 0))) (.leaf [(.lit (.a [(.i 0), (.i 0), (.s ⟨#[]⟩), (.r [])])), (.lit (.i 2))]) (.leaf [(.call 0 0 [(.tok 1), (.lit (.i 2000)), (.tok 0)]), (.lit (.i 0))])))))
set_option maxRecDepth 100000 in
theorem code_cells_Get (g0 g1 : List D → Option (List D)) : ∀ cd, Try.f67.body = some cd → treeOf Try.prog [(q0x, g0), (q05, g1)] ann_cells_Get q1q Try.f67 cd = q3m := by
  intro cd h
  injection h with h
  subst h
  kernel_rfl
theorem fok_cells_Get {g0 g1 : List D → Option (List D)} {g : List D → Option (List D)} (h0 : FOk q0x g0) (h1 : FOk q05 g1) (h : ∀ ds outs, WfA q1q.ars ds → g ds = some outs → q3m.go (tblS [(q0x, g0), (q05, g1)]) (fun o => o = outs) ds fun _ _ => False) : FOk q1q g :=
  q0a ann_cells_Get Try.f67 _ (.cons h0 (.cons h1 .nil)) rfl rfl enter_cells_Get (by decide) fun ds outs hw hg => by rw [code_cells_Get g0 g1 _ rfl]; exact h ds outs hw hg

def q0y : Ct := ⟨81, [.val (.st 80), .ref (.int .i64), .cell 114 3], [], [(.cell 2, .fn 81 [1, 2])], none⟩
theorem enter_term_Size_1 (args : Array Value) (w : World) : (callFunc q0y.f args).run Try.prog w = .ok (.enter q0y.f args) w := by kernel_rfl
def ann_term_Size_1 : Ann := ⟨[0, 1, 2, 3, 4, 15], [(3, ⟨[(4, .int .i64, false)], [1], [7, 8, 9, 10, 11, 12, 13, 14, 15, 18, 19, 20, 21, 22, 23, 24, 16, 17], []⟩)]⟩
def q2x : Tree := (.need [(.rng .i64 (.sub (.tok 1) (.lit (.i 1))))] (.loop 3 2 [(.lit (.i 0)), (.sub (.tok 1) (.lit (.i 1)))] (.br (.and (.lt (.tok 2) (.len (.fld (.tok 0) 3))) (.lt (.lit (.i 0)) (.tok 3))) (.need [(.ok 0 [(.get (.fld (.tok 0) 3) (.tok 2)), (.tok 3)]), (.le (.lit (.i 0)) (.tok 2)), (.lt (.tok 2) (.len (.fld (.tok 0) 3)))] (.need [(.rng .i64 (.add (.tok 2) (.lit (.i 1))))] (.back 3 [(.add (.tok 2) (.lit (.i 1))), (.call 0 0 [(.get (.fld (.tok 0) 3) (.tok 2)), (.tok 3)])]))) (.leaf [(.tok 3)]))))
set_option maxRecDepth 100000 in
theorem code_term_Size_1 (g0 : List D → Option (List D)) : ∀ cd, Try.f81.body = some cd → treeOf Try.prog [(q0y, g0)] ann_term_Size_1 q0y Try.f81 cd = q2x := by
  intro cd h
  injection h with h
  subst h
  kernel_rfl
theorem fok_term_Size_1 {g0 : List D → Option (List D)} {g : List D → Option (List D)} (h0 : FOk q0y g0) (h : ∀ ds outs, WfA q0y.ars ds → g ds = some outs → q2x.go (tblS [(q0y, g0)]) (fun o => o = outs) ds fun _ _ => False) : FOk q0y g :=
  q0a ann_term_Size_1 Try.f81 _ (.cons h0 .nil) rfl rfl enter_term_Size_1 (by decide) fun ds outs hw hg => by rw [code_term_Size_1 g0 _ rfl]; exact h ds outs hw hg

def q0v : Ct := ⟨68, [.val (.st 80)], [(.int .i64, false)], [], none⟩
theorem enter_term_Size (args : Array Value) (w : World) : (callFunc q0v.f args).run Try.prog w = .ok (.enter q0v.f args) w := by kernel_rfl
def ann_term_Size : Ann := ⟨[0, 1, 2, 3, 4], []⟩
def q3p : Tree := (.need [(.ok 0 [(.tok 0), (.lit (.i 2001))])] (.need [(.rng .i64 (.sub (.lit (.i 2001)) (.call 0 0 [(.tok 0), (.lit (.i 2001))])))] (.leaf [(.sub (.lit (.i 2001)) (.call 0 0 [(.tok 0), (.lit (.i 2001))]))])))
set_option maxRecDepth 100000 in
theorem code_term_Size (g0 : List D → Option (List D)) : ∀ cd, Try.f68.body = some cd → treeOf Try.prog [(q0y, g0)] ann_term_Size q0v Try.f68 cd = q3p := by
  intro cd h
  injection h with h
  subst h
  kernel_rfl
theorem fok_term_Size {g0 : List D → Option (List D)} {g : List D → Option (List D)} (h0 : FOk q0y g0) (h : ∀ ds outs, WfA q0v.ars ds → g ds = some outs → q3p.go (tblS [(q0y, g0)]) (fun o => o = outs) ds fun _ _ => False) : FOk q0v g :=
  q0a ann_term_Size Try.f68 _ (.cons h0 .nil) rfl rfl enter_term_Size (by decide) fun ds outs hw hg => by rw [code_term_Size g0 _ rfl]; exact h ds outs hw hg

def q0j : Ct := ⟨82, [.val (.st 80)], [(.bool, false)], [], none⟩
theorem enter_term_fits (args : Array Value) (w : World) : (callFunc q0j.f args).run Try.prog w = .ok (.enter q0j.f args) w := by kernel_rfl
def ann_term_fits : Ann := ⟨[0, 1, 2, 3, 4, 6, 7, 28, 39, 56, 86], [(12, ⟨[(3, .bool, false), (4, .int .i64, false)], [], [79, 80, 81, 82, 83, 84, 85, 86, 89, 90, 91, 92, 93, 94, 87, 88], []⟩)]⟩
def q3k : Tree := (.br (.eq (.fld (.tok 0) 0) (.lit (.i 0))) (.loop 12 1 [(.and (.and (.and (.le (.lit (.i 0)) (.fld (.tok 0) 1)) (.le (.fld (.tok 0) 1) (.lit (.i 1099511627776)))) (.eq (.fld (.tok 0) 2) (.lit (.s ⟨#[]⟩)))) (.eq (.len (.fld (.tok 0) 3)) (.lit (.i 0)))), (.lit (.i 0))] (.br (.and (.lt (.tok 2) (.len (.fld (.tok 0) 3))) (.tok 1)) (.need [(.le (.lit (.i 0)) (.tok 2)), (.lt (.tok 2) (.len (.fld (.tok 0) 3))), (.ok 0 [(.get (.fld (.tok 0) 3) (.tok 2))])] (.need [(.rng .i64 (.add (.tok 2) (.lit (.i 1))))] (.back 12 [(.call 0 0 [(.get (.fld (.tok 0) 3) (.tok 2))]), (.add (.tok 2) (.lit (.i 1)))]))) (.leaf [(.tok 1)]))) (.br (.eq (.fld (.tok 0) 0) (.lit (.i 1))) (.loop 12 1 [(.and (.eq (.fld (.tok 0) 2) (.lit (.s ⟨#[]⟩))) (.eq (.len (.fld (.tok 0) 3)) (.lit (.i 0)))), (.lit (.i 0))] (.br (.and (.lt (.tok 2) (.len (.fld (.tok 0) 3))) (.tok 1)) (.need [(.le (.lit (.i 0)) (.tok 2)), (.lt (.tok 2) (.len (.fld (.tok 0) 3))), (.ok 0 [(.get (.fld (.tok 0) 3) (.tok 2))])] (.need [(.rng .i64 (.add (.tok 2) (.lit (.i 1))))] (.back 12 [(.call 0 0 [(.get (.fld (.tok 0) 3) (.tok 2))]), (.add (.tok 2) (.lit (.i 1)))]))) (.leaf [(.tok 1)]))) (.br (.eq (.fld (.tok 0) 0) (.lit (.i 2))) (.loop 12 1 [(.and (.and (.eq (.fld (.tok 0) 1) (.lit (.i 0))) (.le (.slen (.fld (.tok 0) 2)) (.lit (.i 100)))) (.eq (.len (.fld (.tok 0) 3)) (.lit (.i 0)))), (.lit (.i 0))] (.br (.and (.lt (.tok 2) (.len (.fld (.tok 0) 3))) (.tok 1)) (.need [(.le (.lit (.i 0)) (.tok 2)), (.lt (.tok 2) (.len (.fld (.tok 0) 3))), (.ok 0 [(.get (.fld (.tok 0) 3) (.tok 2))])] (.need [(.rng .i64 (.add (.tok 2) (.lit (.i 1))))] (.back 12 [(.call 0 0 [(.get (.fld (.tok 0) 3) (.tok 2))]), (.add (.tok 2) (.lit (.i 1)))]))) (.leaf [(.tok 1)]))) (.br (.eq (.fld (.tok 0) 0) (.lit (.i 3))) (.loop 12 1 [(.and (.and (.and (.eq (.fld (.tok 0) 1) (.lit (.i 0))) (.le (.slen (.fld (.tok 0) 2)) (.lit (.i 100)))) (.lt (.lit (.i 0)) (.len (.fld (.tok 0) 3)))) (.le (.len (.fld (.tok 0) 3)) (.lit (.i 8)))), (.lit (.i 0))] (.br (.and (.lt (.tok 2) (.len (.fld (.tok 0) 3))) (.tok 1)) (.need [(.le (.lit (.i 0)) (.tok 2)), (.lt (.tok 2) (.len (.fld (.tok 0) 3))), (.ok 0 [(.get (.fld (.tok 0) 3) (.tok 2))])] (.need [(.rng .i64 (.add (.tok 2) (.lit (.i 1))))] (.back 12 [(.call 0 0 [(.get (.fld (.tok 0) 3) (.tok 2))]), (.add (.tok 2) (.lit (.i 1)))]))) (.leaf [(.tok 1)]))) (.loop 12 1 [(.lit (.b .false)), (.lit (.i 0))] (.br (.and (.lt (.tok 2) (.len (.fld (.tok 0) 3))) (.tok 1)) (.need [(.le (.lit (.i 0)) (.tok 2)), (.lt (.tok 2) (.len (.fld (.tok 0) 3))), (.ok 0 [(.get (.fld (.tok 0) 3) (.tok 2))])] (.need [(.rng .i64 (.add (.tok 2) (.lit (.i 1))))] (.back 12 [(.call 0 0 [(.get (.fld (.tok 0) 3) (.tok 2))]), (.add (.tok 2) (.lit (.i 1)))]))) (.leaf [(.tok 1)])))))))
set_option maxRecDepth 100000 in
theorem code_term_fits (g0 : List D → Option (List D)) : ∀ cd, Try.f82.body = some cd → treeOf Try.prog [(q0j, g0)] ann_term_fits q0j Try.f82 cd = q3k := by
  intro cd h
  injection h with h
  subst h
  kernel_rfl
theorem fok_term_fits {g0 : List D → Option (List D)} {g : List D → Option (List D)} (h0 : FOk q0j g0) (h : ∀ ds outs, WfA q0j.ars ds → g ds = some outs → q3k.go (tblS [(q0j, g0)]) (fun o => o = outs) ds fun _ _ => False) : FOk q0j g :=
  q0a ann_term_fits Try.f82 _ (.cons h0 .nil) rfl rfl enter_term_fits (by decide) fun ds outs hw hg => by rw [code_term_fits g0 _ rfl]; exact h ds outs hw hg

def q19 : Ct := ⟨86, [.val (.st 80)], [(.st 80, false)], [], none⟩
theorem enter_term_Clone_1 (args : Array Value) (w : World) : (callFunc q19.f args).run Try.prog w = .ok (.enter q19.f args) w := by kernel_rfl
def ann_term_Clone_1 : Ann := ⟨[0, 1, 2], []⟩
def q2j : Tree := (.leaf [(.tok 0)])
set_option maxRecDepth 100000 in
theorem code_term_Clone_1 : ∀ cd, Try.f86.body = some cd → treeOf Try.prog [] ann_term_Clone_1 q19 Try.f86 cd = q2j := by
  intro cd h
  injection h with h
  subst h
  kernel_rfl
theorem fok_term_Clone_1 {g : List D → Option (List D)}  (h : ∀ ds outs, WfA q19.ars ds → g ds = some outs → q2j.go (tblS []) (fun o => o = outs) ds fun _ _ => False) : FOk q19 g :=
  q0a ann_term_Clone_1 Try.f86 _ .nil rfl rfl enter_term_Clone_1 (by decide) fun ds outs hw hg => by rw [code_term_Clone_1  _ rfl]; exact h ds outs hw hg

def q14 : Ct := ⟨84, [.val (.st 80), .fn 86 []], [(.st 80, false)], [], none⟩
theorem enter_term_apply (args : Array Value) (w : World) : (callFunc q14.f args).run Try.prog w = .ok (.enter q14.f args) w := by kernel_rfl
def ann_term_apply : Ann := ⟨[0, 1, 2, 4, 5, 7, 10, 22, 23, 24, 25], [(5, ⟨[(24, .int .i64, false)], [5], [25, 26, 27, 7, 28, 29, 30, 31, 32, 33, 34, 35, 36], []⟩)]⟩
def q39 : Tree := (.br (.eq (.fld (.tok 0) 0) (.lit (.i 0))) (.need [(.ok 0 [(.tok 0)])] (.leaf [(.call 0 0 [(.tok 0)])])) (.loop 5 1 [(.lit (.i 0)), (.set (.set (.set (.lit (.a [(.i 0), (.i 0), (.s ⟨#[]⟩), (.r [])])) 0 (.fld (.tok 0) 0)) 1 (.fld (.tok 0) 1)) 2 (.fld (.tok 0) 2))] (.br (.lt (.tok 1) (.len (.fld (.tok 0) 3))) (.need [(.le (.lit (.i 0)) (.tok 1)), (.lt (.tok 1) (.len (.fld (.tok 0) 3)))] (.need [(.le (.add (.len (.fld (.tok 2) 3)) (.lit (.i 1))) (.lit (.i 2513169434843))), (.ok 1 [(.get (.fld (.tok 0) 3) (.tok 1))])] (.need [(.rng .i64 (.add (.tok 1) (.lit (.i 1))))] (.back 5 [(.add (.tok 1) (.lit (.i 1))), (.set (.tok 2) 3 (.app (.fld (.tok 2) 3) (.row [(.call 1 0 [(.get (.fld (.tok 0) 3) (.tok 1))])])))])))) (.leaf [(.tok 2)]))))
set_option maxRecDepth 100000 in
theorem code_term_apply (g0 g1 : List D → Option (List D)) : ∀ cd, Try.f84.body = some cd → treeOf Try.prog [(q19, g0), (q14, g1)] ann_term_apply q14 Try.f84 cd = q39 := by
  intro cd h
  injection h with h
  subst h
  kernel_rfl
theorem fok_term_apply {g0 g1 : List D → Option (List D)} {g : List D → Option (List D)} (h0 : FOk q19 g0) (h1 : FOk q14 g1) (h : ∀ ds outs, WfA q14.ars ds → g ds = some outs → q39.go (tblS [(q19, g0), (q14, g1)]) (fun o => o = outs) ds fun _ _ => False) : FOk q14 g :=
  q0a ann_term_apply Try.f84 _ (.cons h0 (.cons h1 .nil)) rfl rfl enter_term_apply (by decide) fun ds outs hw hg => by rw [code_term_apply g0 g1 _ rfl]; exact h ds outs hw hg

def q13 : Ct := ⟨83, [.val (.st 80)], [(.st 80, false)], [], none⟩
theorem enter_term_Clone (args : Array Value) (w : World) : (callFunc q13.f args).run Try.prog w = .ok (.enter q13.f args) w := by kernel_rfl
def q0h : Ct := ⟨71, [.val (.st 80)], [(.bool, false)], [], none⟩
theorem enter_term_Valid (args : Array Value) (w : World) : (callFunc q0h.f args).run Try.prog w = .ok (.enter q0h.f args) w := by kernel_rfl
def ann_term_Clone : Ann := ⟨[0, 1, 2, 5], []⟩
def q3c : Tree := (.need [(.ok 0 [(.tok 0)])] (.br (.not (.call 0 0 [(.tok 0)])) (.leaf [(.lit (.a [(.i 0), (.i 0), (.s ⟨#[]⟩), (.r [])]))]) (.need [(.ok 1 [(.tok 0)])] (.leaf [(.call 1 0 [(.tok 0)])]))))
set_option maxRecDepth 100000 in
theorem code_term_Clone (g0 g1 : List D → Option (List D)) : ∀ cd, Try.f83.body = some cd → treeOf Try.prog [(q0h, g0), (q14, g1)] ann_term_Clone q13 Try.f83 cd = q3c := by
  intro cd h
  injection h with h
  subst h
  kernel_rfl
theorem fok_term_Clone {g0 g1 : List D → Option (List D)} {g : List D → Option (List D)} (h0 : FOk q0h g0) (h1 : FOk q14 g1) (h : ∀ ds outs, WfA q13.ars ds → g ds = some outs → q3c.go (tblS [(q0h, g0), (q14, g1)]) (fun o => o = outs) ds fun _ _ => False) : FOk q13 g :=
  q0a ann_term_Clone Try.f83 _ (.cons h0 (.cons h1 .nil)) rfl rfl enter_term_Clone (by decide) fun ds outs hw hg => by rw [code_term_Clone g0 g1 _ rfl]; exact h ds outs hw hg

def ann_term_Valid : Ann := ⟨[0, 1, 2], []⟩
def q3b : Tree := (.need [(.ok 0 [(.tok 0)]), (.imp (.le (.call 0 0 [(.tok 0)]) (.lit (.i 2000))) (.ok 1 [(.tok 0)]))] (.leaf [(.and (.le (.call 0 0 [(.tok 0)]) (.lit (.i 2000))) (.call 1 0 [(.tok 0)]))]))
set_option maxRecDepth 100000 in
theorem code_term_Valid (g0 g1 : List D → Option (List D)) : ∀ cd, Try.f71.body = some cd → treeOf Try.prog [(q0v, g0), (q0j, g1)] ann_term_Valid q0h Try.f71 cd = q3b := by
  intro cd h
  injection h with h
  subst h
  kernel_rfl
theorem fok_term_Valid {g0 g1 : List D → Option (List D)} {g : List D → Option (List D)} (h0 : FOk q0v g0) (h1 : FOk q0j g1) (h : ∀ ds outs, WfA q0h.ars ds → g ds = some outs → q3b.go (tblS [(q0v, g0), (q0j, g1)]) (fun o => o = outs) ds fun _ _ => False) : FOk q0h g :=
  q0a ann_term_Valid Try.f71 _ (.cons h0 (.cons h1 .nil)) rfl rfl enter_term_Valid (by decide) fun ds outs hw hg => by rw [code_term_Valid g0 g1 _ rfl]; exact h ds outs hw hg

def ann_term_Atom : Ann := ⟨[0, 2], []⟩
def q3o : Tree := (.need [(.ok 0 [(.set (.set (.lit (.a [(.i 0), (.i 0), (.s ⟨#[]⟩), (.r [])])) 0 (.lit (.i 2))) 2 (.tok 0))])] (.leaf [(.call 0 0 [(.set (.set (.lit (.a [(.i 0), (.i 0), (.s ⟨#[]⟩), (.r [])])) 0 (.lit (.i 2))) 2 (.tok 0))])]))
set_option maxRecDepth 100000 in
theorem code_term_Atom (g0 : List D → Option (List D)) : ∀ cd, Try.f70.body = some cd → treeOf Try.prog [(q13, g0)] ann_term_Atom q18 Try.f70 cd = q3o := by
  intro cd h
  injection h with h
  subst h
  kernel_rfl
theorem fok_term_Atom {g0 : List D → Option (List D)} {g : List D → Option (List D)} (h0 : FOk q13 g0) (h : ∀ ds outs, WfA q18.ars ds → g ds = some outs → q3o.go (tblS [(q13, g0)]) (fun o => o = outs) ds fun _ _ => False) : FOk q18 g :=
  q0a ann_term_Atom Try.f70 _ (.cons h0 .nil) rfl rfl enter_term_Atom (by decide) fun ds outs hw hg => by rw [code_term_Atom g0 _ rfl]; exact h ds outs hw hg

def q1o : Ct := ⟨69, [.val (.row 81), .val (.st 80)], [(.st 80, false)], [], none⟩
theorem enter_term_List (args : Array Value) (w : World) : (callFunc q1o.f args).run Try.prog w = .ok (.enter q1o.f args) w := by kernel_rfl
def ann_term_List : Ann := ⟨[0, 1, 3, 4, 5, 7, 8, 9, 17, 21, 22, 23, 24, 38, 47], [(5, ⟨[(5, .int .i64, false), (23, .int .i64, false)], [4], [24, 25, 26, 7, 27, 28, 29, 30, 31, 32, 33, 34, 35, 36, 37, 38, 39, 40], []⟩),
  (13, ⟨[(9, .int .i64, false)], [8], [46, 47, 50, 51, 52, 53, 54, 55, 56, 57, 48, 49], []⟩)]⟩
def q3l : Tree := (.need [(.imp (.not (.lt (.lit (.i 2000)) (.len (.tok 0)))) (.ok 0 [(.tok 1)]))] (.br (.or (.lt (.lit (.i 2000)) (.len (.tok 0))) (.not (.call 0 0 [(.tok 1)]))) (.leaf [(.lit (.a [(.i 0), (.i 0), (.s ⟨#[]⟩), (.r [])]))]) (.need [(.ok 1 [(.tok 1)])] (.loop 5 2 [(.call 1 0 [(.tok 1)]), (.lit (.i 0)), (.lit (.a [(.i 0), (.i 0), (.s ⟨#[]⟩), (.r [])]))] (.br (.lt (.tok 3) (.len (.tok 0))) (.need [(.le (.lit (.i 0)) (.tok 3)), (.lt (.tok 3) (.len (.tok 0)))] (.need [(.ok 1 [(.get (.tok 0) (.tok 3))]), (.rng .i64 (.add (.lit (.i 1)) (.call 1 0 [(.get (.tok 0) (.tok 3))]))), (.rng .i64 (.add (.tok 2) (.add (.lit (.i 1)) (.call 1 0 [(.get (.tok 0) (.tok 3))]))))] (.need [(.imp (.not (.lt (.lit (.i 2000)) (.add (.tok 2) (.add (.lit (.i 1)) (.call 1 0 [(.get (.tok 0) (.tok 3))]))))) (.ok 2 [(.get (.tok 0) (.tok 3))]))] (.br (.or (.lt (.lit (.i 2000)) (.add (.tok 2) (.add (.lit (.i 1)) (.call 1 0 [(.get (.tok 0) (.tok 3))])))) (.not (.call 2 0 [(.get (.tok 0) (.tok 3))]))) (.leaf [(.lit (.a [(.i 0), (.i 0), (.s ⟨#[]⟩), (.r [])]))]) (.need [(.rng .i64 (.add (.tok 3) (.lit (.i 1))))] (.back 5 [(.add (.tok 2) (.add (.lit (.i 1)) (.call 1 0 [(.get (.tok 0) (.tok 3))]))), (.add (.tok 3) (.lit (.i 1))), (.tok 4)])))))) (.need [(.ok 3 [(.tok 1)])] (.need [(.rng .i64 (.sub (.len (.tok 0)) (.lit (.i 1))))] (.loop 13 5 [(.sub (.len (.tok 0)) (.lit (.i 1))), (.call 3 0 [(.tok 1)])] (.br (.le (.lit (.i 0)) (.tok 5)) (.need [(.ok 3 [(.get (.tok 0) (.tok 5))]), (.le (.lit (.i 0)) (.tok 5)), (.lt (.tok 5) (.len (.tok 0)))] (.need [(.rng .i64 (.sub (.tok 5) (.lit (.i 1))))] (.back 13 [(.sub (.tok 5) (.lit (.i 1))), (.set (.set (.set (.lit (.a [(.i 0), (.i 0), (.s ⟨#[]⟩), (.r [])])) 0 (.lit (.i 3))) 2 (.lit (.s ⟨#[46]⟩))) 3 (.row [(.call 3 0 [(.get (.tok 0) (.tok 5))]), (.tok 6)]))]))) (.leaf [(.tok 6)]))))))))))
set_option maxRecDepth 100000 in
theorem code_term_List (g0 g1 g2 g3 : List D → Option (List D)) : ∀ cd, Try.f69.body = some cd → treeOf Try.prog [(q0h, g0), (q0v, g1), (q0j, g2), (q13, g3)] ann_term_List q1o Try.f69 cd = q3l := by
  intro cd h
  injection h with h
  subst h
  kernel_rfl
theorem fok_term_List {g0 g1 g2 g3 : List D → Option (List D)} {g : List D → Option (List D)} (h0 : FOk q0h g0) (h1 : FOk q0v g1) (h2 : FOk q0j g2) (h3 : FOk q13 g3) (h : ∀ ds outs, WfA q1o.ars ds → g ds = some outs → q3l.go (tblS [(q0h, g0), (q0v, g1), (q0j, g2), (q13, g3)]) (fun o => o = outs) ds fun _ _ => False) : FOk q1o g :=
  q0a ann_term_List Try.f69 _ (.cons h0 (.cons h1 (.cons h2 (.cons h3 .nil)))) rfl rfl enter_term_List (by decide) fun ds outs hw hg => by rw [code_term_List g0 g1 g2 g3 _ rfl]; exact h ds outs hw hg

def q0l : Ct := ⟨72, [.val (.st 80), .val (.st 80)], [(.bool, false)], [], none⟩
theorem q3a (args : Array Value) (w : World) : (callFunc q0l.f args).run Try.prog w = .ok (.enter q0l.f args) w := by kernel_rfl
def q3s : Ann := ⟨[0, 1, 2, 3, 4, 5, 6, 34, 36, 37, 38, 39, 50], [(4, ⟨[(4, .bool, false), (38, .int .i64, false)], [], [39, 40, 41, 42, 6, 5, 43, 44, 45, 46, 47, 48, 49, 50, 51], []⟩)]⟩
def q28 : Tree := (.br (.or (.or (.or (.not (.eq (.fld (.tok 0) 0) (.fld (.tok 1) 0))) (.not (.eq (.fld (.tok 0) 1) (.fld (.tok 1) 1)))) (.not (.eq (.fld (.tok 0) 2) (.fld (.tok 1) 2)))) (.not (.eq (.len (.fld (.tok 0) 3)) (.len (.fld (.tok 1) 3))))) (.leaf [(.lit (.b .false))]) (.loop 4 2 [(.lit (.b .false)), (.lit (.i 0))] (.br (.lt (.tok 3) (.len (.fld (.tok 0) 3))) (.need [(.le (.lit (.i 0)) (.tok 3)), (.lt (.tok 3) (.len (.fld (.tok 0) 3)))] (.need [(.ok 0 [(.get (.fld (.tok 0) 3) (.tok 3)), (.get (.fld (.tok 1) 3) (.tok 3))]), (.le (.lit (.i 0)) (.tok 3)), (.lt (.tok 3) (.len (.fld (.tok 1) 3)))] (.br (.not (.call 0 0 [(.get (.fld (.tok 0) 3) (.tok 3)), (.get (.fld (.tok 1) 3) (.tok 3))])) (.leaf [(.lit (.b .false))]) (.need [(.rng .i64 (.add (.tok 3) (.lit (.i 1))))] (.back 4 [(.tok 2), (.add (.tok 3) (.lit (.i 1)))]))))) (.leaf [(.lit (.b .true))]))))
set_option maxRecDepth 100000 in
theorem code_term_identical (g0 : List D → Option (List D)) : ∀ cd, Try.f72.body = some cd → treeOf Try.prog [(q0l, g0)] q3s q0l Try.f72 cd = q28 := by
  intro cd h
  injection h with h
  subst h
  kernel_rfl
theorem fok_term_identical {g0 : List D → Option (List D)} {g : List D → Option (List D)} (h0 : FOk q0l g0) (h : ∀ ds outs, WfA q0l.ars ds → g ds = some outs → q28.go (tblS [(q0l, g0)]) (fun o => o = outs) ds fun _ _ => False) : FOk q0l g :=
  q0a q3s Try.f72 _ (.cons h0 .nil) rfl rfl q3a (by decide) fun ds outs hw hg => by rw [code_term_identical g0 _ rfl]; exact h ds outs hw hg

def q0t : Ct := ⟨85, [.val (.st 80), .ref (.map 2 2)], [(.st 80, false)], [], none⟩
theorem enter_term_Canon_1 (args : Array Value) (w : World) : (callFunc q0t.f args).run Try.prog w = .ok (.enter q0t.f args) w := by kernel_rfl
def ann_term_Canon_1 : Ann := ⟨[0, 1, 2, 3, 4, 5, 14], []⟩
def q2k : Tree := (.br (.not (.fn 1 [(.tok 1), (.fld (.tok 0) 1)])) (.need [(.rng .i64 (.fn 3 [(.tok 1)]))] (.leaf [(.set (.lit (.a [(.i 0), (.i 0), (.s ⟨#[]⟩), (.r [])])) 1 (.fn 3 [(.tok 1)])), (.fn 2 [(.tok 1), (.fld (.tok 0) 1), (.fn 3 [(.tok 1)])])])) (.leaf [(.set (.lit (.a [(.i 0), (.i 0), (.s ⟨#[]⟩), (.r [])])) 1 (.fn 0 [(.tok 1), (.fld (.tok 0) 1), (.lit (.i 0))])), (.tok 1)]))
set_option maxRecDepth 100000 in
theorem code_term_Canon_1 : ∀ cd, Try.f85.body = some cd → treeOf Try.prog [] ann_term_Canon_1 q0t Try.f85 cd = q2k := by
  intro cd h
  injection h with h
  subst h
  kernel_rfl
theorem fok_term_Canon_1 {g : List D → Option (List D)}  (h : ∀ ds outs, WfA q0t.ars ds → g ds = some outs → q2k.go (tblS []) (fun o => o = outs) ds fun _ _ => False) : FOk q0t g :=
  q0a ann_term_Canon_1 Try.f85 _ .nil rfl rfl enter_term_Canon_1 (by decide) fun ds outs hw hg => by rw [code_term_Canon_1  _ rfl]; exact h ds outs hw hg

def q0s : Ct := ⟨84, [.val (.st 80), .fn 85 [2]], [(.st 80, false)], [(.cap 1 0, .ref (.map 2 2))], none⟩
theorem q3r (args : Array Value) (w : World) : (callFunc q0s.f args).run Try.prog w = .ok (.enter q0s.f args) w := by kernel_rfl
def ann_term_apply_c : Ann := ⟨[0, 1, 2, 4, 5, 7, 10, 22, 23, 24, 25], [(5, ⟨[(24, .int .i64, false)], [5, 100000], [25, 26, 27, 7, 28, 29, 30, 31, 32, 33, 34, 35, 36], []⟩)]⟩
def q2l : Tree := (.br (.eq (.fld (.tok 0) 0) (.lit (.i 0))) (.need [(.ok 0 [(.tok 0), (.tok 1)])] (.leaf [(.call 0 0 [(.tok 0), (.tok 1)]), (.call 0 1 [(.tok 0), (.tok 1)])])) (.loop 5 2 [(.lit (.i 0)), (.set (.set (.set (.lit (.a [(.i 0), (.i 0), (.s ⟨#[]⟩), (.r [])])) 0 (.fld (.tok 0) 0)) 1 (.fld (.tok 0) 1)) 2 (.fld (.tok 0) 2)), (.tok 1)] (.br (.lt (.tok 2) (.len (.fld (.tok 0) 3))) (.need [(.le (.lit (.i 0)) (.tok 2)), (.lt (.tok 2) (.len (.fld (.tok 0) 3)))] (.need [(.le (.add (.len (.fld (.tok 3) 3)) (.lit (.i 1))) (.lit (.i 2513169434843))), (.ok 1 [(.get (.fld (.tok 0) 3) (.tok 2)), (.tok 4)])] (.need [(.rng .i64 (.add (.tok 2) (.lit (.i 1))))] (.back 5 [(.add (.tok 2) (.lit (.i 1))), (.set (.tok 3) 3 (.app (.fld (.tok 3) 3) (.row [(.call 1 0 [(.get (.fld (.tok 0) 3) (.tok 2)), (.tok 4)])]))), (.call 1 1 [(.get (.fld (.tok 0) 3) (.tok 2)), (.tok 4)])])))) (.leaf [(.tok 3), (.tok 4)]))))
set_option maxRecDepth 100000 in
theorem code_term_apply_c (g0 g1 : List D → Option (List D)) : ∀ cd, Try.f84.body = some cd → treeOf Try.prog [(q0t, g0), (q0s, g1)] ann_term_apply_c q0s Try.f84 cd = q2l := by
  intro cd h
  injection h with h
  subst h
  kernel_rfl
theorem fok_term_apply_c {g0 g1 : List D → Option (List D)} {g : List D → Option (List D)} (h0 : FOk q0t g0) (h1 : FOk q0s g1) (h : ∀ ds outs, WfA q0s.ars ds → g ds = some outs → q2l.go (tblS [(q0t, g0), (q0s, g1)]) (fun o => o = outs) ds fun _ _ => False) : FOk q0s g :=
  q0a ann_term_apply_c Try.f84 _ (.cons h0 (.cons h1 .nil)) rfl rfl q3r (by decide) fun ds outs hw hg => by rw [code_term_apply_c g0 g1 _ rfl]; exact h ds outs hw hg

def q1m : Ct := ⟨73, [.val (.st 80)], [(.st 80, false)], [], none⟩
theorem enter_term_Canon (args : Array Value) (w : World) : (callFunc q1m.f args).run Try.prog w = .ok (.enter q1m.f args) w := by kernel_rfl
def ann_term_Canon : Ann := ⟨[0, 1, 2, 3, 6], []⟩
def q2a : Tree := (.need [(.ok 1 [(.tok 0)])] (.br (.not (.call 1 0 [(.tok 0)])) (.leaf [(.lit (.a [(.i 0), (.i 0), (.s ⟨#[]⟩), (.r [])]))]) (.need [(.ok 2 [(.tok 0), (.lit (.mp []))])] (.leaf [(.call 2 0 [(.tok 0), (.lit (.mp []))])]))))
set_option maxRecDepth 100000 in
theorem code_term_Canon (g0 g1 g2 : List D → Option (List D)) : ∀ cd, Try.f73.body = some cd → treeOf Try.prog [(q0t, g0), (q0h, g1), (q0s, g2)] ann_term_Canon q1m Try.f73 cd = q2a := by
  intro cd h
  injection h with h
  subst h
  kernel_rfl
theorem fok_term_Canon {g0 g1 g2 : List D → Option (List D)} {g : List D → Option (List D)} (h0 : FOk q0t g0) (h1 : FOk q0h g1) (h2 : FOk q0s g2) (h : ∀ ds outs, WfA q1m.ars ds → g ds = some outs → q2a.go (tblS [(q0t, g0), (q0h, g1), (q0s, g2)]) (fun o => o = outs) ds fun _ _ => False) : FOk q1m g :=
  q0a ann_term_Canon Try.f73 _ (.cons h0 (.cons h1 (.cons h2 .nil))) rfl rfl enter_term_Canon (by decide) fun ds outs hw hg => by rw [code_term_Canon g0 g1 g2 _ rfl]; exact h ds outs hw hg

def q1a : Ct := ⟨52, [.val (.st 80), .val (.st 80)], [(.bool, false)], [], none⟩
theorem enter_term_Variant (args : Array Value) (w : World) : (callFunc q1a.f args).run Try.prog w = .ok (.enter q1a.f args) w := by kernel_rfl
def ann_term_Variant : Ann := ⟨[0, 1, 2, 3, 4], []⟩
def q2i : Tree := (.need [(.imp (.and (.call 0 0 [(.tok 0)]) (.call 0 0 [(.tok 1)])) (.ok 2 [(.call 1 0 [(.tok 0)]), (.call 1 0 [(.tok 1)])])), (.imp (.and (.call 0 0 [(.tok 0)]) (.call 0 0 [(.tok 1)])) (.ok 1 [(.tok 1)])), (.imp (.and (.call 0 0 [(.tok 0)]) (.call 0 0 [(.tok 1)])) (.ok 1 [(.tok 0)])), (.imp (.call 0 0 [(.tok 0)]) (.ok 0 [(.tok 1)])), (.ok 0 [(.tok 0)])] (.leaf [(.and (.and (.call 0 0 [(.tok 0)]) (.call 0 0 [(.tok 1)])) (.call 2 0 [(.call 1 0 [(.tok 0)]), (.call 1 0 [(.tok 1)])]))]))
set_option maxRecDepth 100000 in
theorem code_term_Variant (g0 g1 g2 : List D → Option (List D)) : ∀ cd, Try.f52.body = some cd → treeOf Try.prog [(q0h, g0), (q1m, g1), (q0l, g2)] ann_term_Variant q1a Try.f52 cd = q2i := by
  intro cd h
  injection h with h
  subst h
  kernel_rfl
theorem fok_term_Variant {g0 g1 g2 : List D → Option (List D)} {g : List D → Option (List D)} (h0 : FOk q0h g0) (h1 : FOk q1m g1) (h2 : FOk q0l g2) (h : ∀ ds outs, WfA q1a.ars ds → g ds = some outs → q2i.go (tblS [(q0h, g0), (q1m, g1), (q0l, g2)]) (fun o => o = outs) ds fun _ _ => False) : FOk q1a g :=
  q0a ann_term_Variant Try.f52 _ (.cons h0 (.cons h1 (.cons h2 .nil))) rfl rfl enter_term_Variant (by decide) fun ds outs hw hg => by rw [code_term_Variant g0 g1 g2 _ rfl]; exact h ds outs hw hg

def q11 : Ct := ⟨51, [.val (.st 27), .val (.row 31)], [(.st 80, false), (.row 38, true)], [], none⟩
theorem enter_law34_together (args : Array Value) (w : World) : (callFunc q11.f args).run Try.prog w = .ok (.enter q11.f args) w := by kernel_rfl
def q3q : Ann := ⟨[0, 1, 2, 4, 5, 6, 7, 8, 9, 10, 11, 15, 32, 39], [(5, ⟨[(7, .row 38, false), (8, .int .i64, false), (6, .row 81, false), (9, .int .i64, false)], [], [12, 13, 14, 15, 19, 20, 21, 22, 23, 24, 18, 25, 26, 10, 11, 27, 28, 29, 30, 31, 32, 33, 34, 35, 36, 37, 38, 39, 40, 41, 42, 43, 16, 17], []⟩)]⟩
def q27 : Tree := (.loop 5 2 [(.lit (.r [])), (.lit (.i 1)), (.lit (.r [])), (.lit (.i 0))] (.br (.lt (.tok 5) (.len (.tok 1))) (.need [(.ok 0 [(.tok 0), (.get (.tok 1) (.tok 5))]), (.ok 0 [(.tok 0), (.get (.tok 1) (.tok 5))]), (.le (.lit (.i 0)) (.tok 5)), (.lt (.tok 5) (.len (.tok 1)))] (.need [(.le (.add (.len (.tok 2)) (.lit (.i 1))) (.lit (.i 17592186043904)))] (.br (.not (.eq (.call 0 1 [(.tok 0), (.get (.tok 1) (.tok 5))]) (.lit (.i 0)))) (.need [(.rng .i64 (.add (.tok 5) (.lit (.i 1))))] (.back 5 [(.app (.tok 2) (.row [(.call 0 1 [(.tok 0), (.get (.tok 1) (.tok 5))])])), (.tok 3), (.tok 4), (.add (.tok 5) (.lit (.i 1)))])) (.need [(.rng .i64 (.add (.tok 3) (.lit (.i 1)))), (.ok 1 [(.call 0 0 [(.tok 0), (.get (.tok 1) (.tok 5))])]), (.rng .i64 (.add (.add (.tok 3) (.lit (.i 1))) (.call 1 0 [(.call 0 0 [(.tok 0), (.get (.tok 1) (.tok 5))])])))] (.br (.lt (.lit (.i 2000)) (.add (.add (.tok 3) (.lit (.i 1))) (.call 1 0 [(.call 0 0 [(.tok 0), (.get (.tok 1) (.tok 5))])]))) (.need [(.ok 2 [(.lit (.s ⟨#[91, 93]⟩))]), (.ok 3 [(.tok 4), (.call 2 0 [(.lit (.s ⟨#[91, 93]⟩))])])] (.leaf [(.call 3 0 [(.tok 4), (.call 2 0 [(.lit (.s ⟨#[91, 93]⟩))])]), (.app (.tok 2) (.row [(.call 0 1 [(.tok 0), (.get (.tok 1) (.tok 5))])]))])) (.need [(.le (.add (.len (.tok 4)) (.lit (.i 1))) (.lit (.i 2513169434843)))] (.need [(.rng .i64 (.add (.tok 5) (.lit (.i 1))))] (.back 5 [(.app (.tok 2) (.row [(.call 0 1 [(.tok 0), (.get (.tok 1) (.tok 5))])])), (.add (.add (.tok 3) (.lit (.i 1))) (.call 1 0 [(.call 0 0 [(.tok 0), (.get (.tok 1) (.tok 5))])])), (.app (.tok 4) (.row [(.call 0 0 [(.tok 0), (.get (.tok 1) (.tok 5))])])), (.add (.tok 5) (.lit (.i 1)))])))))))) (.need [(.ok 2 [(.lit (.s ⟨#[91, 93]⟩))]), (.ok 3 [(.tok 4), (.call 2 0 [(.lit (.s ⟨#[91, 93]⟩))])])] (.leaf [(.call 3 0 [(.tok 4), (.call 2 0 [(.lit (.s ⟨#[91, 93]⟩))])]), (.tok 2)]))))
set_option maxRecDepth 100000 in
theorem code_law34_together (g0 g1 g2 g3 : List D → Option (List D)) : ∀ cd, Try.f51.body = some cd → treeOf Try.prog [(q1q, g0), (q0v, g1), (q18, g2), (q1o, g3)] q3q q11 Try.f51 cd = q27 := by
  intro cd h
  injection h with h
  subst h
  kernel_rfl
theorem fok_law34_together {g0 g1 g2 g3 : List D → Option (List D)} {g : List D → Option (List D)} (h0 : FOk q1q g0) (h1 : FOk q0v g1) (h2 : FOk q18 g2) (h3 : FOk q1o g3) (h : ∀ ds outs, WfA q11.ars ds → g ds = some outs → q27.go (tblS [(q1q, g0), (q0v, g1), (q18, g2), (q1o, g3)]) (fun o => o = outs) ds fun _ _ => False) : FOk q11 g :=
  q0a q3q Try.f51 _ (.cons h0 (.cons h1 (.cons h2 (.cons h3 .nil)))) rfl rfl enter_law34_together (by decide) fun ds outs hw hg => by rw [code_law34_together g0 g1 g2 g3 _ rfl]; exact h ds outs hw hg

def q1f : Ct := ⟨28, [.val (.st 27), .val (.st 27), .val (.row 31), .val (.row 31)], [(.bool, false)], [], none⟩
theorem enter_law34_alike (args : Array Value) (w : World) : (callFunc q1f.f args).run Try.prog w = .ok (.enter q1f.f args) w := by kernel_rfl
def ann_law34_alike : Ann := ⟨[0, 1, 2, 3, 4, 5, 8, 9, 10, 11, 12, 13, 37, 41, 52], [(6, ⟨[(8, .bool, false), (13, .int .i64, false)], [], [38, 39, 40, 41, 44, 45, 46, 47, 48, 49, 50, 51, 52, 42, 43], []⟩)]⟩
def q2w : Tree := (.need [(.ok 0 [(.tok 0), (.tok 2)])] (.need [(.ok 0 [(.tok 1), (.tok 3)])] (.br (.or (.not (.eq (.len (.tok 2)) (.len (.tok 3)))) (.not (.eq (.len (.call 0 1 [(.tok 0), (.tok 2)])) (.len (.call 0 1 [(.tok 1), (.tok 3)]))))) (.leaf [(.lit (.b .false))]) (.loop 6 4 [(.lit (.b .false)), (.lit (.i 0))] (.br (.lt (.tok 5) (.len (.call 0 1 [(.tok 0), (.tok 2)]))) (.need [(.le (.lit (.i 0)) (.tok 5)), (.lt (.tok 5) (.len (.call 0 1 [(.tok 1), (.tok 3)]))), (.le (.lit (.i 0)) (.tok 5)), (.lt (.tok 5) (.len (.call 0 1 [(.tok 0), (.tok 2)])))] (.br (.not (.eq (.get (.call 0 1 [(.tok 0), (.tok 2)]) (.tok 5)) (.get (.call 0 1 [(.tok 1), (.tok 3)]) (.tok 5)))) (.leaf [(.lit (.b .false))]) (.need [(.rng .i64 (.add (.tok 5) (.lit (.i 1))))] (.back 6 [(.tok 4), (.add (.tok 5) (.lit (.i 1)))])))) (.need [(.ok 1 [(.call 0 0 [(.tok 0), (.tok 2)]), (.call 0 0 [(.tok 1), (.tok 3)])])] (.leaf [(.call 1 0 [(.call 0 0 [(.tok 0), (.tok 2)]), (.call 0 0 [(.tok 1), (.tok 3)])])])))))))
set_option maxRecDepth 100000 in
theorem code_law34_alike (g0 g1 : List D → Option (List D)) : ∀ cd, Try.f28.body = some cd → treeOf Try.prog [(q11, g0), (q1a, g1)] ann_law34_alike q1f Try.f28 cd = q2w := by
  intro cd h
  injection h with h
  subst h
  kernel_rfl
theorem fok_law34_alike {g0 g1 : List D → Option (List D)} {g : List D → Option (List D)} (h0 : FOk q11 g0) (h1 : FOk q1a g1) (h : ∀ ds outs, WfA q1f.ars ds → g ds = some outs → q2w.go (tblS [(q11, g0), (q1a, g1)]) (fun o => o = outs) ds fun _ _ => False) : FOk q1f g :=
  q0a ann_law34_alike Try.f28 _ (.cons h0 (.cons h1 .nil)) rfl rfl enter_law34_alike (by decide) fun ds outs hw hg => by rw [code_law34_alike g0 g1 _ rfl]; exact h ds outs hw hg

def q1t : Ct := ⟨7, [.val (.st 27), .val (.st 34)], [(.bool, false)], [], none⟩
theorem enter_law34_GcTerms (args : Array Value) (w : World) : (callFunc q1t.f args).run Try.prog w = .ok (.enter q1t.f args) w := by kernel_rfl
def ann_law34_GcTerms : Ann := ⟨[0, 1, 2, 3, 4, 5, 6, 16], []⟩
def q1w : Tree := (.need [(.ok 0 [(.tok 0), (.tok 1)]), (.imp (.not (.not (.call 0 0 [(.tok 0), (.tok 1)]))) (.ok 1 [(.tok 0), (.tok 1)]))] (.br (.or (.not (.call 0 0 [(.tok 0), (.tok 1)])) (.not (.call 1 0 [(.tok 0), (.tok 1)]))) (.need [(.ok 2 [])] (.leaf [(.call 2 0 [])])) (.need [(.ok 4 [(.tok 1)]), (.ok 4 [(.tok 1)]), (.ok 3 [(.tok 0)]), (.ok 3 [(.tok 0)]), (.ok 3 [(.tok 0)])] (.need [(.ok 5 [(.call 3 0 [(.tok 0)]), (.call 4 0 [(.tok 1)])]), (.imp (.eq (.call 5 0 [(.call 3 0 [(.tok 0)]), (.call 4 0 [(.tok 1)])]) (.lit (.i 0))) (.ok 6 [(.tok 0), (.call 5 1 [(.call 3 0 [(.tok 0)]), (.call 4 0 [(.tok 1)])]), (.fld (.tok 1) 0), (.fld (.call 5 2 [(.call 3 0 [(.tok 0)]), (.call 4 0 [(.tok 1)])]) 0)])), (.imp (.and (.eq (.call 5 0 [(.call 3 0 [(.tok 0)]), (.call 4 0 [(.tok 1)])]) (.lit (.i 0))) (.call 6 0 [(.tok 0), (.call 5 1 [(.call 3 0 [(.tok 0)]), (.call 4 0 [(.tok 1)])]), (.fld (.tok 1) 0), (.fld (.call 5 2 [(.call 3 0 [(.tok 0)]), (.call 4 0 [(.tok 1)])]) 0)])) (.ok 2 []))] (.leaf [(.and (.and (.eq (.call 5 0 [(.call 3 0 [(.tok 0)]), (.call 4 0 [(.tok 1)])]) (.lit (.i 0))) (.call 6 0 [(.tok 0), (.call 5 1 [(.call 3 0 [(.tok 0)]), (.call 4 0 [(.tok 1)])]), (.fld (.tok 1) 0), (.fld (.call 5 2 [(.call 3 0 [(.tok 0)]), (.call 4 0 [(.tok 1)])]) 0)])) (.call 2 0 []))])))))
set_option maxRecDepth 100000 in
theorem code_law34_GcTerms (g0 g1 g2 g3 g4 g5 g6 : List D → Option (List D)) : ∀ cd, Try.f7.body = some cd → treeOf Try.prog [(q1h, g0), (q0n, g1), (q1g, g2), (q1l, g3), (q1i, g4), (q0u, g5), (q1f, g6)] ann_law34_GcTerms q1t Try.f7 cd = q1w := by
  intro cd h
  injection h with h
  subst h
  kernel_rfl
theorem fok_law34_GcTerms {g0 g1 g2 g3 g4 g5 g6 : List D → Option (List D)} {g : List D → Option (List D)} (h0 : FOk q1h g0) (h1 : FOk q0n g1) (h2 : FOk q1g g2) (h3 : FOk q1l g3) (h4 : FOk q1i g4) (h5 : FOk q0u g5) (h6 : FOk q1f g6) (h : ∀ ds outs, WfA q1t.ars ds → g ds = some outs → q1w.go (tblS [(q1h, g0), (q0n, g1), (q1g, g2), (q1l, g3), (q1i, g4), (q0u, g5), (q1f, g6)]) (fun o => o = outs) ds fun _ _ => False) : FOk q1t g :=
  q0a ann_law34_GcTerms Try.f7 _ (.cons h0 (.cons h1 (.cons h2 (.cons h3 (.cons h4 (.cons h5 (.cons h6 .nil))))))) rfl rfl enter_law34_GcTerms (by decide) fun ds outs hw hg => by rw [code_law34_GcTerms g0 g1 g2 g3 g4 g5 g6 _ rfl]; exact h ds outs hw hg

end Go.Proofs.Ytmebmpgffhajbaa


namespace Go.Proofs.Ytmebmpgffhajbaa
open Go.RowKit
set_option linter.unusedVariables false
set_option linter.unusedSimpArgs false

structure Ce where
  t : Int
  n : Int
structure Un where
  at' : Int
  old : Ce
structure Wk where
  ser : Int
  att : Ce
  val : Ce
structure Sy where
  name : ByteArray
  ar : Int
structure So where
  cs : List Ce
  ys : List Sy
  tr : List Un
  wk : List Wk
  ser : Int
  mx : Int

instance : Inhabited Ce := ⟨⟨0, 0⟩⟩
instance : Inhabited Un := ⟨⟨0, default⟩⟩
instance : Inhabited Wk := ⟨⟨0, default, default⟩⟩
instance : Inhabited Sy := ⟨⟨⟨#[]⟩, 0⟩⟩

def eC (c : Ce) : D := .a [.i c.t, .i c.n]
def eU (u : Un) : D := .a [.i u.at', eC u.old]
def eW (w : Wk) : D := .a [.i w.ser, eC w.att, eC w.val]
def eY (y : Sy) : D := .a [.s y.name, .i y.ar]
def eS (s : So) : D := .a [.r (s.cs.map eC), .r (s.ys.map eY), .r (s.tr.map eU), .r (s.wk.map eW), .i s.ser, .i s.mx]
def dC (d : D) : Ce := ⟨(d.fld 0).int, (d.fld 1).int⟩
def dU (d : D) : Un := ⟨(d.fld 0).int, dC (d.fld 1)⟩
def dW (d : D) : Wk := ⟨(d.fld 0).int, dC (d.fld 1), dC (d.fld 2)⟩
def dY (d : D) : Sy := ⟨(d.fld 0).str, (d.fld 1).int⟩
def dS (d : D) : So := ⟨(d.fld 0).rs.map dC, (d.fld 1).rs.map dY, (d.fld 2).rs.map dU, (d.fld 3).rs.map dW, (d.fld 4).int, (d.fld 5).int⟩

theorem dC_eC (c : Ce) : dC (eC c) = c := rfl
theorem dU_eU (c : Un) : dU (eU c) = c := rfl
theorem dW_eW (c : Wk) : dW (eW c) = c := rfl
theorem dY_eY (c : Sy) : dY (eY c) = c := rfl
theorem map_id' {α : Type} {e : α → D} {d : D → α} (h : ∀ a, d (e a) = a) (l : List α) : (l.map e).map d = l := by
  rw [List.map_map]
  have : d ∘ e = id := funext h
  rw [this, List.map_id]
theorem dS_eS (s : So) : dS (eS s) = s := by
  show So.mk ((s.cs.map eC).map dC) ((s.ys.map eY).map dY) ((s.tr.map eU).map dU) ((s.wk.map eW).map dW) s.ser s.mx = s
  rw [map_id' dC_eC, map_id' dY_eY, map_id' dU_eU, map_id' dW_eW]
theorem eC_inj {a b : Ce} (h : eC a = eC b) : a = b := by rw [← dC_eC a, h, dC_eC b]
theorem eU_inj {a b : Un} (h : eU a = eU b) : a = b := by rw [← dU_eU a, h, dU_eU b]
theorem eW_inj {a b : Wk} (h : eW a = eW b) : a = b := by rw [← dW_eW a, h, dW_eW b]
theorem eY_inj {a b : Sy} (h : eY a = eY b) : a = b := by rw [← dY_eY a, h, dY_eY b]
theorem eS_inj {a b : So} (h : eS a = eS b) : a = b := by rw [← dS_eS a, h, dS_eS b]
theorem eC_eq (a b : Ce) : (eC a = eC b) = (a = b) := propext ⟨eC_inj, fun h => h ▸ rfl⟩
theorem eU_eq (a b : Un) : (eU a = eU b) = (a = b) := propext ⟨eU_inj, fun h => h ▸ rfl⟩
theorem eW_eq (a b : Wk) : (eW a = eW b) = (a = b) := propext ⟨eW_inj, fun h => h ▸ rfl⟩
theorem eY_eq (a b : Sy) : (eY a = eY b) = (a = b) := propext ⟨eY_inj, fun h => h ▸ rfl⟩
theorem eS_eq (a b : So) : (eS a = eS b) = (a = b) := propext ⟨eS_inj, fun h => h ▸ rfl⟩
instance : DecidableEq Ce := fun a b => if h : eC a = eC b then .isTrue (eC_inj h) else .isFalse fun e => h (e ▸ rfl)
instance : DecidableEq Un := fun a b => if h : eU a = eU b then .isTrue (eU_inj h) else .isFalse fun e => h (e ▸ rfl)
instance : DecidableEq Wk := fun a b => if h : eW a = eW b then .isTrue (eW_inj h) else .isFalse fun e => h (e ▸ rfl)
instance : DecidableEq Sy := fun a b => if h : eY a = eY b then .isTrue (eY_inj h) else .isFalse fun e => h (e ▸ rfl)
instance : DecidableEq So := fun a b => if h : eS a = eS b then .isTrue (eS_inj h) else .isFalse fun e => h (e ▸ rfl)
theorem Ce.ext' {a b : Ce} (h1 : a.t = b.t) (h2 : a.n = b.n) : a = b := by
  cases a; cases b; cases h1; cases h2; rfl

theorem eC_0 (c : Ce) : (eC c).fld 0 = .i c.t := rfl
theorem eC_1 (c : Ce) : (eC c).fld 1 = .i c.n := rfl
theorem eU_0 (c : Un) : (eU c).fld 0 = .i c.at' := rfl
theorem eU_1 (c : Un) : (eU c).fld 1 = eC c.old := rfl
theorem eW_0 (c : Wk) : (eW c).fld 0 = .i c.ser := rfl
theorem eW_1 (c : Wk) : (eW c).fld 1 = eC c.att := rfl
theorem eW_2 (c : Wk) : (eW c).fld 2 = eC c.val := rfl
theorem eY_0 (c : Sy) : (eY c).fld 0 = .s c.name := rfl
theorem eY_1 (c : Sy) : (eY c).fld 1 = .i c.ar := rfl
theorem eS_0 (s : So) : (eS s).fld 0 = .r (s.cs.map eC) := rfl
theorem eS_1 (s : So) : (eS s).fld 1 = .r (s.ys.map eY) := rfl
theorem eS_2 (s : So) : (eS s).fld 2 = .r (s.tr.map eU) := rfl
theorem eS_3 (s : So) : (eS s).fld 3 = .r (s.wk.map eW) := rfl
theorem eS_4 (s : So) : (eS s).fld 4 = .i s.ser := rfl
theorem eS_5 (s : So) : (eS s).fld 5 = .i s.mx := rfl
theorem eU_mk (n : Int) (c : Ce) : D.a [.i n, eC c] = eU ⟨n, c⟩ := rfl

abbrev i64 (n : Int) : Prop := -9223372036854775808 ≤ n ∧ n ≤ 9223372036854775807
def Ce.ok (c : Ce) : Prop := i64 c.t ∧ i64 c.n
def Un.ok (c : Un) : Prop := i64 c.at' ∧ c.old.ok
def Wk.ok (c : Wk) : Prop := i64 c.ser ∧ c.att.ok ∧ c.val.ok
def Sy.ok (c : Sy) : Prop := c.name.size ≤ LIM ∧ i64 c.ar
structure So.ok (s : So) : Prop where
  cs : s.cs.length ≤ 8796093021952 ∧ ∀ c ∈ s.cs, c.ok
  ys : s.ys.length ≤ 5864062014634 ∧ ∀ c ∈ s.ys, c.ok
  tr : s.tr.length ≤ 5864062014634 ∧ ∀ c ∈ s.tr, c.ok
  wk : s.wk.length ≤ 3518437208780 ∧ ∀ c ∈ s.wk, c.ok
  ser : i64 s.ser
  mx : i64 s.mx

theorem wfI {d : D} (h : Wf d (.int .i64)) : ∃ n, d = .i n ∧ i64 n := by
  obtain ⟨n, rfl, hn⟩ := h.int
  exact ⟨n, rfl, rng64.1 hn⟩
theorem wfC {d : D} (h : Wf d T_Cell) : ∃ c, d = eC c ∧ c.ok := by
  obtain ⟨ds, rfl, hl⟩ := h.st_of (fs := [.int .i64, .int .i64]) rfl
  obtain ⟨a, b, rfl, ha, hb⟩ := wfL2 hl
  obtain ⟨x, rfl, hx⟩ := wfI ha
  obtain ⟨y, rfl, hy⟩ := wfI hb
  exact ⟨⟨x, y⟩, rfl, hx, hy⟩
theorem wfU {d : D} (h : Wf d T_Undo) : ∃ c, d = eU c ∧ c.ok := by
  obtain ⟨ds, rfl, hl⟩ := h.st_of (fs := [.int .i64, T_Cell]) rfl
  obtain ⟨a, b, rfl, ha, hb⟩ := wfL2 hl
  obtain ⟨x, rfl, hx⟩ := wfI ha
  obtain ⟨y, rfl, hy⟩ := wfC hb
  exact ⟨⟨x, y⟩, rfl, hx, hy⟩
theorem wfW {d : D} (h : Wf d T_Wake) : ∃ c, d = eW c ∧ c.ok := by
  obtain ⟨ds, rfl, hl⟩ := h.st_of (fs := [.int .i64, T_Cell, T_Cell]) rfl
  obtain ⟨a, r, rfl, ha, hr⟩ := wfL_cons hl
  obtain ⟨b, c, rfl, hb, hc⟩ := wfL2 hr
  obtain ⟨x, rfl, hx⟩ := wfI ha
  obtain ⟨y, rfl, hy⟩ := wfC hb
  obtain ⟨z, rfl, hz⟩ := wfC hc
  exact ⟨⟨x, y, z⟩, rfl, hx, hy, hz⟩
theorem wfY {d : D} (h : Wf d T_Symbol) : ∃ c, d = eY c ∧ c.ok := by
  obtain ⟨ds, rfl, hl⟩ := h.st_of (fs := [.str, .int .i64]) rfl
  obtain ⟨a, b, rfl, ha, hb⟩ := wfL2 hl
  obtain ⟨x, rfl, hx⟩ := ha.str
  obtain ⟨y, rfl, hy⟩ := wfI hb
  exact ⟨⟨x, y⟩, rfl, hx, hy⟩
theorem wfCs {d : D} (h : Wf d T_Cells) : ∃ l : List Ce, d = .r (l.map eC) ∧ l.length ≤ 8796093021952 ∧ ∀ c ∈ l, c.ok := by
  obtain ⟨l, rfl, h1, h2⟩ := h.row_of (te := T_Cell) rfl
  obtain ⟨m, rfl, h3⟩ := of_all (e := eC) (P := Ce.ok) fun x hx => wfC (h2 x hx)
  have e : LM T_Cell = 8796093021952 := by kernel_rfl
  rw [e, List.length_map] at h1
  exact ⟨m, rfl, h1, h3⟩
theorem wfUs {d : D} (h : Wf d T_Undos) : ∃ l : List Un, d = .r (l.map eU) ∧ l.length ≤ 5864062014634 ∧ ∀ c ∈ l, c.ok := by
  obtain ⟨l, rfl, h1, h2⟩ := h.row_of (te := T_Undo) rfl
  obtain ⟨m, rfl, h3⟩ := of_all (e := eU) (P := Un.ok) fun x hx => wfU (h2 x hx)
  have e : LM T_Undo = 5864062014634 := by kernel_rfl
  rw [e, List.length_map] at h1
  exact ⟨m, rfl, h1, h3⟩
theorem wfWs {d : D} (h : Wf d T_Wakes) : ∃ l : List Wk, d = .r (l.map eW) ∧ l.length ≤ 3518437208780 ∧ ∀ c ∈ l, c.ok := by
  obtain ⟨l, rfl, h1, h2⟩ := h.row_of (te := T_Wake) rfl
  obtain ⟨m, rfl, h3⟩ := of_all (e := eW) (P := Wk.ok) fun x hx => wfW (h2 x hx)
  have e : LM T_Wake = 3518437208780 := by kernel_rfl
  rw [e, List.length_map] at h1
  exact ⟨m, rfl, h1, h3⟩
theorem wfYs {d : D} (h : Wf d T_Symbols) : ∃ l : List Sy, d = .r (l.map eY) ∧ l.length ≤ 5864062014634 ∧ ∀ c ∈ l, c.ok := by
  obtain ⟨l, rfl, h1, h2⟩ := h.row_of (te := T_Symbol) rfl
  obtain ⟨m, rfl, h3⟩ := of_all (e := eY) (P := Sy.ok) fun x hx => wfY (h2 x hx)
  have e : LM T_Symbol = 5864062014634 := by kernel_rfl
  rw [e, List.length_map] at h1
  exact ⟨m, rfl, h1, h3⟩
theorem wfS {d : D} (h : Wf d T_Store) : ∃ s, d = eS s ∧ s.ok := by
  obtain ⟨ds, rfl, hl⟩ := h.st_of (fs := [T_Cells, T_Symbols, T_Undos, T_Wakes, .int .i64, .int .i64]) rfl
  obtain ⟨d0, r, rfl, h0, hl⟩ := wfL_cons hl
  obtain ⟨d1, r, rfl, h1, hl⟩ := wfL_cons hl
  obtain ⟨d2, r, rfl, h2, hl⟩ := wfL_cons hl
  obtain ⟨d3, r, rfl, h3, hl⟩ := wfL_cons hl
  obtain ⟨d4, d5, rfl, h4, h5⟩ := wfL2 hl
  obtain ⟨cs, rfl, q0⟩ := wfCs h0
  obtain ⟨ys, rfl, q1⟩ := wfYs h1
  obtain ⟨tr, rfl, q2⟩ := wfUs h2
  obtain ⟨wk, rfl, q3⟩ := wfWs h3
  obtain ⟨x, rfl, q4⟩ := wfI h4
  obtain ⟨y, rfl, q5⟩ := wfI h5
  exact ⟨⟨cs, ys, tr, wk, x, y⟩, rfl, q0, q1, q2, q3, q4, q5⟩
end Go.Proofs.Ytmebmpgffhajbaa


namespace Go.Proofs.Ytmebmpgffhajbaa
open Go.RowKit
set_option linter.unusedVariables false
set_option linter.unusedSimpArgs false

inductive Te where
  | mk (k n : Int) (s : ByteArray) (l : List Te)
instance : Inhabited Te := ⟨.mk 0 0 ⟨#[]⟩ []⟩
def Te.k : Te → Int | .mk k _ _ _ => k
def Te.n : Te → Int | .mk _ n _ _ => n
def Te.s : Te → ByteArray | .mk _ _ s _ => s
def Te.l : Te → List Te | .mk _ _ _ l => l

mutual
theorem Te.ind0 {P : Te → Prop} (h : ∀ k n s l, (∀ t ∈ l, P t) → P (.mk k n s l)) : ∀ t, P t
  | .mk k n s l => h k n s l (Te.inds h l)
theorem Te.inds {P : Te → Prop} (h : ∀ k n s l, (∀ t ∈ l, P t) → P (.mk k n s l)) : ∀ (l : List Te), ∀ t ∈ l, P t
  | [], _, ht => by cases ht
  | u :: l, t, ht => by
    exact (List.mem_cons.1 ht).elim (fun e => e ▸ Te.ind0 h u) fun h' => Te.inds h l t h'
end
theorem Te.ind {P : Te → Prop} (h : ∀ k n s l, (∀ t ∈ l, P t) → P (.mk k n s l)) (t : Te) : P t := Te.ind0 h t

mutual
def eT : Te → D
  | .mk k n s l => .a [.i k, .i n, .s s, .r (eTs l)]
def eTs : List Te → List D
  | [] => []
  | t :: l => eT t :: eTs l
end
theorem eTs_map : ∀ l, eTs l = l.map eT
  | [] => rfl
  | t :: l => by rw [eTs, eTs_map l, List.map_cons]
theorem eT_mk (k n : Int) (s : ByteArray) (l : List Te) : eT (.mk k n s l) = .a [.i k, .i n, .s s, .r (l.map eT)] := by rw [eT, eTs_map]
mutual
def dT : D → Te
  | .a [.i k, .i n, .s s, .r l] => .mk k n s (dTs l)
  | _ => .mk 0 0 ⟨#[]⟩ []
def dTs : List D → List Te
  | [] => []
  | d :: l => dT d :: dTs l
end
mutual
theorem dT_eT : ∀ t, dT (eT t) = t
  | .mk k n s l => by simp only [eT, dT, dTs_eTs l]
theorem dTs_eTs : ∀ l, dTs (eTs l) = l
  | [] => rfl
  | t :: l => by simp only [eTs, dTs, dT_eT t, dTs_eTs l]
end
theorem eT_inj {t u : Te} (h : eT t = eT u) : t = u := by rw [← dT_eT t, h, dT_eT u]
theorem eT_eq (t u : Te) : (eT t = eT u) = (t = u) := propext ⟨eT_inj, fun h => h ▸ rfl⟩
theorem eT_0 (t : Te) : (eT t).fld 0 = .i t.k := by cases t; rfl
theorem eT_1 (t : Te) : (eT t).fld 1 = .i t.n := by cases t; rfl
theorem eT_2 (t : Te) : (eT t).fld 2 = .s t.s := by cases t; rfl
theorem eT_3 (t : Te) : (eT t).fld 3 = .r (t.l.map eT) := by cases t; rw [eT_mk]; rfl
theorem eT_snoc (k n : Int) (s : ByteArray) (l : List Te) (x : Te) : D.a ((eT (.mk k n s l)).fs.set 3 (.r (l.map eT ++ [eT x]))) = eT (.mk k n s (l ++ [x])) := by
  rw [eT_mk, eT_mk]
  simp [D.fs]
def zT : Te := .mk 0 0 ⟨#[]⟩ []
theorem eT_z : D.a [.i 0, .i 0, .s ⟨#[]⟩, .r []] = eT zT := rfl

mutual
def szT : Te → Nat
  | .mk _ _ _ l => szTs l + 1
def szTs : List Te → Nat
  | [] => 0
  | t :: l => szT t + szTs l
end
theorem szT_pos (t : Te) : 1 ≤ szT t := by cases t; rw [szT]; omega
theorem szTs_mem {t : Te} : ∀ {l : List Te}, t ∈ l → szT t ≤ szTs l
  | u :: l, h => by
    rcases List.mem_cons.1 h with rfl | h
    · rw [szTs]; omega
    · have := szTs_mem h; rw [szTs]; omega
theorem szT_arg {t u : Te} (h : u ∈ t.l) : szT u < szT t := by
  cases t
  have := szTs_mem h
  rw [szT]
  exact Nat.lt_succ_of_le this
theorem szTs_app : ∀ (l m : List Te), szTs (l ++ m) = szTs l + szTs m
  | [], m => by simp [szTs]
  | t :: l, m => by rw [List.cons_append, szTs, szTs, szTs_app l m]; omega
theorem szTs_snoc {l : List Te} {k : Nat} (h : k < l.length) : szTs (l.take (k + 1)) = szTs (l.take k) + szT (l.getD k default) := by
  rw [take_snoc h, szTs_app]
  simp [szTs]
theorem szTs_len : ∀ (l : List Te), l.length ≤ szTs l
  | [] => Nat.le_refl _
  | t :: l => by have := szTs_len l; have := szT_pos t; rw [szTs, List.length_cons]; omega
theorem szT_l (t : Te) : szT t = szTs t.l + 1 := by cases t; rw [szT]; rfl

mutual
def okT : Te → Prop
  | .mk k n s l => i64 k ∧ i64 n ∧ s.size ≤ LIM ∧ l.length ≤ 2513169434843 ∧ okTs l
def okTs : List Te → Prop
  | [] => True
  | t :: l => okT t ∧ okTs l
end
theorem okTs_iff : ∀ {l : List Te}, okTs l ↔ ∀ t ∈ l, okT t
  | [] => ⟨fun _ t h => (by cases h), fun _ => trivial⟩
  | t :: l => by rw [okTs, okTs_iff]; simp
theorem okT_mk {k n : Int} {s : ByteArray} {l : List Te} : okT (.mk k n s l) ↔ i64 k ∧ i64 n ∧ s.size ≤ LIM ∧ l.length ≤ 2513169434843 ∧ ∀ t ∈ l, okT t := by rw [okT, okTs_iff]
theorem okT.k {t : Te} (h : okT t) : i64 t.k := by cases t; exact (okT_mk.1 h).1
theorem okT.n {t : Te} (h : okT t) : i64 t.n := by cases t; exact (okT_mk.1 h).2.1
theorem okT.s {t : Te} (h : okT t) : t.s.size ≤ LIM := by cases t; exact (okT_mk.1 h).2.2.1
theorem okT.l {t : Te} (h : okT t) : t.l.length ≤ 2513169434843 := by cases t; exact (okT_mk.1 h).2.2.2.1
theorem wfT_all (d : D) : (Wf d T_Term → ∃ t, d = eT t ∧ okT t) ∧ (Wf d T_Terms → ∃ l : List Te, d = .r (l.map eT) ∧ l.length ≤ 2513169434843 ∧ ∀ t ∈ l, okT t) := by
  have noS : ∀ {d : D}, Wf d T_Term → ∃ l, d = .a l := fun h => let ⟨l, e, _⟩ := h.st_of (fs := [.int .i64, .int .i64, .str, T_Terms]) rfl; ⟨l, e⟩
  have noR : ∀ {d : D}, Wf d T_Terms → ∃ l, d = .r l := fun h => let ⟨l, e, _⟩ := h.row_of (te := T_Term) rfl; ⟨l, e⟩
  induction d using D.ind with
  | hu => exact ⟨fun h => (by obtain ⟨_, e⟩ := noS h; cases e), fun h => (by obtain ⟨_, e⟩ := noR h; cases e)⟩
  | hi n => exact ⟨fun h => (by obtain ⟨_, e⟩ := noS h; cases e), fun h => (by obtain ⟨_, e⟩ := noR h; cases e)⟩
  | hb n => exact ⟨fun h => (by obtain ⟨_, e⟩ := noS h; cases e), fun h => (by obtain ⟨_, e⟩ := noR h; cases e)⟩
  | hs n => exact ⟨fun h => (by obtain ⟨_, e⟩ := noS h; cases e), fun h => (by obtain ⟨_, e⟩ := noR h; cases e)⟩
  | hm n => exact ⟨fun h => (by obtain ⟨_, e⟩ := noS h; cases e), fun h => (by obtain ⟨_, e⟩ := noR h; cases e)⟩
  | ha l ih =>
    refine ⟨fun h => ?_, fun h => (by obtain ⟨_, e⟩ := noR h; cases e)⟩
    obtain ⟨ds, e, hl⟩ := h.st_of (fs := [.int .i64, .int .i64, .str, T_Terms]) rfl
    injection e with e
    subst e
    obtain ⟨d0, r, rfl, h0, hl⟩ := wfL_cons hl
    obtain ⟨d1, r, rfl, h1, hl⟩ := wfL_cons hl
    obtain ⟨d2, d3, rfl, h2, h3⟩ := wfL2 hl
    obtain ⟨k, rfl, hk⟩ := wfI h0
    obtain ⟨n, rfl, hn⟩ := wfI h1
    obtain ⟨s, rfl, hs⟩ := h2.str
    obtain ⟨ts, rfl, h4, h5⟩ := (ih d3 (by simp)).2 h3
    exact ⟨.mk k n s ts, (eT_mk _ _ _ _).symm, okT_mk.2 ⟨hk, hn, hs, h4, h5⟩⟩
  | hr l ih =>
    refine ⟨fun h => (by obtain ⟨_, e⟩ := noS h; cases e), fun h => ?_⟩
    obtain ⟨l', e, h1, h2⟩ := h.row_of (te := T_Term) rfl
    injection e with e
    subst e
    obtain ⟨m, rfl, h3⟩ := of_all (e := eT) (P := okT) fun x hx => (ih x hx).1 (h2 x hx)
    have e : LM T_Term = 2513169434843 := by kernel_rfl
    rw [e, List.length_map] at h1
    exact ⟨m, rfl, h1, h3⟩
theorem wfT {d : D} (h : Wf d T_Term) : ∃ t, d = eT t ∧ okT t := (wfT_all d).1 h
theorem wfTs {d : D} (h : Wf d T_Terms) : ∃ l : List Te, d = .r (l.map eT) ∧ l.length ≤ 2513169434843 ∧ ∀ t ∈ l, okT t := (wfT_all d).2 h

def nodeT (t : Te) : Bool :=
  if t.k = 0 then decide (0 ≤ t.n) && (decide (t.n ≤ 1099511627776) && (decide (t.s = ⟨#[]⟩) && decide ((t.l.length : Int) = 0)))
  else if t.k = 1 then decide (t.s = ⟨#[]⟩) && decide ((t.l.length : Int) = 0)
  else if t.k = 2 then decide (t.n = 0) && (decide ((t.s.size : Int) ≤ 100) && decide ((t.l.length : Int) = 0))
  else if t.k = 3 then decide (t.n = 0) && (decide ((t.s.size : Int) ≤ 100) && (decide (1 ≤ (t.l.length : Int)) && decide ((t.l.length : Int) ≤ 8)))
  else false
mutual
def nodesT : Te → Bool
  | .mk k n s l => nodeT (.mk k n s l) && nodesTs l
def nodesTs : List Te → Bool
  | [] => true
  | t :: l => nodesT t && nodesTs l
end
theorem nodesTs_iff : ∀ {l : List Te}, nodesTs l = true ↔ ∀ t ∈ l, nodesT t = true
  | [] => ⟨fun _ t h => (by cases h), fun _ => rfl⟩
  | t :: l => by rw [nodesTs, Bool.and_eq_true, nodesTs_iff]; simp
theorem nodesT_all (t : Te) : nodesT t = (nodeT t && (List.range t.l.length).all fun i => nodesT (t.l.getD i default)) := by
  cases t with
  | mk k n s l =>
    rw [nodesT]
    congr 1
    rw [Bool.eq_iff_iff, nodesTs_iff, List.all_eq_true]
    refine ⟨fun h i hi => h _ (getD_mem (List.mem_range.1 hi)), fun h t ht => ?_⟩
    obtain ⟨i, hi, rfl⟩ := List.getElem_of_mem ht
    have := h i (List.mem_range.2 hi)
    rwa [show (Te.mk k n s l).l.getD i default = l[i] by simp [Te.l, List.getD_eq_getElem?_getD, List.getElem?_eq_getElem hi]] at this
def validT (t : Te) : Bool := decide (szT t ≤ 2000) && nodesT t

mutual
def idT : Te → Te → Bool
  | .mk k n s l, .mk k' n' s' l' => decide (k = k') && (decide (n = n') && (decide (s = s') && idTs l l'))
def idTs : List Te → List Te → Bool
  | [], [] => true
  | t :: l, u :: m => idT t u && idTs l m
  | _, _ => false
end
mutual
theorem idT_iff : ∀ (t u : Te), idT t u = true ↔ t = u
  | .mk k n s l, .mk k' n' s' l' => by simp [idT, idTs_iff l l']
theorem idTs_iff : ∀ (l m : List Te), idTs l m = true ↔ l = m
  | [], [] => by simp [idTs]
  | t :: l, u :: m => by simp [idTs, idT_iff t u, idTs_iff l m]
  | [], _ :: _ => by simp [idTs]
  | _ :: _, [] => by simp [idTs]
end
instance : DecidableEq Te := fun t u => if h : idT t u = true then .isTrue ((idT_iff t u).1 h) else .isFalse fun e => h ((idT_iff t u).2 e)
end Go.Proofs.Ytmebmpgffhajbaa


namespace Go.Proofs.Ytmebmpgffhajbaa
open Go.RowKit
set_option linter.unusedVariables false
set_option linter.unusedSimpArgs false

def mT (ds : List D) : Nat := szT (dT (ds.getD 0 .u))
def gTi (f : Te → Int) : List D → Option (List D)
  | [t] => some [.i (f (dT t))]
  | _ => none
def gTb (f : Te → Bool) : List D → Option (List D)
  | [t] => some [.b (f (dT t))]
  | _ => none
def gTT (f : Te → Te) : List D → Option (List D)
  | [t] => some [eT (f (dT t))]
  | _ => none
def gTTb (f : Te → Te → Bool) : List D → Option (List D)
  | [t, v] => some [.b (f (dT t) (dT v))]
  | _ => none

theorem Te_l (k n : Int) (s : ByteArray) (l : List Te) : (Te.mk k n s l).l = l := rfl
theorem get_t {l : List Te} {k : Nat} (h : k < l.length) : (D.r (l.map eT)).get (k : Int) = eT (l.getD k default) := get_n eT h
theorem arg_sz {t : Te} {k : Nat} (h : k < t.l.length) : szT (t.l.getD k default) < szT t := szT_arg (getD_mem h)

theorem nodes_iff (t : Te) : nodesT t = true ↔ nodeT t = true ∧ ∀ j, j < t.l.length → nodesT (t.l.getD j default) = true := by
  rw [nodesT_all, Bool.and_eq_true, List.all_eq_true]
  simp
theorem same_iff {t u : Te} : idT t u = true ↔ t.k = u.k ∧ t.n = u.n ∧ t.s = u.s ∧ t.l.length = u.l.length ∧ ∀ j, j < t.l.length → idT (t.l.getD j default) (u.l.getD j default) = true := by
  rw [idT_iff]
  cases t with
  | mk k n s l =>
    cases u with
    | mk k' n' s' l' =>
      simp only [Te.k, Te.n, Te.s, Te.l, Te.mk.injEq, idT_iff]
      refine ⟨?_, ?_⟩
      · rintro ⟨rfl, rfl, rfl, rfl⟩
        exact ⟨rfl, rfl, rfl, rfl, fun _ _ => rfl⟩
      · rintro ⟨rfl, rfl, rfl, h1, h2⟩
        refine ⟨rfl, rfl, rfl, List.ext_getElem h1 fun i hi hi' => ?_⟩
        have := h2 i hi
        simpa [List.getD_eq_getElem?_getD, List.getElem?_eq_getElem hi, List.getElem?_eq_getElem hi'] using this
def gSz1 : List D → Option (List D)
  | [t, m] => if 1 ≤ m.int then some [.i (m.int - min (szT (dT t) : Int) m.int)] else none
  | _ => none
theorem ok_term_Size_1 : FOk q0y gSz1 := fok_cut (m := mT) enter_term_Size_1 fun N ih => fok_term_Size_1 ih fun ds outs hw hg => by
  obtain ⟨d, r, rfl, hd, e, r', rfl, he, rfl⟩ := hw
  obtain ⟨t, rfl, ht⟩ := wfT hd
  obtain ⟨m, rfl, hm⟩ := wfI he
  simp only [cutM, mT, gSz1, List.getD_cons_zero, dT_eT, int_i, Option.ite_none_right_eq_some, Option.some.injEq] at hg
  obtain ⟨hsz, h1, rfl⟩ := hg
  have hl := ht.l
  rw [q2x, q00]
  refine ⟨by simp only [q00, go_br, q01, q02, allSay, X.says, X.ev, X.evs, evl, tblS, List.getD_cons_zero, List.getD_cons_succ, List.getElem?_cons_zero, List.getElem?_cons_succ, tt_b, int_i, str_s, rs_r, Option.isSome_some, Option.getD_some, decide_eq_true_eq, decide_eq_false_iff_not, dS_eS, dC_eC, dU_eU, dW_eW, dY_eY, eC_0, eC_1, eU_0, eU_1, eW_0, eW_1, eW_2, eY_0, eY_1, eS_0, eS_1, eS_2, eS_3, eS_4, eS_5, List.length_map, i_inj, b_inj, s_inj, eC_eq, eU_eq, eW_eq, eY_eq, eS_eq, rng64, List.take_succ_cons, List.take_zero, List.nil_append, List.cons_append, decide_true, decide_false, Bool.or_true, true_and, and_true, dT_eT, eT_0, eT_1, eT_2, eT_3, eT_eq, eT_z]; omega, ?_⟩
  rw [q1b]
  refine ⟨fun st => ∃ k : Nat, k ≤ t.l.length ∧ st = [.i k, .i (m - min ((szTs (t.l.take k) : Int) + 1) m)], fun st => t.l.length - (st.getD 0 .u).int.toNat, ⟨0, Nat.zero_le _, by simp [X.evs, X.ev, szTs, evl, D.int]; omega⟩, ?_⟩
  rintro st - ⟨k, hk, rfl⟩
  rw [go_br]
  refine ⟨fun hlt => ?_, fun hlt => ?_⟩
  · simp only [q00, go_br, q01, q02, allSay, X.says, X.ev, X.evs, evl, tblS, List.getD_cons_zero, List.getD_cons_succ, List.getElem?_cons_zero, List.getElem?_cons_succ, tt_b, int_i, str_s, rs_r, Option.isSome_some, Option.getD_some, decide_eq_true_eq, decide_eq_false_iff_not, dS_eS, dC_eC, dU_eU, dW_eW, dY_eY, eC_0, eC_1, eU_0, eU_1, eW_0, eW_1, eW_2, eY_0, eY_1, eS_0, eS_1, eS_2, eS_3, eS_4, eS_5, List.length_map, i_inj, b_inj, s_inj, eC_eq, eU_eq, eW_eq, eY_eq, eS_eq, rng64, List.take_succ_cons, List.take_zero, List.nil_append, List.cons_append, decide_true, decide_false, Bool.or_true, true_and, and_true, dT_eT, eT_0, eT_1, eT_2, eT_3, eT_eq, eT_z, Bool.and_eq_true] at hlt
    obtain ⟨hkl, hlm⟩ := hlt
    have hkl' : k < t.l.length := by omega
    have ha := arg_sz hkl'
    have hs := szTs_snoc hkl'
    have hmn : 1 ≤ m - min ((szTs (t.l.take k) : Int) + 1) m := by omega
    simp only [q00, go_br, q01, q02, allSay, X.says, X.ev, X.evs, evl, tblS, List.getD_cons_zero, List.getD_cons_succ, List.getElem?_cons_zero, List.getElem?_cons_succ, tt_b, int_i, str_s, rs_r, Option.isSome_some, Option.getD_some, decide_eq_true_eq, decide_eq_false_iff_not, dS_eS, dC_eC, dU_eU, dW_eW, dY_eY, eC_0, eC_1, eU_0, eU_1, eW_0, eW_1, eW_2, eY_0, eY_1, eS_0, eS_1, eS_2, eS_3, eS_4, eS_5, List.length_map, i_inj, b_inj, s_inj, eC_eq, eU_eq, eW_eq, eY_eq, eS_eq, rng64, List.take_succ_cons, List.take_zero, List.nil_append, List.cons_append, decide_true, decide_false, Bool.or_true, true_and, and_true, dT_eT, eT_0, eT_1, eT_2, eT_3, eT_eq, eT_z, get_t hkl', cutM, mT, gSz1, if_pos hmn, if_pos (show szT (t.l.getD k default) < N by omega)]
    refine ⟨⟨by omega, by omega⟩, ⟨by omega, by omega⟩, ?_⟩
    rw [updB, if_pos rfl]
    refine ⟨⟨k + 1, by omega, ?_⟩, ?_⟩
    · rw [hs]
      simp
      omega
    · simp [D.int]
      omega
  · simp only [q00, go_br, q01, q02, allSay, X.says, X.ev, X.evs, evl, tblS, List.getD_cons_zero, List.getD_cons_succ, List.getElem?_cons_zero, List.getElem?_cons_succ, tt_b, int_i, str_s, rs_r, Option.isSome_some, Option.getD_some, decide_eq_true_eq, decide_eq_false_iff_not, dS_eS, dC_eC, dU_eU, dW_eW, dY_eY, eC_0, eC_1, eU_0, eU_1, eW_0, eW_1, eW_2, eY_0, eY_1, eS_0, eS_1, eS_2, eS_3, eS_4, eS_5, List.length_map, i_inj, b_inj, s_inj, eC_eq, eU_eq, eW_eq, eY_eq, eS_eq, rng64, List.take_succ_cons, List.take_zero, List.nil_append, List.cons_append, decide_true, decide_false, Bool.or_true, true_and, and_true, dT_eT, eT_0, eT_1, eT_2, eT_3, eT_eq, eT_z, Bool.and_eq_false_iff] at hlt
    simp only [q00, go_br, q01, q02, allSay, X.says, X.ev, X.evs, evl, tblS, List.getD_cons_zero, List.getD_cons_succ, List.getElem?_cons_zero, List.getElem?_cons_succ, tt_b, int_i, str_s, rs_r, Option.isSome_some, Option.getD_some, decide_eq_true_eq, decide_eq_false_iff_not, dS_eS, dC_eC, dU_eU, dW_eW, dY_eY, eC_0, eC_1, eU_0, eU_1, eW_0, eW_1, eW_2, eY_0, eY_1, eS_0, eS_1, eS_2, eS_3, eS_4, eS_5, List.length_map, i_inj, b_inj, s_inj, eC_eq, eU_eq, eW_eq, eY_eq, eS_eq, rng64, List.take_succ_cons, List.take_zero, List.nil_append, List.cons_append, decide_true, decide_false, Bool.or_true, true_and, and_true, dT_eT, eT_0, eT_1, eT_2, eT_3, eT_eq, eT_z]
    have hz := szT_l t
    have : m - min ((szTs (t.l.take k) : Int) + 1) m = m - min (szT t : Int) m := by
      rcases hlt with h | h
      · have : k = t.l.length := by omega
        subst this
        rw [List.take_length]
        omega
      · have h2 := szTs_app (t.l.take k) (t.l.drop k)
        rw [List.take_append_drop] at h2
        omega
    rw [this]
theorem ok_term_Size : FOk q0v (gTi fun t => min (szT t : Int) 2001) := fok_term_Size ok_term_Size_1 fun ds outs hw hg => by
  obtain ⟨d, r, rfl, hd, rfl⟩ := hw
  obtain ⟨t, rfl, ht⟩ := wfT hd
  simp only [gTi, dT_eT, Option.some.injEq] at hg
  subst hg
  simp [q3p, q00, go_br, q01, q02, allSay, X.says, X.ev, X.evs, evl, tblS, List.getD_cons_zero, List.getD_cons_succ, List.getElem?_cons_zero, List.getElem?_cons_succ, tt_b, int_i, str_s, rs_r, Option.isSome_some, Option.getD_some, decide_eq_true_eq, decide_eq_false_iff_not, dS_eS, dC_eC, dU_eU, dW_eW, dY_eY, eC_0, eC_1, eU_0, eU_1, eW_0, eW_1, eW_2, eY_0, eY_1, eS_0, eS_1, eS_2, eS_3, eS_4, eS_5, List.length_map, i_inj, b_inj, s_inj, eC_eq, eU_eq, eW_eq, eY_eq, eS_eq, rng64, List.take_succ_cons, List.take_zero, List.nil_append, List.cons_append, decide_true, decide_false, Bool.or_true, true_and, and_true, dT_eT, eT_0, eT_1, eT_2, eT_3, eT_eq, eT_z, gSz1]
  omega
theorem ok_term_fits : FOk q0j (gTb nodesT) := fok_cut (m := mT) enter_term_fits fun N ih => fok_term_fits ih fun ds outs hw hg => by
  obtain ⟨d, r, rfl, hd, rfl⟩ := hw
  obtain ⟨t, rfl, ht⟩ := wfT hd
  simp only [cutM, mT, gTb, List.getD_cons_zero, dT_eT, int_i, Option.ite_none_right_eq_some, Option.some.injEq] at hg
  obtain ⟨hsz, rfl⟩ := hg
  have hl := ht.l
  have key : ∀ (x : X), x.ev (evl (tblS [(q0j, cutM mT N (gTb nodesT))]) [eT t]) = .b (nodeT t) → Tree.go (tblS [(q0j, cutM mT N (gTb nodesT))]) (fun o => o = [D.b (nodesT t)]) (.loop 12 1 [x, (.lit (.i 0))] (.br (.and (.lt (.tok 2) (.len (.fld (.tok 0) 3))) (.tok 1)) (.need [(.le (.lit (.i 0)) (.tok 2)), (.lt (.tok 2) (.len (.fld (.tok 0) 3))), (.ok 0 [(.get (.fld (.tok 0) 3) (.tok 2))])] (.need [(.rng .i64 (.add (.tok 2) (.lit (.i 1))))] (.back 12 [(.call 0 0 [(.get (.fld (.tok 0) 3) (.tok 2))]), (.add (.tok 2) (.lit (.i 1)))]))) (.leaf [(.tok 1)]))) [eT t] fun _ _ => False := by
    intro x hx
    rw [q1b]
    refine ⟨fun st => ∃ (k : Nat) (v : Bool), k ≤ t.l.length ∧ st = [.b v, .i k] ∧ (v = true ↔ nodeT t = true ∧ ∀ j, j < k → nodesT (t.l.getD j default) = true), fun st => t.l.length - (st.getD 1 .u).int.toNat, ⟨0, nodeT t, Nat.zero_le _, by simp only [X.evs, hx, X.ev]; rfl, by simp⟩, ?_⟩
    rintro st - ⟨k, v, hk, rfl, hv⟩
    rw [go_br]
    refine ⟨fun hlt => ?_, fun hlt => ?_⟩
    · simp only [q00, go_br, q01, q02, allSay, X.says, X.ev, X.evs, evl, tblS, List.getD_cons_zero, List.getD_cons_succ, List.getElem?_cons_zero, List.getElem?_cons_succ, tt_b, int_i, str_s, rs_r, Option.isSome_some, Option.getD_some, decide_eq_true_eq, decide_eq_false_iff_not, dS_eS, dC_eC, dU_eU, dW_eW, dY_eY, eC_0, eC_1, eU_0, eU_1, eW_0, eW_1, eW_2, eY_0, eY_1, eS_0, eS_1, eS_2, eS_3, eS_4, eS_5, List.length_map, i_inj, b_inj, s_inj, eC_eq, eU_eq, eW_eq, eY_eq, eS_eq, rng64, List.take_succ_cons, List.take_zero, List.nil_append, List.cons_append, decide_true, decide_false, Bool.or_true, true_and, and_true, dT_eT, eT_0, eT_1, eT_2, eT_3, eT_eq, eT_z, Bool.and_eq_true] at hlt
      obtain ⟨hlt, rfl⟩ := hlt
      have hkl' : k < t.l.length := by omega
      have ha := arg_sz hkl'
      simp only [q00, go_br, q01, q02, allSay, X.says, X.ev, X.evs, evl, tblS, List.getD_cons_zero, List.getD_cons_succ, List.getElem?_cons_zero, List.getElem?_cons_succ, tt_b, int_i, str_s, rs_r, Option.isSome_some, Option.getD_some, decide_eq_true_eq, decide_eq_false_iff_not, dS_eS, dC_eC, dU_eU, dW_eW, dY_eY, eC_0, eC_1, eU_0, eU_1, eW_0, eW_1, eW_2, eY_0, eY_1, eS_0, eS_1, eS_2, eS_3, eS_4, eS_5, List.length_map, i_inj, b_inj, s_inj, eC_eq, eU_eq, eW_eq, eY_eq, eS_eq, rng64, List.take_succ_cons, List.take_zero, List.nil_append, List.cons_append, decide_true, decide_false, Bool.or_true, true_and, and_true, dT_eT, eT_0, eT_1, eT_2, eT_3, eT_eq, eT_z, get_t hkl', cutM, mT, gTb, if_pos (show szT (t.l.getD k default) < N by omega)]
      refine ⟨⟨by omega, by omega⟩, ⟨by omega, by omega⟩, ?_⟩
      rw [updB, if_pos rfl]
      have hv' := hv.1 rfl
      refine ⟨⟨k + 1, _, by omega, rfl, ⟨fun h => ⟨hv'.1, upto_succ hv'.2 h⟩, fun h => h.2 k (Nat.lt_succ_self _)⟩⟩, ?_⟩
      simp [D.int]
      omega
    · simp only [q00, go_br, q01, q02, allSay, X.says, X.ev, X.evs, evl, tblS, List.getD_cons_zero, List.getD_cons_succ, List.getElem?_cons_zero, List.getElem?_cons_succ, tt_b, int_i, str_s, rs_r, Option.isSome_some, Option.getD_some, decide_eq_true_eq, decide_eq_false_iff_not, dS_eS, dC_eC, dU_eU, dW_eW, dY_eY, eC_0, eC_1, eU_0, eU_1, eW_0, eW_1, eW_2, eY_0, eY_1, eS_0, eS_1, eS_2, eS_3, eS_4, eS_5, List.length_map, i_inj, b_inj, s_inj, eC_eq, eU_eq, eW_eq, eY_eq, eS_eq, rng64, List.take_succ_cons, List.take_zero, List.nil_append, List.cons_append, decide_true, decide_false, Bool.or_true, true_and, and_true, dT_eT, eT_0, eT_1, eT_2, eT_3, eT_eq, eT_z, Bool.and_eq_false_iff] at hlt
      simp only [q00, go_br, q01, q02, allSay, X.says, X.ev, X.evs, evl, tblS, List.getD_cons_zero, List.getD_cons_succ, List.getElem?_cons_zero, List.getElem?_cons_succ, tt_b, int_i, str_s, rs_r, Option.isSome_some, Option.getD_some, decide_eq_true_eq, decide_eq_false_iff_not, dS_eS, dC_eC, dU_eU, dW_eW, dY_eY, eC_0, eC_1, eU_0, eU_1, eW_0, eW_1, eW_2, eY_0, eY_1, eS_0, eS_1, eS_2, eS_3, eS_4, eS_5, List.length_map, i_inj, b_inj, s_inj, eC_eq, eU_eq, eW_eq, eY_eq, eS_eq, rng64, List.take_succ_cons, List.take_zero, List.nil_append, List.cons_append, decide_true, decide_false, Bool.or_true, true_and, and_true, dT_eT, eT_0, eT_1, eT_2, eT_3, eT_eq, eT_z]
      rw [show v = nodesT t from ?_]
      cases hvv : v with
      | false =>
        cases hh : nodesT t with
        | false => rfl
        | true =>
          have h2 := (nodes_iff t).1 hh
          rw [hv.2 ⟨h2.1, fun j hj => h2.2 j (by omega)⟩] at hvv
          cases hvv
      | true =>
        have : k = t.l.length := by
          rcases hlt with h | h
          · omega
          · rw [hvv] at h; cases h
        subst this
        exact ((nodes_iff t).2 (hv.1 hvv)).symm
  rw [q3k]
  simp only [go_br]
  have e0 : ∀ z : Int, (X.eq (.fld (.tok 0) 0) (.lit (.i z))).ev (evl (tblS [(q0j, cutM mT N (gTb nodesT))]) [eT t]) = .b (decide (t.k = z)) := fun z => by
    simp only [q00, go_br, q01, q02, allSay, X.says, X.ev, X.evs, evl, tblS, List.getD_cons_zero, List.getD_cons_succ, List.getElem?_cons_zero, List.getElem?_cons_succ, tt_b, int_i, str_s, rs_r, Option.isSome_some, Option.getD_some, decide_eq_true_eq, decide_eq_false_iff_not, dS_eS, dC_eC, dU_eU, dW_eW, dY_eY, eC_0, eC_1, eU_0, eU_1, eW_0, eW_1, eW_2, eY_0, eY_1, eS_0, eS_1, eS_2, eS_3, eS_4, eS_5, List.length_map, i_inj, b_inj, s_inj, eC_eq, eU_eq, eW_eq, eY_eq, eS_eq, rng64, List.take_succ_cons, List.take_zero, List.nil_append, List.cons_append, decide_true, decide_false, Bool.or_true, true_and, and_true, dT_eT, eT_0, eT_1, eT_2, eT_3, eT_eq, eT_z]
  simp only [e0, tt_b, decide_eq_true_eq, decide_eq_false_iff_not]
  refine ⟨fun h => key _ ?_, fun h0 => ⟨fun h => key _ ?_, fun h1 => ⟨fun h => key _ ?_, fun h2 => ⟨fun h => key _ ?_, fun h3 => key _ ?_⟩⟩⟩⟩
  all_goals simp only [q00, go_br, q01, q02, allSay, X.says, X.ev, X.evs, evl, tblS, List.getD_cons_zero, List.getD_cons_succ, List.getElem?_cons_zero, List.getElem?_cons_succ, tt_b, int_i, str_s, rs_r, Option.isSome_some, Option.getD_some, decide_eq_true_eq, decide_eq_false_iff_not, dS_eS, dC_eC, dU_eU, dW_eW, dY_eY, eC_0, eC_1, eU_0, eU_1, eW_0, eW_1, eW_2, eY_0, eY_1, eS_0, eS_1, eS_2, eS_3, eS_4, eS_5, List.length_map, i_inj, b_inj, s_inj, eC_eq, eU_eq, eW_eq, eY_eq, eS_eq, rng64, List.take_succ_cons, List.take_zero, List.nil_append, List.cons_append, decide_true, decide_false, Bool.or_true, true_and, and_true, dT_eT, eT_0, eT_1, eT_2, eT_3, eT_eq, eT_z, nodeT]
  · simp [h, Bool.and_assoc]
  · simp [h, Bool.and_assoc]
  · simp [h, Bool.and_assoc]
  · have e8 : decide (0 < (t.l.length : Int)) = decide (1 ≤ (t.l.length : Int)) := rfl
    rw [e8]
    simp [h, Bool.and_assoc]
  · simp [h0, h1, h2, h3]
theorem q2s : FOk q0h (gTb validT) := fok_term_Valid ok_term_Size ok_term_fits fun ds outs hw hg => by
  obtain ⟨d, r, rfl, hd, rfl⟩ := hw
  obtain ⟨t, rfl, ht⟩ := wfT hd
  simp only [gTb, dT_eT, Option.some.injEq] at hg
  subst hg
  have e : decide (min (szT t : Int) 2001 ≤ 2000) = decide (szT t ≤ 2000) := by rw [decide_eq_decide]; omega
  simp [q3b, q00, go_br, q01, q02, allSay, X.says, X.ev, X.evs, evl, tblS, List.getD_cons_zero, List.getD_cons_succ, List.getElem?_cons_zero, List.getElem?_cons_succ, tt_b, int_i, str_s, rs_r, Option.isSome_some, Option.getD_some, decide_eq_true_eq, decide_eq_false_iff_not, dS_eS, dC_eC, dU_eU, dW_eW, dY_eY, eC_0, eC_1, eU_0, eU_1, eW_0, eW_1, eW_2, eY_0, eY_1, eS_0, eS_1, eS_2, eS_3, eS_4, eS_5, List.length_map, i_inj, b_inj, s_inj, eC_eq, eU_eq, eW_eq, eY_eq, eS_eq, rng64, List.take_succ_cons, List.take_zero, List.nil_append, List.cons_append, decide_true, decide_false, Bool.or_true, true_and, and_true, dT_eT, eT_0, eT_1, eT_2, eT_3, eT_eq, eT_z, gTi, gTb, validT, e]
theorem ok_term_Clone_1 : FOk q19 (gTT id) := fok_term_Clone_1 fun ds outs hw hg => by
  obtain ⟨d, r, rfl, hd, rfl⟩ := hw
  obtain ⟨t, rfl, ht⟩ := wfT hd
  simp only [gTT, dT_eT, Option.some.injEq] at hg
  subst hg
  simp only [q2j, q00, go_br, q01, q02, allSay, X.says, X.ev, X.evs, evl, tblS, List.getD_cons_zero, List.getD_cons_succ, List.getElem?_cons_zero, List.getElem?_cons_succ, tt_b, int_i, str_s, rs_r, Option.isSome_some, Option.getD_some, decide_eq_true_eq, decide_eq_false_iff_not, dS_eS, dC_eC, dU_eU, dW_eW, dY_eY, eC_0, eC_1, eU_0, eU_1, eW_0, eW_1, eW_2, eY_0, eY_1, eS_0, eS_1, eS_2, eS_3, eS_4, eS_5, List.length_map, i_inj, b_inj, s_inj, eC_eq, eU_eq, eW_eq, eY_eq, eS_eq, rng64, List.take_succ_cons, List.take_zero, List.nil_append, List.cons_append, decide_true, decide_false, Bool.or_true, true_and, and_true, dT_eT, eT_0, eT_1, eT_2, eT_3, eT_eq, eT_z, id]
theorem ok_term_apply : FOk q14 (gTT id) := fok_cut (m := mT) enter_term_apply fun N ih => fok_term_apply ok_term_Clone_1 ih fun ds outs hw hg => by
  obtain ⟨d, r, rfl, hd, rfl⟩ := hw
  obtain ⟨t, rfl, ht⟩ := wfT hd
  simp only [cutM, mT, gTT, List.getD_cons_zero, dT_eT, int_i, Option.ite_none_right_eq_some, Option.some.injEq] at hg
  obtain ⟨hsz, rfl⟩ := hg
  have hl := ht.l
  rw [q39, go_br]
  refine ⟨fun h => ?_, fun h => ?_⟩
  · simp only [q00, go_br, q01, q02, allSay, X.says, X.ev, X.evs, evl, tblS, List.getD_cons_zero, List.getD_cons_succ, List.getElem?_cons_zero, List.getElem?_cons_succ, tt_b, int_i, str_s, rs_r, Option.isSome_some, Option.getD_some, decide_eq_true_eq, decide_eq_false_iff_not, dS_eS, dC_eC, dU_eU, dW_eW, dY_eY, eC_0, eC_1, eU_0, eU_1, eW_0, eW_1, eW_2, eY_0, eY_1, eS_0, eS_1, eS_2, eS_3, eS_4, eS_5, List.length_map, i_inj, b_inj, s_inj, eC_eq, eU_eq, eW_eq, eY_eq, eS_eq, rng64, List.take_succ_cons, List.take_zero, List.nil_append, List.cons_append, decide_true, decide_false, Bool.or_true, true_and, and_true, dT_eT, eT_0, eT_1, eT_2, eT_3, eT_eq, eT_z, gTT, id]
  rw [q1b]
  refine ⟨fun st => ∃ k : Nat, k ≤ t.l.length ∧ st = [.i k, eT (.mk t.k t.n t.s (t.l.take k))], fun st => t.l.length - (st.getD 0 .u).int.toNat, ⟨0, Nat.zero_le _, by simp only [X.evs, X.ev, evl, List.getD_cons_zero, eT_0, eT_1, eT_2, eT_mk]; rfl⟩, ?_⟩
  rintro st - ⟨k, hk, rfl⟩
  rw [go_br]
  refine ⟨fun hlt => ?_, fun hlt => ?_⟩
  · simp only [q00, go_br, q01, q02, allSay, X.says, X.ev, X.evs, evl, tblS, List.getD_cons_zero, List.getD_cons_succ, List.getElem?_cons_zero, List.getElem?_cons_succ, tt_b, int_i, str_s, rs_r, Option.isSome_some, Option.getD_some, decide_eq_true_eq, decide_eq_false_iff_not, dS_eS, dC_eC, dU_eU, dW_eW, dY_eY, eC_0, eC_1, eU_0, eU_1, eW_0, eW_1, eW_2, eY_0, eY_1, eS_0, eS_1, eS_2, eS_3, eS_4, eS_5, List.length_map, i_inj, b_inj, s_inj, eC_eq, eU_eq, eW_eq, eY_eq, eS_eq, rng64, List.take_succ_cons, List.take_zero, List.nil_append, List.cons_append, decide_true, decide_false, Bool.or_true, true_and, and_true, dT_eT, eT_0, eT_1, eT_2, eT_3, eT_eq, eT_z] at hlt
    have hkl' : k < t.l.length := by omega
    have ha := arg_sz hkl'
    simp only [q00, go_br, q01, q02, allSay, X.says, X.ev, X.evs, evl, tblS, List.getD_cons_zero, List.getD_cons_succ, List.getElem?_cons_zero, List.getElem?_cons_succ, tt_b, int_i, str_s, rs_r, Option.isSome_some, Option.getD_some, decide_eq_true_eq, decide_eq_false_iff_not, dS_eS, dC_eC, dU_eU, dW_eW, dY_eY, eC_0, eC_1, eU_0, eU_1, eW_0, eW_1, eW_2, eY_0, eY_1, eS_0, eS_1, eS_2, eS_3, eS_4, eS_5, List.length_map, i_inj, b_inj, s_inj, eC_eq, eU_eq, eW_eq, eY_eq, eS_eq, rng64, List.take_succ_cons, List.take_zero, List.nil_append, List.cons_append, decide_true, decide_false, Bool.or_true, true_and, and_true, dT_eT, eT_0, eT_1, eT_2, eT_3, eT_eq, eT_z, get_t hkl', cutM, mT, gTT, if_pos (show szT (t.l.getD k default) < N by omega), id, Te_l, List.length_take]
    refine ⟨⟨by omega, by omega⟩, by omega, ⟨by omega, by omega⟩, ?_⟩
    rw [updB, if_pos rfl]
    refine ⟨⟨k + 1, by omega, ?_⟩, ?_⟩
    · rw [take_snoc hkl', eT_snoc]
      rfl
    · simp [D.int]
      omega
  · simp only [q00, go_br, q01, q02, allSay, X.says, X.ev, X.evs, evl, tblS, List.getD_cons_zero, List.getD_cons_succ, List.getElem?_cons_zero, List.getElem?_cons_succ, tt_b, int_i, str_s, rs_r, Option.isSome_some, Option.getD_some, decide_eq_true_eq, decide_eq_false_iff_not, dS_eS, dC_eC, dU_eU, dW_eW, dY_eY, eC_0, eC_1, eU_0, eU_1, eW_0, eW_1, eW_2, eY_0, eY_1, eS_0, eS_1, eS_2, eS_3, eS_4, eS_5, List.length_map, i_inj, b_inj, s_inj, eC_eq, eU_eq, eW_eq, eY_eq, eS_eq, rng64, List.take_succ_cons, List.take_zero, List.nil_append, List.cons_append, decide_true, decide_false, Bool.or_true, true_and, and_true, dT_eT, eT_0, eT_1, eT_2, eT_3, eT_eq, eT_z] at hlt ⊢
    have : k = t.l.length := by omega
    subst this
    rw [List.take_length]
    cases t
    rfl
theorem ok_term_Clone : FOk q13 (gTT fun t => if validT t then t else zT) := fok_term_Clone q2s ok_term_apply fun ds outs hw hg => by
  obtain ⟨d, r, rfl, hd, rfl⟩ := hw
  obtain ⟨t, rfl, ht⟩ := wfT hd
  simp only [gTT, dT_eT, Option.some.injEq] at hg
  subst hg
  simp only [q3c, q00, go_br, q01, q02, allSay, X.says, X.ev, X.evs, evl, tblS, List.getD_cons_zero, List.getD_cons_succ, List.getElem?_cons_zero, List.getElem?_cons_succ, tt_b, int_i, str_s, rs_r, Option.isSome_some, Option.getD_some, decide_eq_true_eq, decide_eq_false_iff_not, dS_eS, dC_eC, dU_eU, dW_eW, dY_eY, eC_0, eC_1, eU_0, eU_1, eW_0, eW_1, eW_2, eY_0, eY_1, eS_0, eS_1, eS_2, eS_3, eS_4, eS_5, List.length_map, i_inj, b_inj, s_inj, eC_eq, eU_eq, eW_eq, eY_eq, eS_eq, rng64, List.take_succ_cons, List.take_zero, List.nil_append, List.cons_append, decide_true, decide_false, Bool.or_true, true_and, and_true, dT_eT, eT_0, eT_1, eT_2, eT_3, eT_eq, eT_z, gTb, gTT, id]
  cases validT t <;> simp
def gSt (f : ByteArray → Te) : List D → Option (List D)
  | [s] => some [eT (f s.str)]
  | _ => none
def atomT (s : ByteArray) : Te := if s.size ≤ 100 then .mk 2 0 s [] else zT
theorem atomT_ok {s : ByteArray} (h : s.size ≤ 100) : atomT s = .mk 2 0 s [] := if_pos h
theorem ok_term_Atom : FOk q18 (gSt atomT) := fok_term_Atom ok_term_Clone fun ds outs hw hg => by
  obtain ⟨d, r, rfl, hd, rfl⟩ := hw
  obtain ⟨s, rfl, hs⟩ := hd.str
  simp only [gSt, str_s, Option.some.injEq] at hg
  subst hg
  have e : D.a ((D.a ([D.i 0, .i 0, .s ⟨#[]⟩, .r []].set 0 (.i 2))).fs.set 2 (.s s)) = eT (.mk 2 0 s []) := rfl
  simp only [q3o, q00, go_br, q01, q02, allSay, X.says, X.ev, X.evs, evl, tblS, List.getD_cons_zero, List.getD_cons_succ, List.getElem?_cons_zero, List.getElem?_cons_succ, tt_b, int_i, str_s, rs_r, Option.isSome_some, Option.getD_some, decide_eq_true_eq, decide_eq_false_iff_not, dS_eS, dC_eC, dU_eU, dW_eW, dY_eY, eC_0, eC_1, eU_0, eU_1, eW_0, eW_1, eW_2, eY_0, eY_1, eS_0, eS_1, eS_2, eS_3, eS_4, eS_5, List.length_map, i_inj, b_inj, s_inj, eC_eq, eU_eq, eW_eq, eY_eq, eS_eq, rng64, List.take_succ_cons, List.take_zero, List.nil_append, List.cons_append, decide_true, decide_false, Bool.or_true, true_and, and_true, dT_eT, eT_0, eT_1, eT_2, eT_3, eT_eq, eT_z, gTT, fs_a]
  have e2 : D.a (((eT zT).fs.set 0 (.i 2)).set 2 (.s s)) = eT (.mk 2 0 s []) := rfl
  simp only [e2]
  have : validT (.mk 2 0 s []) = decide (s.size ≤ 100) := by
    rw [Bool.eq_iff_iff]
    simp [validT, szT, szTs, nodesT, nodesTs, nodeT, Te.k, Te.n, Te.s, Te.l]
    exact Iff.trans decide_eq_true_iff (Int.ofNat_le (n := 100))
  simp only [dT_eT, this, atomT, decide_eq_true_eq]
def gIt (f : Int → Te) : List D → Option (List D)
  | [n] => some [eT (f n.int)]
  | _ => none
theorem ok_term_Int : FOk q1u (gIt fun n => .mk 1 n ⟨#[]⟩ []) := fok_term_Int fun ds outs hw hg => by
  obtain ⟨d, r, rfl, hd, rfl⟩ := hw
  obtain ⟨n, rfl, hn⟩ := wfI hd
  simp only [gIt, int_i, Option.some.injEq] at hg
  subst hg
  simp only [tree_term_Int, q00, go_br, q01, q02, allSay, X.says, X.ev, X.evs, evl, tblS, List.getD_cons_zero, List.getD_cons_succ, List.getElem?_cons_zero, List.getElem?_cons_succ, tt_b, int_i, str_s, rs_r, Option.isSome_some, Option.getD_some, decide_eq_true_eq, decide_eq_false_iff_not, dS_eS, dC_eC, dU_eU, dW_eW, dY_eY, eC_0, eC_1, eU_0, eU_1, eW_0, eW_1, eW_2, eY_0, eY_1, eS_0, eS_1, eS_2, eS_3, eS_4, eS_5, List.length_map, i_inj, b_inj, s_inj, eC_eq, eU_eq, eW_eq, eY_eq, eS_eq, rng64, List.take_succ_cons, List.take_zero, List.nil_append, List.cons_append, decide_true, decide_false, Bool.or_true, true_and, and_true, dT_eT, eT_0, eT_1, eT_2, eT_3, eT_eq, eT_z]
  rfl
end Go.Proofs.Ytmebmpgffhajbaa

