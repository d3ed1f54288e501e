/-
  Lemmas of the walk and plain laws, put together. No condition.
-/
import Derived.Great.BuildSlice
import Derived.OrdersHeld
import Derived.Test.YtmebmpgffhajbaaKc
namespace Go.Proofs.Ytmebmpgffhajbaa
open Go.RowKit
set_option linter.unusedVariables false
set_option maxRecDepth 100000

section
variable {A A' : Nat → Prop} {p : Pins} {w : World} (hA : ∀ b, b < w.heap.size → A b → A' b)
include hA

theorem FFD.chA {dep : List Nat} {b : Nat} (hb : b < w.heap.size) (h : FFD A p dep b) : FFD A' p dep b := by
  rcases h with ⟨h1, h2⟩ | h
  · exact .inl ⟨hA b hb h1, h2⟩
  · exact .inr h

theorem Rd.chA {dep : List Nat} {d : D} {t : Ty} {cs : List Value} (h : Rd w (FFD A p dep) d t cs) : Rd w (FFD A' p dep) d t cs := Rd.mono (fun b hb hf => hf.chA hA hb) h

theorem Fl.chA {dep : List Nat} {o : Option Nat} {d : D} {t : Ty} {cs : List Value} (h : Fl A p w dep o d t cs) : Fl A' p w dep o d t cs := by
  cases o with
  | none => exact Rd.chA hA h
  | some pin =>
    rcases h with ⟨E, te, l, v, e1, hte, e2, e3, hv⟩ | h
    · refine .inl ⟨E, te, l, v, e1, hte, e2, e3, ?_⟩
      rcases hv with hv | ⟨g, cap, cur, e4, hg, hh, q1, q2, q3, q4, q5⟩
      · exact .inl hv
      · refine .inr ⟨g, cap, cur, e4, hg, hh, q1, q2, q3, q4, fun i hi => ?_⟩
        obtain ⟨vs, hr1, hd⟩ := q5 i hi
        exact ⟨vs, hr1, Rd.chA hA hd⟩
    · exact .inr h

theorem Fls.chA {dep : List Nat} {own : List (Nat × Nat)} : ∀ {ds : List D} {j : Nat} {fs : List Ty} {cs : List Value}, Fls A p w dep own j ds fs cs → Fls A' p w dep own j ds fs cs
  | [], _, _, _, h => h
  | d :: ds, j, fs, cs, ⟨t, ts, c1, c2, e1, e2, h1, h2⟩ => ⟨t, ts, c1, c2, e1, e2, Fl.chA hA h1, Fls.chA h2⟩

theorem Con.chA {dep : List Nat} {own : List (Nat × Nat)} {d : D} {t : Ty} {cs : List Value} (h : Con A p w d t own dep cs) : Con A' p w d t own dep cs := by
  unfold Con at h ⊢
  split
  · obtain ⟨fs, ds, hf, e, h⟩ := h
    exact ⟨fs, ds, hf, e, Fls.chA hA h⟩
  · rename_i hne
    split at h
    · rename_i T; exact absurd rfl (hne T)
    · exact Fl.chA hA h
end

mutual
/-- No word of a snapshot within. -/
def AV.plain : AV → Bool
  | .sn _ _ => false
  | .pt _ _ _ _ => false
  | .ar _ _ _ => false
  | .lv _ _ => false
  | .ax _ _ _ _ => false
  | .tup l => avsPlain l
  | .gd _ a => AV.plain a
  | .fn _ l => avsPlain l
  | .bx _ _ a => AV.plain a
  | .fr _ a => AV.plain a
  | _ => true
def avsPlain : List AV → Bool
  | [] => true
  | a :: l => AV.plain a && avsPlain l
end

section
variable {c c' : Cx} {p : Pins} {w : World}
mutual
theorem AV.chA (hA : ∀ b, b < w.heap.size → c.A b → c'.A b) (hv : c.v = c'.v) (hT : c.At = c'.At) : ∀ (x : AV) (v : Value), x.plain = true → x.pd c p w v → x.pd c' p w v
  | .any, v, _, h => h
  | .undef, v, _, h => h
  | .nilS, v, _, h => h
  | .nb x neg, v, _, ⟨b, e, h⟩ => ⟨b, e, by rw [← hv]; exact h⟩
  | .nilP, v, _, h => h
  | .ref k q o t, v, _, ⟨g, hg, e, ha⟩ => ⟨g, hg, e, by rw [← hT]; exact ha⟩
  | .v x t own dep, v, _, ⟨cs, hp, hc⟩ => ⟨cs, hp, by rw [← hv]; exact hc.chA hA⟩
  | .rd x t dep wr, v, _, ⟨b, o, cs, e, hf, hr, h0, hd, hw⟩ => by
    refine ⟨b, o, cs, e, hf.chA hA (rangeAt_lt hr h0), hr, h0, by rw [← hv]; exact Rd.chA hA hd, ?_⟩
    match wr, hw with
    | none, _ => trivial
    | some (pin, i, pt, q, te), hw =>
      refine ⟨hw.1, ?_⟩
      rw [← hv]
      exact hw.2
  | .tup l, v, hb, ⟨vs, e, h⟩ => ⟨vs, e, pds_chA hA hv hT l vs (by simpa [AV.plain] using hb) h⟩
  | .gd cs a, v, hb, h => by
    rw [show AV.pd c' p w (.gd cs a) v = ((hold c'.v cs = true → AV.pd c' p w a v) ∧ (hold c'.v cs = false → v = Go.undef)) from rfl, ← hv]
    exact ⟨fun hc => AV.chA hA hv hT a v (by simpa [AV.plain] using hb) (h.1 hc), h.2⟩
  | .fn f l, v, hb, ⟨vs, e, h⟩ => ⟨vs, e, pds_chA hA hv hT l vs (by simpa [AV.plain] using hb) h⟩
  | .bx k T a, v, hb, ⟨g, u, hg, e, hh, h⟩ => ⟨g, u, ⟨hg.1, by rw [← hT]; exact hg.2⟩, e, hh, AV.chA hA hv hT a u (by simpa [AV.plain] using hb) h⟩
  | .sn t a, v, hb, h => by simp [AV.plain] at hb
  | .pt _ _ _ _, v, hb, h => by simp [AV.plain] at hb
  | .ar _ _ _, v, hb, h => by simp [AV.plain] at hb
  | .lv _ _, v, hb, h => by simp [AV.plain] at hb
  | .ax _ _ _ _, v, hb, h => by simp [AV.plain] at hb
  | .fr T a, v, hb, ⟨g, u, ha, hf, e, hh, h⟩ => ⟨g, u, hA g (Array.getElem?_eq_some_iff.1 hh).1 ha, hf, e, hh, AV.chA hA hv hT a u (by simpa [AV.plain] using hb) h⟩
theorem pds_chA (hA : ∀ b, b < w.heap.size → c.A b → c'.A b) (hv : c.v = c'.v) (hT : c.At = c'.At) : ∀ (l : List AV) (vs : List Value), avsPlain l = true → pds c p w l vs → pds c' p w l vs
  | [], vs, _, h => h
  | a :: l, vs, hb, ⟨v, r, e, ha, hl⟩ => by
    simp only [avsPlain, Bool.and_eq_true] at hb
    exact ⟨v, r, e, AV.chA hA hv hT a v hb.1 ha, pds_chA hA hv hT l r hb.2 hl⟩
end

theorem EntOk.chA (hA : ∀ b, b < w.heap.size → c.A b → c'.A b) (hv : c.v = c'.v) {k : Nat} {e : Ent} (h : EntOk c p w k e) : EntOk c' p w k e := by
  obtain ⟨g, cs, T, hg, hh, hc⟩ := h
  exact ⟨g, cs, T, hg, hh, by rw [← hv]; exact hc.chA hA⟩

def snT (l : List (Nat × AV)) : List (Nat × AV) := l.map fun e => (e.1, .sn e.1 e.2)
def plainT (l : List (Nat × AV)) : Bool := l.all fun e => e.2.plain

theorem lkA_mapK {α β : Type} {f : Nat → α → β} {l : List (Nat × α)} {k : Nat} {y : β} (h : lkA (l.map fun e => (e.1, f e.1 e.2)) k = some y) : ∃ x, lkA l k = some x ∧ y = f k x := by
  induction l with
  | nil => cases h
  | cons e l ih =>
    obtain ⟨m, x⟩ := e
    by_cases hm : m = k
    · subst hm
      rw [List.map_cons, q01] at h
      injection h with h
      exact ⟨x, q01, h.symm⟩
    · rw [List.map_cons, q03 hm] at h
      rw [q03 hm]
      exact ih h

theorem SF.snap (hA : ∀ b, b < w.heap.size → c.A b → c'.A b) (hv : c.v = c'.v) (hT : c.At = c'.At) {σ : St} {a : Act} (hs : ∀ t v, a.tmps[t]? = some v → c'.snap t = v) (hp : plainT σ.t = true) (h : SF c σ p w a) : SF c' ⟨snT σ.t, σ.m⟩ p w a := by
  refine ⟨fun t x hx => ?_, fun k e he => (h.m k e he).chA hA hv⟩
  obtain ⟨y, hy, rfl⟩ := lkA_mapK (f := fun t x => AV.sn t x) hx
  obtain ⟨v, h1, h2⟩ := h.t t y hy
  exact ⟨v, h1, (hs t v h1).symm, AV.chA hA hv hT y v (List.all_eq_true.1 hp _ (q16 hy)) h2⟩
theorem SF.other {σ : St} {a b : Act} (hs : ∀ t, a.tmps[t]? = some (c.snap t) ∨ a.tmps[t]? = none) (hsz : b.tmps.size ≤ a.tmps.size) (hall : ∀ t x, lkA σ.t t = some x → ∃ y, x = .sn t y) (h : SF c σ p w b) : SF c σ p w a := by
  refine ⟨fun t x hx => ?_, h.m⟩
  obtain ⟨y, rfl⟩ := hall t x hx
  obtain ⟨v, h1, h2, h3⟩ := h.t t _ hx
  have hlt := (Array.getElem?_eq_some_iff.1 h1).1
  rcases hs t with h4 | h4
  · exact ⟨v, by rw [h4, h2], h2, h3⟩
  · rw [Array.getElem?_eq_none_iff] at h4
    omega
end

section
variable {A : Nat → Prop} {p p' : Pins} {w w' w0 : World} {S0 : Nat → Prop}

theorem Bs.comp (h : Bs A w0 S0 p w) (h' : Bs A w (pinned p) p' w') : Bs A w0 S0 p' w' := by
  refine ⟨h'.inj, h'.bd, ⟨h'.but.os.trans h.but.os, h'.but.tape.trans h.but.tape, h'.but.output.trans h.but.output, Nat.le_trans h.but.size h'.but.size, fun k hk hn => ?_⟩, fun x b hx => ?_, h.new, h'.pa, h'.obj⟩
  · have hkw : k < w.heap.size := Nat.lt_of_lt_of_le hk h.but.size
    refine (h'.but.block k hkw fun ⟨x, hx⟩ => ?_).trans (h.but.block k hk hn)
    rcases h.pin x k hx with h1 | h1
    · exact hn h1
    · omega
  · rcases h'.pin x b hx with ⟨y, hy⟩ | h1
    · exact h.pin y b hy
    · exact .inr (Nat.le_trans h.but.size h1)

end
end Go.Proofs.Ytmebmpgffhajbaa


namespace Go.Proofs.Ytmebmpgffhajbaa
open Go.RowKit
set_option linter.unusedVariables false
set_option maxRecDepth 100000

end Go.Proofs.Ytmebmpgffhajbaa


namespace Go.Proofs.Ytmebmpgffhajbaa
open Go.RowKit
set_option linter.unusedVariables false
set_option maxRecDepth 100000

section
variable {c : Cx} {p : Pins} {w w' w0 : World} {S0 : Nat → Prop} {a : Act} {σ σ' : St} {d : List Deferred} {z : Nat} {tbl : Tbl} {A : Nat → Prop}

theorem SF.same (hs : Stab c.A no no p w p w') (h : SF c σ p w a) : SF c σ p w' a := by
  refine ⟨fun t x hx => ?_, fun k e he => (h.m k e he).kept hs (fun _ _ => ⟨rfl, rfl⟩) ⟨rfl, rfl⟩⟩
  obtain ⟨v, h1, h2⟩ := h.t t x hx
  exact ⟨v, h1, AV.kept hs x v (fun _ _ => ⟨rfl, rfl⟩) (fun _ _ => rfl) h2⟩

end
end Go.Proofs.Ytmebmpgffhajbaa


namespace Go.Proofs.Ytmebmpgffhajbaa
open Go.RowKit
set_option linter.unusedVariables false
set_option maxRecDepth 100000

theorem Bs.up {A A' : Nat → Prop} {p p' : Pins} {w w' w0 : World} {S0 : Nat → Prop} (h : Bs A w0 S0 p w) (h' : Bs A' w (pinned p) p' w') (hA : ∀ b, A' b → A b) : Bs A w0 S0 p' w' :=
  h.comp ⟨h'.inj, h'.bd, h'.but, h'.pin, fun b hb => h.new b (Nat.le_trans h.but.size hb), fun x b hx => hA b (h'.pa x b hx), h'.obj⟩

section
variable {lo z : Nat} {tbl : Tbl}

end
end Go.Proofs.Ytmebmpgffhajbaa


namespace Go.Proofs.Ytmebmpgffhajbaa
open Go.RowKit
set_option linter.unusedVariables false
set_option maxRecDepth 100000

theorem ResL.chA {A A' : Nat → Prop} {p : Pins} {w : World} (hA : ∀ b, b < w.heap.size → A b → A' b) : ∀ {rs : List (Ty × Bool)} {k : Nat} {vs : List Value} {ds : List D}, ResL A p w rs k vs ds → ResL A' p w rs k vs ds
  | [], _, _, _, h => h
  | (t, own) :: l, k, vs, ds, ⟨v, r, d, ds', e1, e2, ⟨cs, hp, hc⟩, h⟩ => ⟨v, r, d, ds', e1, e2, ⟨cs, hp, hc.chA hA⟩, ResL.chA hA h⟩
theorem RefL.chA {A A' : Nat → Prop} {p p' : Pins} {w : World} (hA : ∀ b, b < w.heap.size → A b → A' b) : ∀ {all : List (Nat × Ar)} {ds : List D}, RefL A p p' w all ds → RefL A' p p' w all ds
  | [], _, h => h
  | (i, r) :: l, ds, h => by
    cases r with
    | ref t =>
      obtain ⟨d, ds', e, ⟨g, cs, T, h1, h2, h3, hc⟩, h⟩ := h
      exact ⟨d, ds', e, ⟨g, cs, T, h1, h2, h3, hc.chA hA⟩, RefL.chA hA h⟩
    | mref t =>
      obtain ⟨d, ds', e, ⟨g, h1, h2, hc⟩, h⟩ := h
      exact ⟨d, ds', e, ⟨g, h1, h2, hc.chA hA⟩, RefL.chA hA h⟩
    | _ => exact RefL.chA hA (all := l) h

end Go.Proofs.Ytmebmpgffhajbaa


namespace Go.Proofs.Ytmebmpgffhajbaa
open Go.RowKit
set_option linter.unusedVariables false
set_option linter.unusedSimpArgs false

theorem int_i (n : Int) : (D.i n).int = n := rfl
theorem tt_b (x : Bool) : (D.b x).tt = x := by cases x <;> rfl
theorem rs_r (l : List D) : (D.r l).rs = l := rfl
theorem str_s (x : ByteArray) : (D.s x).str = x := rfl
theorem ms_mp (l : List D) : (D.mp l).ms = l := rfl
theorem i_inj (m n : Int) : (D.i m = D.i n) = (m = n) := by simp
theorem b_inj (m n : Bool) : (D.b m = D.b n) = (m = n) := by simp
theorem s_inj (m n : ByteArray) : (D.s m = D.s n) = (m = n) := by simp
theorem r_inj (m n : List D) : (D.r m = D.r n) = (m = n) := by simp

theorem q00 {S : Nat → List D → Option (List D)} {R : List D → Prop} {ns : List X} {t : Tree} {l : List D} {B : Nat → List D → Prop} : (Tree.need ns t).go S R l B = (allSay (evl S l) ns ∧ t.go S R l B) := rfl
theorem go_br {S : Nat → List D → Option (List D)} {R : List D → Prop} {x : X} {t e : Tree} {l : List D} {B : Nat → List D → Prop} : (Tree.br x t e).go S R l B = (((x.ev (evl S l)).tt = true → t.go S R l B) ∧ ((x.ev (evl S l)).tt = false → e.go S R l B)) := rfl
theorem q02 {S : Nat → List D → Option (List D)} {R : List D → Prop} {xs : List X} {l : List D} {B : Nat → List D → Prop} : (Tree.leaf xs).go S R l B = R (X.evs (evl S l) xs) := rfl
theorem q04 {S : Nat → List D → Option (List D)} {R : List D → Prop} {id : Nat} {xs : List X} {l : List D} {B : Nat → List D → Prop} : (Tree.back id xs).go S R l B = B id (X.evs (evl S l) xs) := rfl
theorem go_loop {S : Nat → List D → Option (List D)} {R : List D → Prop} {id n : Nat} {init : List X} {body : Tree} {l : List D} {B : Nat → List D → Prop} : (Tree.loop id n init body).go S R l B = ∃ (I : List D → Prop) (μ : List D → Nat), I (X.evs (evl S l) init) ∧
      ∀ st, st.length = init.length → I st → body.go S R (l.take n ++ st) (updB B id fun st' => I st' ∧ μ st' < μ st) := rfl
theorem rng64 {n : Int} : rngB .i64 n = true ↔ -9223372036854775808 ≤ n ∧ n ≤ 9223372036854775807 := by simp [rngB]

section
variable {α : Type} [Inhabited α]
theorem get_map (e : α → D) {l : List α} {i : Nat} (h : i < l.length) : (l.map e).getD i .u = e (l.getD i default) := by
  simp [List.getD_eq_getElem?_getD, h]
theorem get_r (e : α → D) {l : List α} {i : Int} (h0 : 0 ≤ i) (h : i < l.length) : (D.r (l.map e)).get i = e (l.getD i.toNat default) := get_map e (by omega)
theorem get_n (e : α → D) {l : List α} {i : Nat} (h : i < l.length) : (D.r (l.map e)).get (i : Int) = e (l.getD i default) := get_map e (by simpa using h)
omit [Inhabited α] in
theorem of_all {e : α → D} {P : α → Prop} {l : List D} (h : ∀ x ∈ l, ∃ a, x = e a ∧ P a) : ∃ m : List α, l = m.map e ∧ ∀ a ∈ m, P a := by
  induction l with
  | nil => exact ⟨[], rfl, fun a ha => by cases ha⟩
  | cons x l ih =>
    obtain ⟨a, rfl, ha⟩ := h x List.mem_cons_self
    obtain ⟨m, rfl, hm⟩ := ih fun y hy => h y (List.mem_cons_of_mem _ hy)
    refine ⟨a :: m, rfl, fun b hb => ?_⟩
    rcases List.mem_cons.1 hb with rfl | hb
    · exact ha
    · exact hm b hb
theorem getD_mem {l : List α} {i : Nat} (h : i < l.length) : l.getD i default ∈ l := by
  rw [List.getD_eq_getElem?_getD, List.getElem?_eq_getElem h]
  exact List.getElem_mem h
theorem take_snoc {l : List α} {k : Nat} (h : k < l.length) : l.take (k + 1) = l.take k ++ [l.getD k default] := by
  rw [List.take_add_one, List.getElem?_eq_getElem h]
  simp [List.getD_eq_getElem?_getD, h]
end

theorem all_yes {n : Nat} {P : Nat → Bool} (h : ∀ j, j < n → P j = true) : (List.range n).all P = true := by
  rw [List.all_eq_true]
  exact fun j hj => h j (List.mem_range.1 hj)
theorem all_not {n k : Nat} {P : Nat → Bool} (hk : k < n) (h : P k = false) : (List.range n).all P = false := by
  cases ha : (List.range n).all P with
  | false => rfl
  | true => rw [List.all_eq_true.1 ha k (List.mem_range.2 hk)] at h; cases h
theorem all_of {n k : Nat} {P : Nat → Bool} (h : (List.range n).all P = true) (hk : k < n) : P k = true := List.all_eq_true.1 h k (List.mem_range.2 hk)
theorem upto_succ {P : Nat → Prop} {k : Nat} (h : ∀ j, j < k → P j) (hk : P k) : ∀ j, j < k + 1 → P j := fun j hj => by
  rcases Nat.lt_succ_iff_lt_or_eq.1 hj with h1 | h1
  · exact h j h1
  · exact h1 ▸ hk

theorem wfL2 {ds : List D} {t u : Ty} (h : WfL ds [t, u]) : ∃ a b, ds = [a, b] ∧ Wf a t ∧ Wf b u := by
  match ds, h with
  | [], h => cases h
  | [a], h => obtain ⟨t, ts, e, h1, h2⟩ := h; rw [h2] at e; cases e
  | [a, b], h =>
    obtain ⟨t, ts, e, h1, t2, ts2, e2, h2, -⟩ := h
    injection e with e e'
    subst e e'
    injection e2 with e2 e2'
    subst e2
    exact ⟨a, b, rfl, h1, h2⟩
  | a :: b :: c :: l, h => obtain ⟨t, ts, e, h1, t2, ts2, e2, h2, t3, ts3, e3, -⟩ := h; subst e2 e3; cases e
theorem wfL_cons {ds : List D} {t : Ty} {ts : List Ty} (h : WfL ds (t :: ts)) : ∃ a r, ds = a :: r ∧ Wf a t ∧ WfL r ts := by
  match ds, h with
  | [], h => cases h
  | a :: r, h =>
    obtain ⟨t, ts, e, h1, h2⟩ := h
    injection e with e e'
    subst e e'
    exact ⟨a, r, rfl, h1, h2⟩
theorem Wf.st_of {d : D} {S : TypeId} {fs : List Ty} (h : Wf d (.st S)) (hf : flds S = some fs) : ∃ ds, d = .a ds ∧ WfL ds fs := by
  obtain ⟨ds, fs', rfl, hf', hl⟩ := h.st
  rw [hf] at hf'
  injection hf' with hf'
  subst hf'
  exact ⟨ds, rfl, hl⟩
theorem Wf.row_of {d : D} {E : TypeId} {te : Ty} (h : Wf d (.row E)) (hE : tyOf E = some te) : ∃ l, d = .r l ∧ l.length ≤ LM te ∧ ∀ x ∈ l, Wf x te := by
  obtain ⟨l, te', rfl, hE', h1, h2⟩ := h.row
  rw [hE] at hE'
  injection hE' with hE'
  subst hE'
  exact ⟨l, rfl, h1, h2⟩
end Go.Proofs.Ytmebmpgffhajbaa


namespace Go.Proofs.Ytmebmpgffhajbaa
open Go.RowKit
set_option linter.unusedVariables false
set_option maxRecDepth 100000

def treeH (P : Program) (tbl : Tbl) (ann : Ann) (ct : Ct) (fn : Func) (A B : Code) (f : St → Option (List X × St)) : Tree :=
  toT P tbl ann ct.ar.length fn.ntmps A [] (dataN ct.ars) (begS ct) fun n r σ => match r with
    | .normal => (match f σ with
      | some (N, σ') => needT N (toT P tbl ann ct.ar.length fn.ntmps B [] n σ' (endT ct fn.results.toList))
      | none => .bad 7700000)
    | .ret => endT ct fn.results.toList n .ret σ
    | .exit i => endT ct fn.results.toList n (.exit i) σ

noncomputable def codeA : Code := match Try.f31.body with
  | some (.seq r0 (.seq r1 (.seq r2 (.seq (.seq r3 _) _)))) => .seq r0 (.seq r1 (.seq r2 r3))
  | _ => .skip
noncomputable def codeL : Code := match Try.f31.body with
  | some (.seq r0 (.seq r1 (.seq r2 (.seq (.seq r3 l) _)))) => l
  | _ => .skip
noncomputable def codeB : Code := match Try.f31.body with
  | some (.seq r0 (.seq r1 (.seq r2 (.seq (.seq r3 _) b)))) => b
  | _ => .skip

def killO : List Nat := [8, 27, 28, 29, 30, 31, 32, 33, 34, 35, 36, 37, 38, 39, 40, 41, 42]
def keepO (pin : Nat) (σ : St) : St := ⟨keepT (oneQ pin) no (σ.t.filter fun e => !hasN killO e.1), keepM (oneQ pin) no σ.m⟩
def doOlds (σ : St) : Option (List X × St) := match lkA σ.t 25, lkA σ.t 26, lkA σ.t 27, lkA σ.t 6, lkA σ.m 6 with
  | some (.v xT (.row U) own dep), some (.v xn (.int .i64) _ _), some (.v (.lit (.i 0)) (.int .i64) _ _), some (.ref 6 [] 0 tm), some ⟨.lit (.mp []), te, [(0, pin)], _⟩ =>
    if Nat.beq U 37 && (Ty.beq tm (.map 3 23) && (Ty.beq te tm && (!Nat.beq pin 96 && !hasN (own.map (·.2) ++ dep) pin))) then
      some ([.eq xn (.len xT)], ⟨((keepO pin σ).un (oneQ pin)).t, putA ((keepO pin σ).un (oneQ pin)).m 6 ⟨.fn 16 [xT], tm, [], []⟩⟩)
    else none
  | _, _, _, _, _ => none
end Go.Proofs.Ytmebmpgffhajbaa


namespace Go.Proofs.Ytmebmpgffhajbaa
open Go.RowKit
set_option linter.unusedVariables false
set_option maxRecDepth 100000

theorem row_ty : tyOf 23 = some (.row 31) := by kernel_rfl
theorem int_ty : tyOf 3 = some (.int .i64) := by kernel_rfl
theorem mapO_ty : tyOf 93 = some (.map 3 23) := by kernel_rfl

section
variable {W W' : World} {te : Ty}

def El (W : World) (te : Ty) (ds : List D) (v : Value) (b : Nat) : Prop := ∃ cap cur, v = .slice (some ⟨b, 0, none⟩) ds.length cap ∧ W.heap[b]? = some (.cells cur 31 (0, 0)) ∧ ds.length ≤ cap ∧ cap ≤ maxLen ∧ cur.size = cap * te.w ∧ ds.length ≤ LM te ∧
  ∀ i (h : i < ds.length), ∃ cs, W.rangeAt b (i * te.w) cs ∧ Rd W (fun _ => False) ds[i] te cs

theorem El.keep {ds : List D} {v : Value} {b : Nat} (hfl : flatB 8 te = true) (h : El W te ds v b) (he : W'.heap[b]? = W.heap[b]?) : El W' te ds v b := by
  obtain ⟨cap, cur, h1, h2, h3, h4, h5, h6, h7⟩ := h
  refine ⟨cap, cur, h1, he.trans h2, h3, h4, h5, h6, fun i hi => ?_⟩
  obtain ⟨cs, q1, q2⟩ := h7 i hi
  exact ⟨cs, rangeAt_blk q1 he, Rd.flat 8 _ hfl q2⟩

def Els (W : World) (te : Ty) : List D → List MapEntry → List Nat → Prop
  | [], [], [] => True
  | p :: l, e :: es, b :: bs => (∃ k ds, p = .a [.i k, .r ds] ∧ e.key = .int .i64 k ∧ rngB .i64 k = true ∧ El W te ds e.val b) ∧ Els W te l es bs
  | _, _, _ => False

theorem Els.keep (hfl : flatB 8 te = true) : ∀ {l : List D} {es : List MapEntry} {bs : List Nat}, Els W te l es bs → (∀ b ∈ bs, W'.heap[b]? = W.heap[b]?) → Els W' te l es bs
  | [], [], [], _, _ => trivial
  | p :: l, e :: es, b :: bs, ⟨⟨k, ds, h1, h2, h3, h4⟩, h⟩, hb => ⟨⟨k, ds, h1, h2, h3, h4.keep hfl (hb b (by simp))⟩, Els.keep hfl h fun x hx => hb x (by simp [hx])⟩
  | [], [], _ :: _, h, _ => h.elim
  | [], _ :: _, _, h, _ => h.elim
  | _ :: _, [], _, h, _ => h.elim
  | _ :: _, _ :: _, [], h, _ => h.elim

theorem encI {k : Int} (h : rngB .i64 k = true) : encV (.int .i64) (.i k) = some (.int .i64 k) := by
  simp [encV, encC, h, packV]

theorem Els.keys : ∀ {l : List D} {es : List MapEntry} {bs : List Nat}, Els W te l es bs → MapK (.int .i64) l es
  | [], [], [], _ => trivial
  | p :: l, e :: es, b :: bs, ⟨⟨k, ds, h1, h2, h3, h4⟩, h⟩ => ⟨⟨.i k, .r ds, h1, by rw [encI h3, h2]⟩, Els.keys h⟩
  | [], [], _ :: _, h => h.elim
  | [], _ :: _, _, h => h.elim
  | _ :: _, [], _, h => h.elim
  | _ :: _, _ :: _, [], h => h.elim

theorem Els.rdM {F : Nat → Prop} {C : TypeId} (hC : tyOf C = some te) (hCC : C = 31) (hfl : flatB 8 te = true) : ∀ {l : List D} {es : List MapEntry} {bs : List Nat}, Els W te l es bs → (∀ b ∈ bs, F b) → RdM W F l (.int .i64) (.row C) es
  | [], [], [], _, _ => rfl
  | p :: l, e :: es, b :: bs, ⟨⟨k, ds, h1, h2, h3, cap, cur, q1, q2, q3, q4, q5, q6, q7⟩, h⟩, hF => by
    refine ⟨e, es, rfl, rdK_iff.2 ⟨.i k, .r ds, [.int .i64 k], [e.val], h1, ⟨.i64, rfl, rfl, h3⟩, by rw [h2]; rfl, ?_, rfl⟩, Els.rdM hC hCC hfl h fun x hx => hF x (by simp [hx])⟩
    rw [q1]
    refine ⟨C, te, some ⟨b, 0, none⟩, cap, rfl, hC, rfl, q3, q6, q4, rdE_iff.2 fun j hj => ?_⟩
    obtain ⟨cs, r1, r2⟩ := q7 j hj
    exact ⟨b, 0, cs, rfl, hF b (by simp), by simpa using r1, Rd.flat 8 _ hfl r2⟩
  | [], [], _ :: _, h, _ => h.elim
  | [], _ :: _, _, h, _ => h.elim
  | _ :: _, [], _, h, _ => h.elim
  | _ :: _, _ :: _, [], h, _ => h.elim

theorem Els.old (hfl : flatB 8 te = true) {k : Int} : ∀ {l : List D} {es : List MapEntry} {bs : List Nat} {i j : Nat} {v : Value}, Els W te l es bs → bs.Nodup → fsD (.i k) l es i = some (i + j, v) →
    ∃ b ds, bs[j]? = some b ∧ El W te ds v b ∧ (es[j]?).map (·.key) = some (.int .i64 k) ∧ ∀ (x : D) (W' : World) (v' : Value) (b' : Nat), (∀ y ∈ bs, y ≠ b → W'.heap[y]? = W.heap[y]?) → El W' te (ds ++ [x]) v' b' →
      Els W' te (addK (.i k) x l) (es.modify j fun e => { e with key := .int .i64 k, val := v' }) (bs.set j b')
  | [], [], [], i, j, v, h, _, hf => by simp [fsD] at hf
  | p :: l, e :: es, b :: bs, i, j, v, ⟨⟨k', ds, h1, h2, h3, h4⟩, h⟩, hnd, hf => by
    subst h1
    rw [List.nodup_cons] at hnd
    by_cases hk : k = k'
    · subst hk
      have hf1 : D.i k = D.fld (.a [.i k, .r ds]) 0 := rfl
      simp only [fsD, if_pos hf1, Option.some.injEq, Prod.mk.injEq] at hf
      obtain ⟨hij, rfl⟩ := hf
      obtain rfl : j = 0 := by omega
      refine ⟨b, ds, rfl, h4, by simp [h2], fun x W' v' b' hW hE => ?_⟩
      have : addK (.i k) x (.a [.i k, .r ds] :: l) = .a [.i k, .r (ds ++ [x])] :: l := by
        simp [addK, D.fld, D.fs, D.rs]
      rw [this]
      show Els W' te (.a [.i k, .r (ds ++ [x])] :: l) ({ e with key := .int .i64 k, val := v' } :: es) (b' :: bs)
      exact ⟨⟨k, ds ++ [x], rfl, rfl, h3, hE⟩, h.keep hfl fun y hy => hW y (by simp [hy]) fun e => by subst e; exact hnd.1 hy⟩
    · have hf1 : ¬ D.i k = D.fld (.a [.i k', .r ds]) 0 := fun e => hk (by simpa [D.fld, D.fs] using e)
      simp only [fsD, if_neg hf1] at hf
      have hj : ∃ m, j = m + 1 := by
        have key : ∀ {l : List D} {es : List MapEntry} {i m : Nat} {v : Value}, fsD (.i k) l es i = some (m, v) → i ≤ m := by
          intro l
          induction l with
          | nil => intro es i m v h; simp [fsD] at h
          | cons p l ih =>
            intro es i m v h
            cases es with
            | nil => simp [fsD] at h
            | cons e es =>
              unfold fsD at h
              split at h
              · simp only [Option.some.injEq, Prod.mk.injEq] at h; omega
              · have := ih h; omega
        have := key hf
        exact ⟨j - 1, by omega⟩
      obtain ⟨m, rfl⟩ := hj
      obtain ⟨b0, ds0, q1, q2, q3, q4⟩ := Els.old hfl (i := i + 1) (j := m) (v := v) h hnd.2 (by rw [hf]; congr 2; omega)
      refine ⟨b0, ds0, by simpa using q1, q2, by simpa using q3, fun x W' v' b' hW hE => ?_⟩
      have hne : ¬ D.fld (.a [.i k', .r ds]) 0 = D.i k := fun e => hf1 e.symm
      have : addK (.i k) x (.a [.i k', .r ds] :: l) = .a [.i k', .r ds] :: addK (.i k) x l := by
        simp only [addK, if_neg hne]
      rw [this]
      show Els W' te (.a [.i k', .r ds] :: addK (.i k) x l) (e :: es.modify m fun e => { e with key := .int .i64 k, val := v' }) (b :: bs.set m b')
      refine ⟨⟨k', ds, rfl, h2, h3, h4.keep hfl (hW b (by simp) fun e => ?_)⟩, q4 x W' v' b' (fun y hy hne => hW y (by simp [hy]) hne) hE⟩
      subst e
      exact hnd.1 (List.mem_of_getElem? q1)
  | [], [], _ :: _, _, _, _, h, _, _ => h.elim
  | [], _ :: _, _, _, _, _, h, _, _ => h.elim
  | _ :: _, [], _, _, _, _, h, _, _ => h.elim
  | _ :: _, _ :: _, [], _, _, _, h, _, _ => h.elim

theorem Els.new (hfl : flatB 8 te = true) {k : Int} (hk : rngB .i64 k = true) {x : D} {W' : World} {v' : Value} {b' c : Nat} (hE : El W' te [x] v' b') : ∀ {l : List D} {es : List MapEntry} {bs : List Nat} {i : Nat}, Els W te l es bs → (∀ y ∈ bs, W'.heap[y]? = W.heap[y]?) → fsD (.i k) l es i = none →
    Els W' te (addK (.i k) x l) (es ++ [{ key := .int .i64 k, val := v', born := c }]) (bs ++ [b'])
  | [], [], [], i, h, _, hf => ⟨⟨k, [x], rfl, rfl, hk, hE⟩, trivial⟩
  | p :: l, e :: es, b :: bs, i, ⟨⟨k', ds, h1, h2, h3, h4⟩, h⟩, hW, hf => by
    subst h1
    by_cases hkk : D.i k = D.fld (.a [.i k', .r ds]) 0
    · simp [fsD, if_pos hkk] at hf
    · simp only [fsD, if_neg hkk] at hf
      have hne : ¬ D.fld (.a [.i k', .r ds]) 0 = D.i k := fun e => hkk e.symm
      have : addK (.i k) x (.a [.i k', .r ds] :: l) = .a [.i k', .r ds] :: addK (.i k) x l := by
        simp only [addK, if_neg hne]
      rw [this]
      exact ⟨⟨k', ds, rfl, h2, h3, h4.keep hfl (hW b (by simp))⟩, Els.new hfl hk hE h (fun y hy => hW y (by simp [hy])) hf⟩
  | [], [], _ :: _, _, h, _, _ => h.elim
  | [], _ :: _, _, _, h, _, _ => h.elim
  | _ :: _, [], _, _, h, _, _ => h.elim
  | _ :: _, _ :: _, [], _, h, _, _ => h.elim

theorem Els.len : ∀ {l : List D} {es : List MapEntry} {bs : List Nat}, Els W te l es bs → bs.length = es.length ∧ l.length = es.length
  | [], [], [], _ => ⟨rfl, rfl⟩
  | p :: l, e :: es, b :: bs, ⟨_, h⟩ => by simp [Els.len h]
  | [], [], _ :: _, h => h.elim
  | [], _ :: _, _, h => h.elim
  | _ :: _, [], _, h => h.elim
  | _ :: _, _ :: _, [], h => h.elim
end

def atQ (b : Nat) : Nat → Prop := fun k => k = b

theorem el_app {W : World} {S : TypeId} (hS : tyOf 31 = some (.st S)) (hfl : flatB 8 (.st S) = true) {ds : List D} {va : Value} {b : Nat} (ha : (va = .slice none 0 0 ∧ ds = []) ∨ El W (.st S) ds va b) {nb : Nat} {vs : List Value} {x : D} (hx : Rd W (fun _ => False) x (.st S) vs)
    (hnb : W.heap[nb]? = some (.cells vs.toArray 31 (0, 0))) (hlm : ds.length + 1 ≤ LM (.st S)) (ty : TypeId) :
    ∃ v' w' b', (Builtin.append_ #[23, 23] ty #[va, .slice (some ⟨nb, 0, none⟩) 1 1]).run Try.prog W = .ok v' w' ∧ But (atQ b) W w' ∧ El w' (.st S) (ds ++ [x]) v' b' ∧ ((b' = b ∧ ∃ n c, va = .slice (some ⟨b, 0, none⟩) n c) ∨ W.heap.size ≤ b') ∧ b' < w'.heap.size := by
  have hvl := (Rd.len _ hx).1
  have hone := (Rd.len _ hx).2
  have hpos := tyOf_pos hS
  have key : ∀ (S0 : Nat → Prop) (p : Pins) (pin : Option Nat) (hb : Bs (fun _ => True) W S0 p W) (hP : ∀ y, p 1 = some y → pin = some 1) (hS0 : ∀ y, S0 y → y = b ∧ ∃ n c, va = .slice (some ⟨b, 0, none⟩) n c)
      (hva : (va = .slice none 0 0 ∧ ds.length = 0) ∨ ∃ x g cap cur, pin = some x ∧ va = .slice (some ⟨g, 0, none⟩) ds.length cap ∧ p x = some g ∧ W.heap[g]? = some (.cells cur 31 (0, 0)) ∧ ds.length ≤ cap ∧ cap ≤ maxLen ∧ cur.size = cap * (Ty.st S).w)
      (hold : ∀ y g, pin = some y → p y = some g → ∀ j (h : j < ds.length), ∃ cs, W.rangeAt g (j * (Ty.st S).w) cs ∧ Rd W (fun _ => False) ds[j] (.st S) cs),
      ∃ v' w' b', (Builtin.append_ #[23, 23] ty #[va, .slice (some ⟨nb, 0, none⟩) 1 1]).run Try.prog W = .ok v' w' ∧ But (atQ b) W w' ∧ El w' (.st S) (ds ++ [x]) v' b' ∧ ((b' = b ∧ ∃ n c, va = .slice (some ⟨b, 0, none⟩) n c) ∨ W.heap.size ≤ b') ∧ b' < w'.heap.size := by
    intro S0 p pin hb hP hS0 hva hold
    obtain ⟨v', p', w', hr, ho⟩ := run_app (T := 23) (cb := 1) row_ty hS hb hP hva (Ab := some ⟨nb, 0, none⟩) (news := vs) (m := 1) (by rw [hvl]; omega)
      (fun ad had j u hj => by
        injection had with had
        subst had
        rw [Addr.mid_eq, Nat.zero_add, cell_of_row W nb j _ _ (0, 0) hnb]
        simpa using hj) (fun h => by cases h) hone hlm ty
    have hown := AppOut.own (c := ⟨⟨fun _ => .u, fun _ _ => none⟩, fun _ => True, 0, fun _ _ => True, fun _ _ _ _ => trivial, fun _ => undef⟩) (te := .st S) hS (la := ds) (lb := [x]) (dep := []) ho hlm (by simpa using hvl)
      (fun j hj => by
        obtain rfl : j = 0 := by simpa using hj
        simp only [Nat.zero_mul, List.drop_zero, List.getElem_cons_zero]
        rw [List.take_of_length_le (by omega)]
        exact Rd.flat 8 _ hfl hx)
      (fun y g hy hg j hj => by
        obtain ⟨cs, q1, q2⟩ := hold y g hy hg j hj
        exact ⟨cs, q1, Rd.flat 8 _ hfl q2⟩)
    rcases hown with ⟨-, h0⟩ | ⟨g', cap', cur', e1, hg', hh', h1, h2, h3, h4, h5⟩
    · simp at h0
    · refine ⟨v', w', g', hr, ⟨ho.bs.but.os, ho.bs.but.tape, ho.bs.but.output, ho.bs.but.size, fun k hk hn => ho.bs.but.block k hk fun h => hn (hS0 k h).1⟩, ⟨cap', cur', e1, hh', h1, h2, h3, h4, fun i hi => ?_⟩, ?_, lt_of_heap hh'⟩
      · obtain ⟨cs, q1, q2⟩ := h5 i hi
        exact ⟨cs, q1, Rd.flat 8 _ hfl q2⟩
      · exact (ho.bs.pin _ _ hg').imp (hS0 g') id
  rcases ha with ⟨rfl, rfl⟩ | ⟨cap, cur, e1, hh, h1, h2, h3, h4, h5⟩
  · exact key Nil (fun _ => none) none ⟨fun x y b h => (by cases h), fun x b h => (by cases h), But.refl _ _, fun x b h => (by cases h), fun _ _ => trivial, fun x b h => trivial, fun x b h => (by cases h)⟩ (fun y h => by cases h) (fun y h => h.elim) (.inl ⟨rfl, rfl⟩) (fun y g h => by cases h)
  · have hp : ∀ {y g : Nat}, (if y = 0 then some b else none : Option Nat) = some g → y = 0 ∧ g = b := fun {y g} h => by
      split at h
      · injection h with h
        exact ⟨‹_›, h.symm⟩
      · cases h
    refine key (atQ b) (fun y => if y = 0 then some b else none) (some 0) ⟨fun x y b' hx hy => by rw [(hp hx).1, (hp hy).1], fun x b' hx => by rw [(hp hx).2]; exact lt_of_heap hh, But.refl _ _, fun x b' hx => .inl (hp hx).2, fun _ _ => trivial, fun x b h => trivial, fun x b' hx => by rw [(hp hx).2]; exact .inl ⟨_, _, hh⟩⟩
      (fun y h => by have := (hp h).1; omega) (fun y h => ⟨h, _, _, e1⟩) (.inr ⟨0, b, cap, cur, rfl, e1, by simp, hh, h1, h2, h3⟩) (fun y g hy hg j hj => ?_)
    rw [(hp hg).2]
    exact h5 j hj
end Go.Proofs.Ytmebmpgffhajbaa


namespace Go.Proofs.Ytmebmpgffhajbaa
open Go.RowKit
set_option linter.unusedVariables false
set_option maxRecDepth 100000

section
variable {W : World}

theorem run_load_mapO {g : Nat} {u : Value} {T' : TypeId} (hh : W.heap[g]? = some (.cells #[u] T' (0, 0))) : (Instr.loadAt 93 (.pointer (some ⟨g, 0, none⟩))).run Try.prog W = .ok u W := by
  have hu := (row_map mapO_ty).1
  have ha : (isAgg 93).run Try.prog W = .ok false W := by simp [isAgg, run_underlying hu]
  have hc : W.cell? ⟨g, 0, none⟩ = some u := by
    rw [cell_of_row W g 0 _ T' (0, 0) hh]
    rfl
  simp only [Instr.loadAt, Instr.sureAddr, loadVar, Sem.run_bind, Sem.run_pure, Result.andThen_ok, ha]
  simp [hc]

theorem rdI {k : Int} (hk : rngB .i64 k = true) : Rd W (fun _ => False) (.i k) (.int .i64) [.int .i64 k] := ⟨.i64, rfl, rfl, hk⟩

theorem lk_run {g clock : Nat} {es : Array MapEntry} (hg : W.heap[g]? = some (.map es clock)) {l : List D} (hl : MapK (.int .i64) l es.toList) {k : Int} (hk : rngB .i64 k = true) :
    (Instr.lookup 93 (.map (some g)) (.int .i64 k) false).run Try.prog W = .ok (match fsD (.i k) l es.toList 0 with | some (_, v) => v | none => .slice none 0 0) W := by
  have hd := rdI (W := W) hk
  have hck : (Instr.checkKey es.isEmpty 10000 3 (.int .i64 k)).run Try.prog W = .ok () W := run_checkKey_of es.isEmpty 8 9992 int_ty rfl hd rfl
  have hfk := findKey_of int_ty rfl hd rfl hl
  have hu := (row_map mapO_ty).1
  obtain ⟨-, -, i, hi, -, hz⟩ := row_row row_ty
  have hzr : (zeroValue 23).run Try.prog W = .ok (.slice none 0 0) W := by simp [zeroValue, typeInfo, hi, hz]
  cases h : fsD (.i k) l es.toList 0 with
  | none =>
    rw [h] at hfk
    simp [Instr.lookup, run_underlying hu, MapKept.run_getObj_map hg, hck, hfk, hzr, Result.andThen]
  | some jv =>
    obtain ⟨j, v⟩ := jv
    rw [h] at hfk
    simp [Instr.lookup, run_underlying hu, MapKept.run_getObj_map hg, hck, hfk, Result.andThen]

theorem mu_new {g clock : Nat} {es : Array MapEntry} (hg : W.heap[g]? = some (.map es clock)) {l : List D} (hl : MapK (.int .i64) l es.toList) {k : Int} (hk : rngB .i64 k = true) (h : fsD (.i k) l es.toList 0 = none) (v : Value) :
    (Instr.mapUpdate 93 (.map (some g)) (.int .i64 k) v).run Try.prog W = .ok () { W with heap := W.heap.setIfInBounds g (.map (es.push { key := .int .i64 k, val := v, born := clock }) (clock + 1)) } := by
  have hd := rdI (W := W) hk
  have hck : (Instr.checkKey false 10000 3 (.int .i64 k)).run Try.prog W = .ok () W := run_checkKey_of false 8 9992 int_ty rfl hd rfl
  have hfk := findKey_of int_ty rfl hd rfl hl
  have hu := (row_map mapO_ty).1
  rw [h] at hfk
  simp [Instr.mapUpdate, run_underlying hu, MapKept.run_getObj_map hg, hck, hfk, MapKept.run_setObj_map _ hg, Result.andThen]

theorem mu_old {g clock : Nat} {es : Array MapEntry} (hg : W.heap[g]? = some (.map es clock)) {l : List D} (hl : MapK (.int .i64) l es.toList) {k : Int} (hk : rngB .i64 k = true) {j : Nat} {v0 : Value} (h : fsD (.i k) l es.toList 0 = some (j, v0))
    (hj : (es.toList[j]?).map (·.key) = some (.int .i64 k)) (v : Value) :
    (Instr.mapUpdate 93 (.map (some g)) (.int .i64 k) v).run Try.prog W = .ok () { W with heap := W.heap.setIfInBounds g (.map (es.modify j fun e => { e with key := .int .i64 k, val := v }) clock) } := by
  have hd := rdI (W := W) hk
  have hck : (Instr.checkKey false 10000 3 (.int .i64 k)).run Try.prog W = .ok () W := run_checkKey_of false 8 9992 int_ty rfl hd rfl
  have hfk := findKey_of int_ty rfl hd rfl hl
  have hu := (row_map mapO_ty).1
  have hsame : Instr.sameBits 10000 (.int .i64 k) (.int .i64 k) = true := same_enc (encI hk)
  obtain ⟨e, he, hek⟩ := Option.map_eq_some_iff.1 hj
  have hjl : es[j]? = some e := by rw [← Array.getElem?_toList]; exact he
  have hek : e.key = .int .i64 k := hek
  rw [h] at hfk
  simp [Instr.mapUpdate, run_underlying hu, MapKept.run_getObj_map hg, hck, hfk, hjl, hek, Instr.keyThatStays, hsame, MapKept.run_setObj_map _ hg, Result.andThen]
end

theorem nodup_set {x : Nat} : ∀ {l : List Nat} {j : Nat}, l.Nodup → x ∉ l → (l.set j x).Nodup
  | [], j, h, _ => by simp
  | y :: l, 0, h, hx => by
    rw [List.nodup_cons] at h
    simp only [List.mem_cons, not_or] at hx
    rw [List.set_cons_zero, List.nodup_cons]
    exact ⟨hx.2, h.2⟩
  | y :: l, j + 1, h, hx => by
    rw [List.nodup_cons] at h
    simp only [List.mem_cons, not_or] at hx
    rw [List.set_cons_succ, List.nodup_cons]
    refine ⟨fun hm => ?_, nodup_set h.2 hx.2⟩
    rcases List.mem_or_eq_of_mem_set hm with h1 | h1
    · exact h.1 h1
    · exact hx.1 h1.symm
theorem set_same {x : Nat} : ∀ {l : List Nat} {j : Nat}, l[j]? = some x → l.set j x = l
  | [], j, h => by simp at h
  | y :: l, 0, h => by simp at h; simp [h]
  | y :: l, j + 1, h => by simp at h; simp [set_same h]

theorem addK_len {k x : D} {m : Nat} : ∀ {l : List D}, (∀ p ∈ l, (p.fld 1).rs.length ≤ m) → ∀ p ∈ addK k x l, (p.fld 1).rs.length ≤ m + 1
  | [], h, p, hp => by
    simp only [addK, List.mem_singleton] at hp
    subst hp
    simp [D.fld, D.fs, D.rs]
  | q :: l, h, p, hp => by
    unfold addK at hp
    split at hp
    · rcases List.mem_cons.1 hp with rfl | hp
      · have := h q (by simp)
        simp only [D.fld, D.fs, D.rs, List.getD_cons_succ, List.getD_cons_zero, List.length_append, List.length_singleton] at this ⊢
        omega
      · have := h p (by simp [hp])
        omega
    · rcases List.mem_cons.1 hp with rfl | hp
      · have := h p (by simp)
        omega
      · exact addK_len (fun p hp => h p (by simp [hp])) p hp

structure OInv (w : World) (g : Nat) (te : Ty) (m : Nat) (l : List D) (W : World) : Prop where
  but : But (atQ g) w W
  row : ∀ p ∈ l, (p.fld 1).rs.length ≤ m
  map : ∃ es clock bs, W.heap[g]? = some (.map es clock) ∧ Els W te l es.toList bs ∧ bs.Nodup ∧ ∀ b ∈ bs, w.heap.size ≤ b ∧ b < W.heap.size

theorem setH_same {W : World} {g k : Nat} {o : Obj} (h : k ≠ g) : ({ W with heap := W.heap.setIfInBounds g o } : World).heap[k]? = W.heap[k]? := by
  show (W.heap.setIfInBounds g o)[k]? = _
  rw [Array.getElem?_setIfInBounds_ne (fun e => h e.symm)]
theorem setH_self {W : World} {g : Nat} {o : Obj} (h : g < W.heap.size) : ({ W with heap := W.heap.setIfInBounds g o } : World).heap[g]? = some o := by
  show (W.heap.setIfInBounds g o)[g]? = _
  rw [Array.getElem?_setIfInBounds_self, if_pos h]
theorem setH_size {W : World} {g : Nat} {o : Obj} : ({ W with heap := W.heap.setIfInBounds g o } : World).heap.size = W.heap.size := by
  show (W.heap.setIfInBounds g o).size = _
  simp

theorem oinv_step {S : TypeId} (hfl : flatB 8 (.st S) = true) {w : World} {g m : Nat} (hg : g < w.heap.size) {l : List D} {W : World} {k : Int} (hk : rngB .i64 k = true) (h : OInv w g (.st S) m l W) :
    ∃ va ds b, (∀ W1, But Nil W W1 → (Instr.lookup 93 (.map (some g)) (.int .i64 k) false).run Try.prog W1 = .ok va W1 ∧ ((va = .slice none 0 0 ∧ ds = []) ∨ El W1 (.st S) ds va b)) ∧ ds.length ≤ m ∧ w.heap.size ≤ b ∧ ((∃ cur, W.heap[b]? = some (.cells cur 31 (0, 0))) ∨ W.heap.size ≤ b) ∧
      ∀ (x : D) (W1 W2 : World) (v' : Value) (b' : Nat), But Nil W W1 → But (atQ b) W1 W2 → El W2 (.st S) (ds ++ [x]) v' b' → ((b' = b ∧ ∃ n c, va = .slice (some ⟨b, 0, none⟩) n c) ∨ W1.heap.size ≤ b') → b' < W2.heap.size →
        ∃ W3, (Instr.mapUpdate 93 (.map (some g)) (.int .i64 k) v').run Try.prog W2 = .ok () W3 ∧ But (atQ g) W2 W3 ∧ OInv w g (.st S) (m + 1) (addK (.i k) x l) W3 := by
  obtain ⟨es, clock, bs, hmap, hels, hnd, hbs⟩ := h.map
  have hgW : g < W.heap.size := lt_of_heap hmap
  have h1 : ∀ {W1 : World}, But Nil W W1 → W1.heap[g]? = some (.map es clock) := fun hb => (hb.block g hgW id).trans hmap
  have hkeep : ∀ {W1 : World}, But Nil W W1 → Els W1 (.st S) l es.toList bs := fun hb => hels.keep hfl fun b hm => hb.block b (hbs b hm).2 id
  have hbut3 : ∀ {W1 W2 : World} {b : Nat} {ob : Obj}, w.heap.size ≤ b → But Nil W W1 → But (atQ b) W1 W2 → But (atQ g) w { W2 with heap := W2.heap.setIfInBounds g ob } := fun {W1 W2 b ob} hb n1 n2 => by
    have e1 : But (atQ g) w W2 := ((h.but.trans_nil n1).trans n2 fun i hi _ => .inr (by rw [show i = b from hi]; exact hb))
    refine ⟨e1.os, e1.tape, e1.output, by rw [setH_size]; exact e1.size, fun j hj hn => ?_⟩
    rw [setH_same (fun e => hn e)]
    exact e1.block j hj hn
  have hbutg : ∀ {W2 : World} {ob : Obj}, But (atQ g) W2 { W2 with heap := W2.heap.setIfInBounds g ob } := fun {W2 ob} => ⟨rfl, rfl, rfl, by rw [setH_size]; exact Nat.le_refl _, fun j hj hn => setH_same (fun e => hn e)⟩
  cases hf : fsD (.i k) l es.toList 0 with
  | none =>
    refine ⟨.slice none 0 0, [], W.heap.size, fun W1 hb1 => ⟨?_, .inl ⟨rfl, rfl⟩⟩, by simp, h.but.size, .inr (Nat.le_refl _), fun x W1 W2 v' b' n1 n2 hE hb' hlt => ?_⟩
    · have := lk_run (h1 hb1) (hkeep hb1).keys hk
      rw [hf] at this
      exact this
    · have hgW1 : g < W1.heap.size := by have := n1.size; omega
      have hW2 : W2.heap[g]? = some (.map es clock) := (n2.block g hgW1 (fun e => by have : g = W.heap.size := e; omega)).trans (h1 n1)
      have hgW2 : g < W2.heap.size := lt_of_heap hW2
      refine ⟨_, mu_new hW2 (hkeep n1).keys hk hf v', hbutg, hbut3 h.but.size n1 n2, addK_len h.row, _, _, bs ++ [b'], setH_self hgW2, ?_, ?_, ?_⟩
      · rw [Array.toList_push]
        have hb'g : b' ≠ g := by
          rcases hb' with ⟨-, n, c, e⟩ | h
          · cases e
          · omega
        refine Els.new hfl hk (hE.keep hfl (setH_same hb'g)) hels (fun y hy => ?_) hf
        have := hbs y hy
        rw [setH_same (by omega), n2.block y (by have := n1.size; omega) (fun e => by have : y = W.heap.size := e; omega), n1.block y this.2 id]
      · refine List.nodup_append.2 ⟨hnd, by simp, fun y hy z hz e => ?_⟩
        simp only [List.mem_singleton] at hz
        subst hz e
        have := hbs y hy
        rcases hb' with ⟨-, n, c, e⟩ | h
        · cases e
        · have := n1.size; omega
      · intro y hy
        rw [setH_size]
        rcases List.mem_append.1 hy with hy | hy
        · have := hbs y hy
          have := n1.size
          have := n2.size
          omega
        · simp only [List.mem_singleton] at hy
          subst hy
          rcases hb' with ⟨-, n, c, e⟩ | h'
          · cases e
          · have := n1.size
            have := h.but.size
            omega
  | some jv =>
    obtain ⟨j, v0⟩ := jv
    obtain ⟨b, ds, hbj, hE0, hkey, hnext⟩ := Els.old hfl hels hnd (i := 0) (j := j) (by simpa using hf)
    have hb := hbs b (List.mem_of_getElem? hbj)
    have hgb : g ≠ b := by omega
    refine ⟨v0, ds, b, fun W1 hb1 => ⟨?_, .inr (hE0.keep hfl (hb1.block b hb.2 id))⟩, ?_, hb.1, .inl (by obtain ⟨cap, cur, -, h, -⟩ := hE0; exact ⟨cur, h⟩), fun x W1 W2 v' b' n1 n2 hE hb' hlt => ?_⟩
    · have := lk_run (h1 hb1) (hkeep hb1).keys hk
      rw [hf] at this
      exact this
    · have hlen : ∀ {l : List D} {es : List MapEntry} {bs : List Nat} {i j : Nat} {v : Value}, Els W (.st S) l es bs → fsD (.i k) l es i = some (j, v) → (∀ p ∈ l, (p.fld 1).rs.length ≤ m) → ∃ n c b, v = .slice (some ⟨b, 0, none⟩) n c ∧ n ≤ m := by
        intro l
        induction l with
        | nil => intro es bs i j v _ h; simp [fsD] at h
        | cons p l ih =>
          intro es bs i j v he hf hr
          cases es with
          | nil => simp [fsD] at hf
          | cons e es =>
            cases bs with
            | nil => exact he.elim
            | cons b bs =>
              obtain ⟨⟨k', ds, e1, e2, e3, cap, cur, e4, -⟩, he⟩ := he
              unfold fsD at hf
              split at hf
              · simp only [Option.some.injEq, Prod.mk.injEq] at hf
                obtain ⟨-, rfl⟩ := hf
                refine ⟨_, _, _, e4, ?_⟩
                have := hr p (by simp)
                subst e1
                simpa [D.fld, D.fs, D.rs] using this
              · exact ih he hf fun p hp => hr p (by simp [hp])
      obtain ⟨n, c, b1, e1, e2⟩ := hlen hels hf h.row
      obtain ⟨cap, cur, e3, -⟩ := hE0
      rw [e1] at e3
      injection e3 with _ e3 _
      omega
    · have hgW1 : g < W1.heap.size := by have := n1.size; omega
      have hW2 : W2.heap[g]? = some (.map es clock) := (n2.block g hgW1 hgb).trans (h1 n1)
      have hgW2 : g < W2.heap.size := lt_of_heap hW2
      have hb'g : b' ≠ g := by
        rcases hb' with ⟨e, -⟩ | h
        · omega
        · omega
      have hbutb : ∀ y ∈ bs, y ≠ b → ({ W2 with heap := W2.heap.setIfInBounds g (.map (es.modify j fun e => { e with key := .int .i64 k, val := v' }) clock) } : World).heap[y]? = W.heap[y]? := fun y hy hne => by
        have := hbs y hy
        rw [setH_same (by omega), n2.block y (by have := n1.size; omega) hne, n1.block y this.2 id]
      refine ⟨_, mu_old hW2 (hkeep n1).keys hk hf hkey v', hbutg, hbut3 hb.1 n1 n2, addK_len h.row, _, _, bs.set j b', setH_self hgW2, ?_, ?_, ?_⟩
      · rw [Array.toList_modify]
        exact hnext x _ v' b' hbutb (hE.keep hfl (setH_same hb'g))
      · rcases hb' with ⟨rfl, -⟩ | h'
        · rw [set_same hbj]
          exact hnd
        · exact nodup_set hnd fun hm => by
            have := hbs _ hm
            have := n1.size
            omega
      · intro y hy
        rw [setH_size]
        rcases List.mem_or_eq_of_mem_set hy with hy | rfl
        · have := hbs y hy
          have := n1.size
          have := n2.size
          omega
        · rcases hb' with ⟨rfl, -⟩ | h'
          · exact ⟨hb.1, hlt⟩
          · have := n1.size
            have := h.but.size
            exact ⟨by omega, hlt⟩
end Go.Proofs.Ytmebmpgffhajbaa


namespace Go.Proofs.Ytmebmpgffhajbaa
open Go.RowKit
set_option linter.unusedVariables false
set_option maxRecDepth 100000

noncomputable def ops4 : Array Oper := match codeL with
  | .block _ (.loop (.seq (.region _ o _) _)) => o
  | _ => #[]
noncomputable def ops5 : Array Oper := match codeL with
  | .block _ (.loop (.seq _ (.seq _ (.seq (.block _ (.seq (.region _ o _) _)) _)))) => o
  | _ => #[]
noncomputable def ops6 : Array Oper := match codeL with
  | .block _ (.loop (.seq _ (.seq _ (.seq (.block _ (.seq _ (.region _ o _))) _)))) => o
  | _ => #[]
noncomputable def ops7 : Array Oper := match codeL with
  | .block _ (.loop (.seq _ (.seq _ (.seq _ (.region _ o _))))) => o
  | _ => #[]
noncomputable def roundO : Code := .seq (.region 4 ops4 false) (.seq (.cond (.tmp 28) .skip (.exit 0)) (.seq (.block 1 (.seq (.region 5 ops5 false) (.region 6 ops6 true))) (.region 7 ops7 false)))
theorem codeL_eq : codeL = .block 0 (.loop roundO) := by kernel_rfl

def OpAt (ops : Array Oper) (i : Nat) (dst : Option Tmp) (op : Op) : Prop := ∃ o, ops[i]? = some o ∧ o.guard = none ∧ o.dst = dst ∧ o.op = op
abbrev TI : TypeId := 3
abbrev TU : TypeId := 37
abbrev TC : TypeId := 31
abbrev TRU : TypeId := 25
abbrev TRC : TypeId := 23
abbrev TM : TypeId := 93
theorem size4 : ops4.size = 1 := by kernel_rfl
theorem size5 : ops5.size = 4 := by kernel_rfl
theorem size6 : ops6.size = 12 := by kernel_rfl
theorem size7 : ops7.size = 2 := by kernel_rfl
theorem o4_0 : OpAt ops4 0 (some 28) (.binOp .lss TI (.tmp 27) (.tmp 26) TI) := ⟨_, rfl, rfl, rfl, rfl⟩
theorem o5_0 : OpAt ops5 0 (some 29) (.indexAddr TRU (.tmp 25) (.tmp 27)) := ⟨_, rfl, rfl, rfl, rfl⟩
theorem o5_1 : OpAt ops5 1 (some 30) (.load TU (.tmp 29)) := ⟨_, rfl, rfl, rfl, rfl⟩
theorem o5_2 : OpAt ops5 2 (some 8) (.alloc TU) := ⟨_, rfl, rfl, rfl, rfl⟩
theorem o5_3 : OpAt ops5 3 none (.store TU (.tmp 8) (.tmp 30)) := ⟨_, rfl, rfl, rfl, rfl⟩
theorem o6_0 : OpAt ops6 0 (some 31) (.load TM (.tmp 6)) := ⟨_, rfl, rfl, rfl, rfl⟩
theorem o6_1 : OpAt ops6 1 (some 32) (.fieldAddr TU (.tmp 8) 0) := ⟨_, rfl, rfl, rfl, rfl⟩
theorem o6_2 : OpAt ops6 2 (some 33) (.load TI (.tmp 32)) := ⟨_, rfl, rfl, rfl, rfl⟩
theorem o6_3 : OpAt ops6 3 (some 34) (.load TM (.tmp 6)) := ⟨_, rfl, rfl, rfl, rfl⟩
theorem o6_4 : OpAt ops6 4 (some 35) (.fieldAddr TU (.tmp 8) 0) := ⟨_, rfl, rfl, rfl, rfl⟩
theorem o6_5 : OpAt ops6 5 (some 36) (.load TI (.tmp 35)) := ⟨_, rfl, rfl, rfl, rfl⟩
theorem o6_6 : OpAt ops6 6 (some 37) (.lookup TM (.tmp 34) (.tmp 36) false) := ⟨_, rfl, rfl, rfl, rfl⟩
theorem o6_7 : OpAt ops6 7 (some 38) (.fieldAddr TU (.tmp 8) 1) := ⟨_, rfl, rfl, rfl, rfl⟩
theorem o6_8 : OpAt ops6 8 (some 39) (.load TC (.tmp 38)) := ⟨_, rfl, rfl, rfl, rfl⟩
theorem o6_9 : OpAt ops6 9 (some 40) (.buildSlice TRC 1 #[(0, .tmp 39)]) := ⟨_, rfl, rfl, rfl, rfl⟩
theorem o6_10 : OpAt ops6 10 (some 41) (.call { callee := .builtin .append, args := #[.tmp 37, .tmp 40], argTypes := #[TRC, TRC] }) := ⟨_, rfl, rfl, rfl, rfl⟩
theorem o6_11 : OpAt ops6 11 none (.mapUpdate TM (.tmp 31) (.tmp 33) (.tmp 41)) := ⟨_, rfl, rfl, rfl, rfl⟩
theorem o7_0 : OpAt ops7 0 (some 42) (.binOp .add TI (.tmp 27) (.const (.int .i64 1)) TI) := ⟨_, rfl, rfl, rfl, rfl⟩
theorem o7_1 : OpAt ops7 1 (some 27) (.move (.tmp 42)) := ⟨_, rfl, rfl, rfl, rfl⟩

section
variable {ops : Array Oper} {Q : Exit → Act → World → Prop} {a : Act} {w w' : World} {K : Act → World → Prop} {o : Oper} {v : Value} {i : Nat} {dst : Option Tmp} {op : Op}

theorem wpOps_at {rest : List Nat} (h : OpAt ops i dst op) (hk : ∀ o : Oper, o.dst = dst → o.op = op → o.wp Try.prog a w (wpOps Try.prog ops Q rest) Q) : wpOps Try.prog ops Q (i :: rest) a w := by
  obtain ⟨o, ho, hg, hd, hop⟩ := h
  simp only [wpOps, ho]
  rw [if_pos (by simp [Region.wanted, hg])]
  exact .inl (hk o hd hop)
theorem wpOp_at (h : OpAt ops i dst op) (hk : ∀ o : Oper, o.dst = dst → o.op = op → o.wp Try.prog a w K Q) : wpOp Try.prog ops Q i K a w := by
  obtain ⟨o, ho, hg, hd, hop⟩ := h
  unfold wpOp
  simp only [ho]
  rw [if_pos (by simp [Region.wanted, hg])]
  exact .inl (hk o hd hop)
theorem op_val (h : (execOp a.eval o).run Try.prog w = .ok (.value v) w') (hd : o.dst = dst) (hk : K (a.put dst v) w') : o.wp Try.prog a w K Q := by
  unfold Oper.wp
  rw [h, ← hd] at *
  exact hk
theorem op_skip (h : (execOp a.eval o).run Try.prog w = .ok .skip w') (hd : o.dst = none) (hk : K a w') : o.wp Try.prog a w K Q := by
  unfold Oper.wp
  rw [h]
  show K (a.put o.dst undef) w'
  rw [hd]
  exact hk
theorem takeH {S : World → Prop} {fuel : Nat} {listed : Array Bool} (h : OpAt ops i dst op) (hs : Region.noSelect ops = true) (hf : Region.free .any ops listed i = true) (hr : (Region.ready .any ops listed).contains i = true)
    (hQ : ∀ c a w, Q (.panic c) a w = False) (hy : ∀ o : Oper, o.op = op → ∀ w, S w → (execOp a.eval o).run Try.prog w = .ok (.value v) w) (hS : S w)
    (hk : wpAnyH Try.prog .any ops Q S fuel (listed.setIfInBounds i true) (a.put dst v) w) : wpAnyH Try.prog .any ops Q S (fuel + 1) listed a w := by
  obtain ⟨o, ho, hg, hd, hop⟩ := h
  refine wpAnyH_take ho hs hf hr (fun c a w h => by rw [hQ] at h; exact h.elim) (v := v) (.inl ⟨by simp [Region.wanted, hg], hy o hop⟩) hS ?_
  rw [hd]
  exact hk

theorem q0w {t : Nat} (h : a.tmps[t]? = some v) : a.eval (.tmp t) = v := by
  show a.tmps.getD t undef = v
  rw [Array.getD_eq_getD_getElem?, h]
  rfl
theorem put_ne {k t : Nat} (h : k ≠ t) : (a.put (some k) v).tmps[t]? = a.tmps[t]? := by
  simp only [Act.put]
  rw [Array.getElem?_setIfInBounds_ne h]
theorem put_self {k : Nat} (h : k < a.tmps.size) : (a.put (some k) v).tmps[k]? = some v := by
  simp only [Act.put]
  rw [Array.getElem?_setIfInBounds_self, if_pos h]
theorem put_size {k : Option Nat} : (a.put k v).tmps.size = a.tmps.size := by
  cases k <;> simp [Act.put]
theorem put_def {k : Option Nat} : (a.put k v).defers = a.defers := by
  cases k <;> simp [Act.put]

theorem x_load {T : TypeId} {y : Operand} {u : Value} (heq : o.op = .load T y) (hy : a.eval y = u) (hr : (Instr.loadAt T u).run Try.prog w = .ok v w) : (execOp a.eval o).run Try.prog w = .ok (.value v) w := by
  subst hy
  generalize a.eval = r at *
  simp [execOp, heq, hr]
theorem x_field {T : TypeId} {y : Operand} {j : Nat} {u : Value} (heq : o.op = .fieldAddr T y j) (hy : a.eval y = u) (hr : (Instr.fieldAt T u j).run Try.prog w = .ok v w) : (execOp a.eval o).run Try.prog w = .ok (.value v) w := by
  subst hy
  generalize a.eval = r at *
  simp [execOp, heq, hr]
theorem x_index {T : TypeId} {y z : Operand} {u x : Value} (heq : o.op = .indexAddr T y z) (hy : a.eval y = u) (hz : a.eval z = x) (hr : (Instr.indexAt T u x).run Try.prog w = .ok v w) : (execOp a.eval o).run Try.prog w = .ok (.value v) w := by
  subst hy hz
  generalize a.eval = r at *
  simp [execOp, heq, hr]
theorem x_lookup {T : TypeId} {y z : Operand} {u x : Value} (heq : o.op = .lookup T y z false) (hy : a.eval y = u) (hz : a.eval z = x) (hr : (Instr.lookup T u x false).run Try.prog w = .ok v w) : (execOp a.eval o).run Try.prog w = .ok (.value v) w := by
  subst hy hz
  generalize a.eval = r at *
  simp [execOp, heq, hr]
theorem x_alloc {T : TypeId} (heq : o.op = .alloc T) (hr : (Instr.alloc T true (.tuple #[])).run Try.prog w = .ok v w') : (execOp a.eval o).run Try.prog w = .ok (.value v) w' := by
  generalize a.eval = r at *
  simp [execOp, heq, hr]
theorem x_store {T : TypeId} {y z : Operand} {u x : Value} (heq : o.op = .store T y z) (hy : a.eval y = u) (hz : a.eval z = x) (hr : (Instr.storeAt T u x).run Try.prog w = .ok () w') : (execOp a.eval o).run Try.prog w = .ok .skip w' := by
  subst hy hz
  generalize a.eval = r at *
  simp [execOp, heq, hr]
theorem x_build {T : TypeId} {n : Nat} {y : Operand} {u : Value} (heq : o.op = .buildSlice T n #[(0, y)]) (hy : a.eval y = u) (hr : (Instr.buildSlice T n #[(0, u)]).run Try.prog w = .ok v w') : (execOp a.eval o).run Try.prog w = .ok (.value v) w' := by
  subst hy
  generalize a.eval = r at *
  simp [execOp, heq, hr]
theorem x_app {T : TypeId} {y z : Operand} {u x : Value} (heq : o.op = .call { callee := .builtin .append, args := #[y, z], argTypes := #[T, T] }) (hy : a.eval y = u) (hz : a.eval z = x) (hr : (Builtin.append_ #[T, T] o.type #[u, x]).run Try.prog w = .ok v w') : (execOp a.eval o).run Try.prog w = .ok (.value v) w' := by
  subst hy hz
  generalize a.eval = r at *
  simp [execOp, heq, resolve, invoke, builtin, hr]
theorem x_mset {T : TypeId} {m y z : Operand} {q u x : Value} (heq : o.op = .mapUpdate T m y z) (hm : a.eval m = q) (hy : a.eval y = u) (hz : a.eval z = x) (hr : (Instr.mapUpdate T q u x).run Try.prog w = .ok () w') : (execOp a.eval o).run Try.prog w = .ok .skip w' := by
  subst hm hy hz
  generalize a.eval = r at *
  simp [execOp, heq, hr]
theorem x_lss {T T' : TypeId} {y z : Operand} {m n : Int} (heq : o.op = .binOp .lss T y z T') (hy : a.eval y = .int .i64 m) (hz : a.eval z = .int .i64 n) : (execOp a.eval o).run Try.prog w = .ok (.value (.bool (decide (m < n)))) w := by
  generalize a.eval = r at *
  simp [execOp, heq, hy, hz, eqGuard, binOp, Op.intCmp]
theorem x_inc {T T' : TypeId} {y : Operand} {m : Int} (heq : o.op = .binOp .add T y (.const (.int .i64 1)) T') (hy : a.eval y = .int .i64 m) (hm : 0 ≤ m) (hm2 : m < 9223372036854775807) : (execOp a.eval o).run Try.prog w = .ok (.value (.int .i64 (m + 1))) w := by
  have hc : a.eval (.const (.int .i64 1)) = .int .i64 1 := rfl
  have ew : ∀ m : Int, IntKind.wrap .i64 m = if m % 18446744073709551616 ≥ 9223372036854775808 then m % 18446744073709551616 - 18446744073709551616 else m % 18446744073709551616 := fun m => by
    simp [IntKind.wrap, IntKind.bits, IntKind.signed]
  have hw : IntKind.wrap .i64 (m + 1) = m + 1 := by
    rw [ew, if_neg (by omega)]
    omega
  generalize a.eval = r at *
  simp [execOp, heq, hy, hc, eqGuard, binOp, Op.intArith, hw]
theorem x_move {y : Operand} {u : Value} (heq : o.op = .move y) (hy : a.eval y = u) : (execOp a.eval o).run Try.prog w = .ok (.value u) w := by
  subst hy
  generalize a.eval = r at *
  simp [execOp, heq]
end
end Go.Proofs.Ytmebmpgffhajbaa


namespace Go.Proofs.Ytmebmpgffhajbaa
open Go.RowKit
set_option linter.unusedVariables false
set_option maxRecDepth 100000

theorem tC : tyOf TC = some (.st 30) := by kernel_rfl
theorem tU : tyOf TU = some (.st 36) := by kernel_rfl
theorem tRU : tyOf TRU = some (.row TU) := by kernel_rfl
theorem fU : flds 36 = some [.int .i64, .st 30] := by kernel_rfl
theorem flC : flatB 8 (.st 30) = true := by kernel_rfl
theorem wC : (Ty.st 30).w = 2 := by kernel_rfl
theorem wU : (Ty.st 36).w = 3 := by kernel_rfl
theorem u_info : (Try.prog.info? TU).map (fun i => (i.size, i.zero)) = some (3, some (.agg #[.int .i64 0, .int .i64 0, .int .i64 0])) := by kernel_rfl
theorem c_info : (Try.prog.info? TC).map (fun i => (i.size, i.zero)) = some (2, some (.agg #[.int .i64 0, .int .i64 0])) := by kernel_rfl

theorem run_alloc_u (w : World) : (Instr.alloc TU true (.tuple #[])).run Try.prog w = .ok (.pointer (some ⟨w.heap.size, 0, none⟩)) (w.alloc (.cells #[.int .i64 0, .int .i64 0, .int .i64 0] TU)) := by
  obtain ⟨i, hi, e⟩ := Option.map_eq_some_iff.1 u_info
  simp only [Prod.mk.injEq] at e
  simp [Instr.alloc, zeroValue, typeInfo, hi, e.2, newVar, newRow, newObj, Sem.run, Value.cells]
theorem run_store_u {w : World} {g : Nat} {cur : Array Value} (hg : w.heap[g]? = some (.cells cur TU (0, 0))) (hc : cur.size = 3) {x y z : Value} (hone : ∀ u ∈ [x, y, z], u.oneCell' = true) :
    (Instr.storeAt TU (.pointer (some ⟨g, 0, none⟩)) (.agg #[x, y, z])).run Try.prog w = .ok () (w.setRow g #[x, y, z]) := by
  obtain ⟨i, hi, e⟩ := Option.map_eq_some_iff.1 u_info
  simp only [Prod.mk.injEq] at e
  have hst := run_storeCells_at Try.prog g 0 TU [x, y, z] 0 cur w hg (by simp; omega) hone
  have e1 : (cur.toList.take (0 + 0) ++ [x, y, z] ++ cur.toList.drop (0 + 0 + [x, y, z].length)) = [x, y, z] := by
    rw [List.drop_eq_nil_of_le (by simp; omega)]
    simp
  rw [e1] at hst
  have hcells : (Value.agg #[x, y, z]).cells = [x, y, z].toArray := rfl
  simp only [Instr.storeAt, Instr.sureAddr, Sem.run_bind, Sem.run_pure, Result.andThen_ok, storeVar, sizeOf, typeInfo, run_program, hi, hcells]
  rw [if_neg (by simp [e.1])]
  exact hst
theorem run_build_c (w : World) (x y : Value) : (Instr.buildSlice TRC 1 #[(0, .agg #[x, y])]).run Try.prog w = .ok (.slice (some ⟨w.heap.size, 0, none⟩) 1 1) (w.alloc (.cells #[x, y] TC)) := by
  obtain ⟨i, hi, e⟩ := Option.map_eq_some_iff.1 c_info
  simp only [Prod.mk.injEq] at e
  refine run_buildSlice w TRC TC 1 _ #[x, y] i (.agg #[.int .i64 0, .int .i64 0]) (row_row row_ty).1 hi e.2 (by rw [e.1]; omega) (by rw [e.1]; omega) ?_
  rw [e.1]
  kernel_rfl

structure LCx (w : World) (a0 : Act) (g g6 : Nat) (T6 : TypeId) (L : List D) (A : Option Addr) (cap : Nat) : Prop where
  gw : g < w.heap.size
  h6 : w.heap[g6]? = some (.cells #[.map (some g)] T6 (0, 0))
  g6g : g6 ≠ g
  sz : a0.tmps.size = 110
  e25 : a0.tmps[25]? = some (.slice A L.length cap)
  e26 : a0.tmps[26]? = some (.int .i64 L.length)
  e6 : a0.tmps[6]? = some (.pointer (some ⟨g6, 0, none⟩))
  hL : L.length ≤ 5864062014634
  el : ∀ j (h : j < L.length), ∃ b o k x u1 u2, A = some ⟨b, o, none⟩ ∧ b ≠ g ∧ w.rangeAt b (o + j * 3) [.int .i64 k, u1, u2] ∧ L[j] = .a [.i k, x] ∧ rngB .i64 k = true ∧ Rd w (fun _ => False) x (.st 30) [u1, u2]

structure LInv (w : World) (a0 : Act) (g : Nat) (L : List D) (j : Nat) (a : Act) (W : World) : Prop where
  df : a.defers = a0.defers
  sz : a.tmps.size = 110
  tm : ∀ t, hasN killO t = false → a.tmps[t]? = a0.tmps[t]?
  e27 : a.tmps[27]? = some (.int .i64 j)
  o : OInv w g (.st 30) j (grpD (L.take j)) W

theorem grp_succ {L : List D} {j : Nat} (h : j < L.length) : grpD (L.take (j + 1)) = addK (L[j].fld 0) (L[j].fld 1) (grpD (L.take j)) := by
  unfold grpD
  rw [List.take_succ_eq_append_getElem h, List.foldl_append]
  rfl

theorem region6_ok {w : World} {a0 a : Act} {g g6 g8 : Nat} {T6 : TypeId} {L l : List D} {A : Option Addr} {cap m : Nat} (hc : LCx w a0 g g6 T6 L A cap) {W : World} (hsz : a.tmps.size = 110) (e6 : a.tmps[6]? = some (.pointer (some ⟨g6, 0, none⟩))) (e8 : a.tmps[8]? = some (.pointer (some ⟨g8, 0, none⟩)))
    {k : Int} {x : D} {u1 u2 : Value} (hk : rngB .i64 k = true) (hx : Rd w (fun _ => False) x (.st 30) [u1, u2]) (h8 : W.heap[g8]? = some (.cells #[.int .i64 k, u1, u2] TU (0, 0))) (hg8 : w.heap.size ≤ g8) (ho : OInv w g (.st 30) m l W) (hm : m < 5864062014634)
    {Q : Exit → Act → World → Prop} (hQ : ∀ c a w, Q (.panic c) a w = False)
    (hfin : ∀ (a' : Act) (W' : World), a'.defers = a.defers → a'.tmps.size = 110 → (∀ t, hasN killO t = false → a'.tmps[t]? = a.tmps[t]?) → a'.tmps[27]? = a.tmps[27]? → OInv w g (.st 30) (m + 1) (addK (.i k) x l) W' → Q .normal a' W') :
    (Code.region 6 ops6 true).wp Try.prog Q a W := by
  let W0 : World := { W with drawn := W.drawn + 1 }
  have hd0 : But Nil W W0 := (But.refl Nil W).drew
  have ho0 : OInv w g (.st 30) m l W0 := ⟨ho.but.drew, ho.row, by obtain ⟨es, clock, bs, q1, q2, q3, q4⟩ := ho.map; exact ⟨es, clock, bs, q1, q2.keep flC (fun _ _ => rfl), q3, q4⟩⟩
  obtain ⟨va, ds, b, hlk, hdl, hbw, hbt, hput⟩ := oinv_step flC hc.gw hk ho0
  let H : World → Prop := fun V => V.heap[g6]? = some (.cells #[.map (some g)] T6 (0, 0)) ∧ V.heap[g8]? = some (.cells #[.int .i64 k, u1, u2] TU (0, 0))
  have g6w : g6 < w.heap.size := lt_of_heap hc.h6
  have g8W : g8 < W.heap.size := lt_of_heap h8
  have hH0 : H W0 := ⟨(ho.but.block g6 g6w (fun e => hc.g6g e)).trans hc.h6, h8⟩
  have hHn : ∀ {V V' : World}, H V → But Nil V V' → H V' := fun {V V'} hV hb => ⟨(hb.block g6 (lt_of_heap hV.1) id).trans hV.1, (hb.block g8 (lt_of_heap hV.2) id).trans hV.2⟩
  have hfU0 : ∀ (V : World), (Instr.fieldAt TU (.pointer (some ⟨g8, 0, none⟩)) 0).run Try.prog V = .ok (.pointer (some ⟨g8, 0, none⟩)) V := fun V => by
    have := run_fieldAt_of (w := V) tU fU (j := 0) rfl g8 0
    simpa [offs, widths] using this
  have hfU1 : ∀ (V : World), (Instr.fieldAt TU (.pointer (some ⟨g8, 0, none⟩)) 1).run Try.prog V = .ok (.pointer (some ⟨g8, 1, none⟩)) V := fun V => by
    have := run_fieldAt_of (w := V) tU fU (j := 1) rfl g8 0
    simpa [offs, widths, Ty.w] using this
  have hl0 : ∀ V, H V → (Instr.loadAt TM (.pointer (some ⟨g6, 0, none⟩))).run Try.prog V = .ok (.map (some g)) V := fun V hV => run_load_mapO hV.1
  have hl1 : ∀ V, H V → (Instr.loadAt TI (.pointer (some ⟨g8, 0, none⟩))).run Try.prog V = .ok (.int .i64 k) V := fun V hV => by
    obtain ⟨v, h1, h2⟩ := run_load_of (w := V) (F := fun _ => False) int_ty (b := g8) (o := 0) (cs := [.int .i64 k]) (fun j u hj => by
      rw [cell_of_row V g8 (0 + j) _ _ (0, 0) hV.2]
      cases j with
      | zero => simpa using hj
      | succ j => simp at hj) (rdI hk)
    have h2 : [Value.int .i64 k] = [v] := h2
    injection h2 with h2
    rw [h2]
    exact h1
  have hl2 : ∀ V, H V → (Instr.loadAt TC (.pointer (some ⟨g8, 1, none⟩))).run Try.prog V = .ok (.agg #[u1, u2]) V := fun V hV => by
    obtain ⟨v, h1, h2⟩ := run_load_of (w := V) (F := fun _ => False) tC (b := g8) (o := 1) (cs := [u1, u2]) (fun j u hj => by
      rw [cell_of_row V g8 (1 + j) _ _ (0, 0) hV.2]
      match j with
      | 0 => simpa using hj
      | 1 => simpa using hj
      | j + 2 => simp at hj) (Rd.flat 8 _ flC hx)
    have h2 : v = .agg [u1, u2].toArray := h2
    rw [h2] at h1
    exact h1
  refine wp_region_held mixed_okD (S := H) ?_
  rw [size6]
  refine takeH o6_0 (by kernel_rfl) (by kernel_rfl) (by kernel_rfl) hQ (v := .map (some g)) (fun o h V hV => x_load h (q0w e6) (hl0 V hV)) hH0 ?_
  refine takeH o6_1 (by kernel_rfl) (by kernel_rfl) (by kernel_rfl) hQ (v := .pointer (some ⟨g8, 0, none⟩)) (fun o h V hV => x_field h (q0w (by simpa [put_ne] using e8)) (hfU0 V)) hH0 ?_
  refine takeH o6_2 (by kernel_rfl) (by kernel_rfl) (by kernel_rfl) hQ (v := .int .i64 k) (fun o h V hV => x_load h (q0w (put_self (by simp [put_size, hsz]))) (hl1 V hV)) hH0 ?_
  refine takeH o6_3 (by kernel_rfl) (by kernel_rfl) (by kernel_rfl) hQ (v := .map (some g)) (fun o h V hV => x_load h (q0w (by simpa [put_ne] using e6)) (hl0 V hV)) hH0 ?_
  refine takeH o6_4 (by kernel_rfl) (by kernel_rfl) (by kernel_rfl) hQ (v := .pointer (some ⟨g8, 0, none⟩)) (fun o h V hV => x_field h (q0w (by simpa [put_ne] using e8)) (hfU0 V)) hH0 ?_
  refine takeH o6_5 (by kernel_rfl) (by kernel_rfl) (by kernel_rfl) hQ (v := .int .i64 k) (fun o h V hV => x_load h (q0w (put_self (by simp [put_size, hsz]))) (hl1 V hV)) hH0 ?_
  refine takeH o6_7 (by kernel_rfl) (by kernel_rfl) (by kernel_rfl) hQ (v := .pointer (some ⟨g8, 1, none⟩)) (fun o h V hV => x_field h (q0w (by simpa [put_ne] using e8)) (hfU1 V)) hH0 ?_
  refine takeH o6_8 (by kernel_rfl) (by kernel_rfl) (by kernel_rfl) hQ (v := .agg #[u1, u2]) (fun o h V hV => x_load h (q0w (put_self (by simp [put_size, hsz]))) (hl2 V hV)) hH0 ?_
  generalize ha1 : Act.put _ (some 39) _ = a1
  have s1 : a1.tmps.size = 110 := by rw [← ha1]; simp [put_size, hsz]
  have d1 : a1.defers = a.defers := by rw [← ha1]; simp [put_def]
  have k1 : ∀ t, hasN killO t = false → a1.tmps[t]? = a.tmps[t]? := fun t ht => by
    have hne : ∀ q, hasN killO q = true → q ≠ t := fun q hq e => by
      subst e
      rw [ht] at hq
      cases hq
    rw [← ha1, put_ne (hne 39 rfl), put_ne (hne 38 rfl), put_ne (hne 36 rfl), put_ne (hne 35 rfl), put_ne (hne 34 rfl), put_ne (hne 33 rfl), put_ne (hne 32 rfl), put_ne (hne 31 rfl)]
  have k27 : a1.tmps[27]? = a.tmps[27]? := by rw [← ha1]; simp [put_ne]
  have t31 : a1.tmps[31]? = some (.map (some g)) := by rw [← ha1, put_ne (show (39 : Nat) ≠ 31 by decide), put_ne (show (38 : Nat) ≠ 31 by decide), put_ne (show (36 : Nat) ≠ 31 by decide), put_ne (show (35 : Nat) ≠ 31 by decide), put_ne (show (34 : Nat) ≠ 31 by decide), put_ne (show (33 : Nat) ≠ 31 by decide), put_ne (show (32 : Nat) ≠ 31 by decide), put_self (by simp only [put_size, hsz]; decide)]
  have t33 : a1.tmps[33]? = some (.int .i64 k) := by rw [← ha1, put_ne (show (39 : Nat) ≠ 33 by decide), put_ne (show (38 : Nat) ≠ 33 by decide), put_ne (show (36 : Nat) ≠ 33 by decide), put_ne (show (35 : Nat) ≠ 33 by decide), put_ne (show (34 : Nat) ≠ 33 by decide), put_self (by simp only [put_size, hsz]; decide)]
  have t34 : a1.tmps[34]? = some (.map (some g)) := by rw [← ha1, put_ne (show (39 : Nat) ≠ 34 by decide), put_ne (show (38 : Nat) ≠ 34 by decide), put_ne (show (36 : Nat) ≠ 34 by decide), put_ne (show (35 : Nat) ≠ 34 by decide), put_self (by simp only [put_size, hsz]; decide)]
  have t36 : a1.tmps[36]? = some (.int .i64 k) := by rw [← ha1, put_ne (show (39 : Nat) ≠ 36 by decide), put_ne (show (38 : Nat) ≠ 36 by decide), put_self (by simp only [put_size, hsz]; decide)]
  have t39 : a1.tmps[39]? = some (.agg #[u1, u2]) := by rw [← ha1, put_self (by simp only [put_size, hsz]; decide)]
  clear ha1
  have h8b : g8 ≠ b := fun e => by
    subst e
    rcases hbt with ⟨cur, h⟩ | h
    · rw [hH0.2] at h
      injection h with h
      injection h with _ h
      exact absurd h (by decide)
    · exact absurd h (Nat.not_le.2 g8W)
  -- the last two operations
  have last : ∀ (listed : Array Bool) (a2 : Act) (W1 : World) (nb : Nat), Region.ready .any ops6 listed = [10] → Region.ready .any ops6 (listed.setIfInBounds 10 true) = [11] → Region.ready .any ops6 ((listed.setIfInBounds 10 true).setIfInBounds 11 true) = [] →
      But Nil W0 W1 → H W1 → W1.heap[nb]? = some (.cells #[u1, u2] TC (0, 0)) → a2.tmps.size = 110 → a2.defers = a1.defers → (∀ t, hasN killO t = false → a2.tmps[t]? = a1.tmps[t]?) → a2.tmps[27]? = a1.tmps[27]? → a2.tmps[31]? = some (.map (some g)) → a2.tmps[33]? = some (.int .i64 k) → a2.tmps[37]? = some va → a2.tmps[40]? = some (.slice (some ⟨nb, 0, none⟩) 1 1) →
      wpAnyH Try.prog .any ops6 Q H 2 listed a2 W1 := by
    intro listed a2 W1 nb r1 r2 r3 hb1 hH1 hnb s2 d2 k2 k27' q31 q33 q37 q40
    refine wpAnyH_all r1 (by simp) fun i hi => ?_
    simp only [List.mem_singleton] at hi
    subst hi
    refine wpOp_at o6_10 fun o hd hop => ?_
    obtain ⟨v', W2, b', hr, hb2, hE, hb', hlt⟩ := el_app (W := W1) tC flC (hlk W1 hb1).2 (vs := [u1, u2]) (Rd.flat 8 _ flC hx) hnb (by
      have h1 : (5864062014634 : Nat) ≤ LM (.st 30) := by decide
      omega) o.type
    refine op_val (x_app hop (q0w q37) (q0w q40) hr) hd ⟨?_, ?_⟩
    · refine ⟨(hb2.block g6 (lt_of_heap hH1.1) (fun e => ?_)).trans hH1.1, (hb2.block g8 (lt_of_heap hH1.2) (fun e => h8b e)).trans hH1.2⟩
      have : g6 = b := e
      omega
    · refine wpAnyH_all r2 (by simp) fun i hi => ?_
      simp only [List.mem_singleton] at hi
      subst hi
      refine wpOp_at o6_11 fun o' hd' hop' => ?_
      obtain ⟨W3, hr3, hb3, ho3⟩ := hput x W1 W2 v' b' hb1 hb2 hE hb' hlt
      refine op_skip (x_mset hop' (q0w (by simpa [put_ne] using q31)) (q0w (by simpa [put_ne] using q33)) (q0w (put_self (by omega))) hr3) hd' ⟨?_, wpAnyH_done r3 (hfin _ _ ?_ ?_ ?_ ?_ ho3) _⟩
      · have hH2 : H W2 := ⟨(hb2.block g6 (lt_of_heap hH1.1) (fun e => by have : g6 = b := e; omega)).trans hH1.1, (hb2.block g8 (lt_of_heap hH1.2) (fun e => h8b e)).trans hH1.2⟩
        exact ⟨(hb3.block g6 (lt_of_heap hH2.1) (fun e => hc.g6g e)).trans hH2.1, (hb3.block g8 (lt_of_heap hH2.2) (fun e => by have : g8 = g := e; have := hc.gw; omega)).trans hH2.2⟩
      · rw [put_def, d2, d1]
      · rw [put_size, s2]
      · intro t ht
        rw [put_ne (fun e => by subst e; simp [hasN, killO] at ht), k2 t ht, k1 t ht]
      · rw [put_ne (by decide), k27', k27]
  have hu : ∀ V : World, V.heap[V.heap.size]? = none := fun V => by simp
  refine wpAnyH_all (rs := [6, 9]) (by kernel_rfl) (by simp) fun i hi => ?_
  simp only [List.mem_cons, List.not_mem_nil, or_false] at hi
  rcases hi with rfl | rfl
  · refine wpOp_at o6_6 fun o hd hop => op_val (x_lookup hop (q0w t34) (q0w t36) (hlk W0 (But.refl _ _)).1) hd ⟨hH0, ?_⟩
    refine wpAnyH_all (rs := [9]) (by kernel_rfl) (by simp) fun i hi => ?_
    simp only [List.mem_singleton] at hi
    subst hi
    have hbn : But Nil W0 (W0.alloc (.cells #[u1, u2] TC)) := (But.refl Nil W0).alloc _
    refine wpOp_at o6_9 fun o hd hop => op_val (x_build hop (q0w (by simpa [put_ne] using t39)) (run_build_c W0 u1 u2)) hd ⟨hHn hH0 hbn, ?_⟩
    refine last _ _ _ W0.heap.size (by kernel_rfl) (by kernel_rfl) (by kernel_rfl) hbn (hHn hH0 hbn) (heap_new rfl) (by simp [put_size, s1]) (by simp [put_def]) (fun t ht => ?_) (by simp [put_ne]) (by simpa [put_ne] using t31) (by simpa [put_ne] using t33) ?_ (put_self (by simp [put_size, s1]))
    · rw [put_ne (fun e => by subst e; simp [hasN, killO] at ht), put_ne (fun e => by subst e; simp [hasN, killO] at ht)]
    · rw [put_ne (by decide)]
      exact put_self (by omega)
  · have hbn : But Nil W0 (W0.alloc (.cells #[u1, u2] TC)) := (But.refl Nil W0).alloc _
    refine wpOp_at o6_9 fun o hd hop => op_val (x_build hop (q0w t39) (run_build_c W0 u1 u2)) hd ⟨hHn hH0 hbn, ?_⟩
    refine wpAnyH_all (rs := [6]) (by kernel_rfl) (by simp) fun i hi => ?_
    simp only [List.mem_singleton] at hi
    subst hi
    refine wpOp_at o6_6 fun o hd hop => op_val (x_lookup hop (q0w (by simpa [put_ne] using t34)) (q0w (by simpa [put_ne] using t36)) (hlk _ hbn).1) hd ⟨hHn hH0 hbn, ?_⟩
    refine last _ _ _ W0.heap.size (by kernel_rfl) (by kernel_rfl) (by kernel_rfl) hbn (hHn hH0 hbn) (heap_new rfl) (by simp [put_size, s1]) (by simp [put_def]) (fun t ht => ?_) (by simp [put_ne]) (by simpa [put_ne] using t31) (by simpa [put_ne] using t33) (put_self (by simp [put_size, s1])) ?_
    · rw [put_ne (fun e => by subst e; simp [hasN, killO] at ht), put_ne (fun e => by subst e; simp [hasN, killO] at ht)]
    · rw [put_ne (by decide)]
      exact put_self (by omega)
end Go.Proofs.Ytmebmpgffhajbaa


namespace Go.Proofs.Ytmebmpgffhajbaa
open Go.RowKit
set_option linter.unusedVariables false
set_option maxRecDepth 100000

theorem round_ok {w : World} {a0 : Act} {g g6 : Nat} {T6 : TypeId} {L : List D} {A : Option Addr} {cap : Nat} (hc : LCx w a0 g g6 T6 L A cap) {j : Nat} {a : Act} {W : World} (h : LInv w a0 g L j a W)
    {R : Act → World → Prop} {R' : Act → World → Prop} (hR : j < L.length → ∀ a' W', LInv w a0 g L (j + 1) a' W' → R a' W')
    (hR' : L.length ≤ j → ∀ a' W', LInv w a0 g L j a' W' → R' a' W') : roundO.wp Try.prog (fun e a' W' => (e = .normal ∧ R a' W') ∨ (e = .exit 0 ∧ R' a' W')) a W := by
  have e25 : a.tmps[25]? = _ := (h.tm 25 rfl).trans hc.e25
  have e26 : a.tmps[26]? = _ := (h.tm 26 rfl).trans hc.e26
  have e6 : a.tmps[6]? = _ := (h.tm 6 rfl).trans hc.e6
  have hsz := h.sz
  refine wp_seq (wp_region ?_)
  rw [size4]
  refine wpOps_at o4_0 fun o hd hop => ?_
  refine op_val (x_lss hop (q0w h.e27) (q0w e26)) hd ?_
  show Code.wp _ _ _ _ _
  by_cases hlt : j < L.length
  · rw [decide_eq_true (show (j : Int) < (L.length : Int) by omega)]
    refine wp_seq (wp_cond_true (q0w (put_self (by omega))) (wp_skip ?_))
    show Code.wp _ _ _ _ _
    obtain ⟨b, ob, k, x, u1, u2, rfl, hbg, hrng, hLj, hk, hx⟩ := hc.el j hlt
    have hbw : b < w.heap.size := rangeAt_lt hrng (by simp)
    have hrW : W.rangeAt b (ob + j * 3) [.int .i64 k, u1, u2] := rangeAt_blk hrng (h.o.but.block b hbw fun e => hbg e)
    have hone := (Rd.len _ hx).2
    refine wp_seq (wp_block (wp_seq (wp_region ?_)))
    rw [size5]
    refine wpOps_at o5_0 fun o hd hop => ?_
    have hix := run_indexAt_of (w := W) tRU tU (b := b) (o := ob) (len := L.length) (cap := cap) (k := .i64) (i := (j : Int)) (by omega) (by omega)
    rw [wU, Int.toNat_natCast] at hix
    refine op_val (x_index hop (q0w (by rw [put_ne (by decide)]; exact e25)) (q0w (by rw [put_ne (by decide)]; exact h.e27)) hix) hd ?_
    refine wpOps_at o5_1 fun o hd hop => ?_
    obtain ⟨v, hl1, hl2⟩ := run_load_of (w := W) (F := fun _ => False) tU hrW (d := .a [.i k, x]) ⟨36, _, rfl, fU, .int .i64, [.st 30], [.int .i64 k], [u1, u2], rfl, rfl, ⟨.i64, rfl, rfl, hk⟩, .st 30, [], [u1, u2], [], rfl, rfl, Rd.flat 8 _ flC hx, rfl, rfl⟩
    have hl2 : v = .agg #[.int .i64 k, u1, u2] := hl2
    subst hl2
    refine op_val (x_load hop (q0w (put_self (by simp only [put_size]; omega))) hl1) hd ?_
    refine wpOps_at o5_2 fun o hd hop => ?_
    refine op_val (x_alloc hop (run_alloc_u W)) hd ?_
    refine wpOps_at o5_3 fun o hd hop => ?_
    have hst := run_store_u (w := W.alloc (.cells #[.int .i64 0, .int .i64 0, .int .i64 0] TU)) (g := W.heap.size) (heap_new rfl) rfl (x := .int .i64 k) (y := u1) (z := u2) (fun u hu => by
      rcases List.mem_cons.1 hu with rfl | hu
      · rfl
      · exact hone u hu)
    refine op_skip (x_store hop (q0w (put_self (by simp only [put_size]; omega))) (q0w (by rw [put_ne (by decide), put_self (by simp only [put_size]; omega)])) hst) hd ?_
    show Code.wp _ _ _ _ _
    generalize hW2 : (W.alloc (.cells #[.int .i64 0, .int .i64 0, .int .i64 0] TU)).setRow W.heap.size #[.int .i64 k, u1, u2] = W2
    have hb2 : But Nil W W2 := by
      rw [← hW2]
      exact setRow_but ((But.refl Nil W).alloc _) (.inr (Nat.le_refl _)) _
    have h8 : W2.heap[W.heap.size]? = some (.cells #[.int .i64 k, u1, u2] TU (0, 0)) := by
      rw [← hW2]
      exact setRow_heap _ _ _ _ _ _ (heap_new rfl)
    have ho2 : OInv w g (.st 30) j (grpD (L.take j)) W2 := by
      obtain ⟨es, clock, bs, q1, q2, q3, q4⟩ := h.o.map
      refine ⟨h.o.but.trans_nil hb2, h.o.row, es, clock, bs, (hb2.block g (lt_of_heap q1) id).trans q1, q2.keep flC fun y hy => hb2.block y (q4 y hy).2 id, q3, fun y hy => ?_⟩
      have := q4 y hy
      have := hb2.size
      exact ⟨(q4 y hy).1, by omega⟩
    have hjl := hc.hL
    refine region6_ok hc (m := j) (L := L) (by simp only [put_size]; exact hsz) (by rw [put_ne (by decide), put_ne (by decide), put_ne (by decide), put_ne (by decide)]; exact e6) (put_self (by simp only [put_size]; omega)) hk hx h8 h.o.but.size ho2 (by omega) (fun c a w => ?_) fun a' W' d' s' t' t27' ho' => ?_
    · simp only [Exit.inBlock, Exit.then]
      simp
    · show Code.wp _ _ _ _ _
      have hse : grpD (L.take (j + 1)) = addK (.i k) x (grpD (L.take j)) := by
        rw [grp_succ hlt, hLj]
        rfl
      have e27' : a'.tmps[27]? = some (.int .i64 j) := by
        rw [t27', put_ne (by decide), put_ne (by decide), put_ne (by decide), put_ne (by decide)]
        exact h.e27
      refine wp_region ?_
      rw [size7]
      refine wpOps_at o7_0 fun o hd hop => ?_
      refine op_val (x_inc hop (q0w e27') (by omega) (by omega)) hd ?_
      refine wpOps_at o7_1 fun o hd hop => ?_
      refine op_val (x_move hop (q0w (put_self (by omega)))) hd ?_
      refine .inl ⟨rfl, hR hlt _ _ ⟨?_, ?_, fun t ht => ?_, ?_, by rw [hse]; exact ho'⟩⟩
      · simp only [put_def, d']
        exact h.df
      · simp only [put_size]
        exact s'
      · have hne : ∀ q, hasN killO q = true → q ≠ t := fun q hq e => by
          subst e
          rw [ht] at hq
          cases hq
        rw [put_ne (hne 27 rfl), put_ne (hne 42 rfl), t' t ht, put_ne (hne 8 rfl), put_ne (hne 30 rfl), put_ne (hne 29 rfl), put_ne (hne 28 rfl)]
        exact h.tm t ht
      · rw [put_self (by simp only [put_size]; omega)]
        rfl
  · rw [decide_eq_false (show ¬ (j : Int) < (L.length : Int) by omega)]
    refine wp_seq (wp_cond_false (q0w (put_self (by omega))) (wp_exit ?_))
    refine .inr ⟨rfl, hR' (by omega) _ _ ⟨by rw [put_def]; exact h.df, by rw [put_size]; exact h.sz, fun t ht => ?_, ?_, h.o⟩⟩
    · rw [put_ne (fun e => by subst e; simp [hasN, killO] at ht)]
      exact h.tm t ht
    · rw [put_ne (by decide)]
      exact h.e27

theorem LInv.start {w : World} {a0 : Act} {g g6 : Nat} {T6 : TypeId} {L : List D} {A : Option Addr} {cap : Nat} (hc : LCx w a0 g g6 T6 L A cap) (h27 : a0.tmps[27]? = some (.int .i64 0)) {clock : Nat} (hm : w.heap[g]? = some (.map #[] clock)) : LInv w a0 g L 0 a0 w :=
  ⟨rfl, hc.sz, fun _ _ => rfl, h27, But.refl _ _, fun p hp => by simp [grpD] at hp, #[], clock, [], hm, trivial, List.nodup_nil, fun b hb => by cases hb⟩

theorem loop_ok {w : World} {a0 : Act} {g g6 : Nat} {T6 : TypeId} {L : List D} {A : Option Addr} {cap : Nat} (hc : LCx w a0 g g6 T6 L A cap) (h27 : a0.tmps[27]? = some (.int .i64 0)) {clock : Nat} (hm : w.heap[g]? = some (.map #[] clock))
    {Q : Exit → Act → World → Prop} (hQ : ∀ a' W', LInv w a0 g L L.length a' W' → Q .normal a' W') : codeL.wp Try.prog Q a0 w := by
  rw [codeL_eq]
  refine wp_block (wp_loop_rounds (L.length + 1) ?_)
  have key : ∀ m j a W, L.length - j < m → j ≤ L.length → LInv w a0 g L j a W → Code.rounds Try.prog roundO (Exit.inBlock 0 Q) m a W := by
    intro m
    induction m with
    | zero => intro j a W h; omega
    | succ m ih =>
      intro j a W h1 h2 h
      rw [rounds_succ]
      refine wp_mono (round_ok hc h (R := Code.rounds Try.prog roundO (Exit.inBlock 0 Q) m) (R' := Q .normal) (fun hlt a' W' h' => ih (j + 1) a' W' (by omega) (by omega) h') (fun hge a' W' h' => hQ a' W' (by
        obtain rfl : j = L.length := by omega
        exact h'))) ?_
      rintro e a' W' (⟨rfl, hr⟩ | ⟨rfl, hr⟩)
      · exact hr
      · simp only [Exit.then, Exit.inBlock, if_true]
        exact hr
  exact key _ 0 a0 w (by omega) (Nat.zero_le _) (LInv.start hc h27 hm)
end Go.Proofs.Ytmebmpgffhajbaa


namespace Go.Proofs.Ytmebmpgffhajbaa
open Go.RowKit
set_option linter.unusedVariables false
set_option maxRecDepth 100000

section
variable {c : Cx} {p : Pins} {w w0 : World} {S0 : Nat → Prop} {a : Act} {σ σ' : St} {d : List Deferred}

theorem olds_ok (hb : Bs c.A w0 S0 p w) (hf : SF c σ p w a) (hd : a.defers = d) (hz : a.tmps.size = 110) {N : List X} (h : doOlds σ = some (N, σ')) (hN : ∀ n ∈ N, n.says c.v) {Q : Exit → Act → World → Prop}
    (hk : ∀ a' w', Post c w0 S0 d 110 σ' a' w' → Q .normal a' w') : codeL.wp Try.prog Q a w := by
  unfold doOlds at h
  split at h
  · rename_i xT U own dep xn o1 d1 o2 d2 tm te pin dm h25 h26 h27 h6 hm6
    split at h
    · rename_i hok
      simp only [Bool.and_eq_true, Bool.not_eq_true'] at hok
      obtain ⟨hU, htm, hte, hp96, hpin⟩ := hok
      have hU := Nat.eq_of_beq_eq_true hU
      subst hU
      rw [Ty.q0b] at htm hte
      subst htm
      subst hte
      simp only [Option.some.injEq, Prod.mk.injEq] at h
      obtain ⟨rfl, rfl⟩ := h
      have hne96 : pin ≠ 96 := fun e => by subst e; simp at hp96
      -- the trail
      obtain ⟨v25, e25, hv25⟩ := hf.t 25 _ h25
      have hcon := asRow_ok (c := c) (p := p) (w := w) tU (show asRow TU (.v xT (.row TU) own dep) = some (xT, own, dep) by simp [asRow]) hv25
      obtain ⟨te0, A1, cap, hte0, hd1, hev, q1, q2, q3, hE1⟩ := hcon.row
      obtain rfl := Option.some.inj (hte0.symm.trans tU)
      subst hev
      -- its length
      obtain ⟨v26, e26, hv26⟩ := hf.t 26 _ h26
      obtain ⟨n26, hx26, hv26, -⟩ := pd_int hv26
      subst hv26
      have hn : n26 = ((xT.ev c.v).rs.length : Nat) := by
        have h0 : (D.b (decide (xn.ev c.v = .i ((xT.ev c.v).rs.length : Nat)))).tt = true := hN (.eq xn (.len xT)) (by simp)
        have h1 : xn.ev c.v = .i ((xT.ev c.v).rs.length : Nat) := of_decide_eq_true h0
        rw [hx26] at h1
        exact D.i.inj h1
      subst hn
      obtain ⟨v27, e27, hv27⟩ := hf.t 27 _ h27
      obtain ⟨n27, hx27, hv27, -⟩ := pd_int hv27
      subst hv27
      have hn27 : n27 = 0 := by
        have : D.i 0 = D.i n27 := hx27
        injection this with this
        exact this.symm
      subst hn27
      obtain ⟨v6, e6, g6, hg6, hv6, hat6⟩ := hf.t 6 _ h6
      subst hv6
      obtain ⟨g6', cs6, T6, hg6', hh6, hc6⟩ := hf.m 6 _ hm6
      obtain rfl := Option.some.inj (hg6.symm.trans hg6')
      have hc6 : Fl c.A p w dm (lkA [(0, pin)] 0) (.mp []) (.map TI TRC) cs6.toList := hc6
      rw [q01] at hc6
      obtain ⟨g, es, clock, hcs6, hgp, hmap, hml⟩ : ∃ g es clock, cs6 = #[.map (some g)] ∧ p pin = some g ∧ w.heap[g]? = some (.map es clock) ∧ es.toList = [] := by
        rcases hc6 with ⟨E, te, l, v, e, -⟩ | ⟨K, V, kt, vt, l, g, es, clock, e1, hK, hV, e2, e3, hg, hh, hl⟩
        · cases e
        · injection e2 with e2
          subst e2
          refine ⟨g, es, clock, by apply Array.ext'; exact e3, hg, hh, ?_⟩
          cases hes : es.toList with
          | nil => rfl
          | cons e r => rw [hes] at hl; exact hl.elim
      have hes : es = #[] := by apply Array.ext'; exact hml
      subst hes hcs6
      have hg6g : g6 ≠ g := fun e => by
        subst e
        exact hne96 (hb.inj _ _ _ hgp hg6)
      have hnotpin : ∀ {b : Nat}, FFD c.A p (own.map (·.2) ++ dep) b → b ≠ g := fun {b} hF e => by
        subst e
        rcases hF with ⟨-, hfr⟩ | ⟨x, hx, hpx⟩
        · exact hfr pin hgp
        · have := hb.inj _ _ _ hpx hgp
          subst this
          have : hasN (own.map (·.2) ++ dep) x = true := hasN_iff.2 hx
          rw [hpin] at this
          cases this
      have hlc : LCx w a g g6 T6 (xT.ev c.v).rs A1 cap := by
        refine ⟨lt_of_heap hmap, hh6, hg6g, hz, e25, e26, e6, ?_, fun j hj => ?_⟩
        · have : LM (.st 36) = 5864062014634 := by decide
          omega
        · obtain ⟨b, o, cs, e1, hF, hr, hd⟩ := (rdE_iff.1 hE1) j hj
          rw [wU, Nat.zero_add] at hr
          have hd : Rd w _ (xT.ev c.v).rs[j] (.st 36) cs := hd
          generalize (xT.ev c.v).rs[j] = y at hd ⊢
          cases y with
          | a l =>
            obtain ⟨T, fs, eT, hfl, hl⟩ := hd
            injection eT with eT
            subst eT
            obtain rfl := Option.some.inj (hfl.symm.trans fU)
            cases l with
            | nil => obtain ⟨h, -⟩ := hl; cases h
            | cons y0 l =>
              obtain ⟨t0, ts, c1, c2, e2, e3, h5, h6⟩ := hl
              injection e2 with e2 e4
              subst e2 e4 e3
              cases l with
              | nil => obtain ⟨h, -⟩ := h6; cases h
              | cons y1 l =>
                obtain ⟨t1, ts', c3, c4, e5, e6, h7, h8⟩ := h6
                injection e5 with e5 e7
                subst e5 e7 e6
                cases l with
                | cons y2 l => obtain ⟨t, ts, c1, c2, e1, -⟩ := h8; cases e1
                | nil =>
                  obtain ⟨-, rfl⟩ := h8
                  cases y0 with
                  | i k =>
                    obtain ⟨k0, e8, rfl, hk0⟩ := h5
                    injection e8 with e8
                    subst e8
                    have hl3 := (Rd.len _ h7).1
                    rw [wC] at hl3
                    match c3, hl3 with
                    | [u1, u2], _ =>
                      exact ⟨b, o, k, y1, u1, u2, e1, hnotpin hF, by simpa using hr, rfl, hk0, Rd.flat 8 _ flC h7⟩
                  | u => exact h5.elim
                  | b x => cases h5.1
                  | s x => cases h5.1
                  | a l => obtain ⟨T, fs, e, -⟩ := h5; cases e
                  | r l => obtain ⟨E, te, A, cap, e, -⟩ := h5; cases e
                  | mp l => obtain ⟨K, V, kt, vt, g, es, clock, e, -⟩ := h5; cases e
          | u => exact hd.elim
          | i n => obtain ⟨k, e, -⟩ := hd; cases e
          | b x => cases hd.1
          | s x => cases hd.1
          | r l => obtain ⟨E, te, A, cap, e, -⟩ := hd; cases e
          | mp l => obtain ⟨K, V, kt, vt, g, es, clock, e, -⟩ := hd; cases e
      refine loop_ok hlc e27 hmap fun a' W' hI => hk a' W' ?_
      obtain ⟨es', clock', bs, r1, r2, r3, r4⟩ := hI.o.map
      rw [List.take_length] at r2
      have hbut := hI.o.but
      have hst : Stab c.A (oneQ pin) no p w p W' := ⟨hbut.size, fun b hlt ha hfr => ⟨hbut.block b hlt fun e => by
          have e : b = g := e
          subst e
          exact hfr pin hgp, hfr⟩, fun x b _ h => h, fun x b hx hpx => hbut.block b (hb.bd x b hpx) fun e => by
          have e : b = g := e
          subst e
          have := hb.inj _ _ _ hpx hgp
          subst this
          simp [oneQ] at hx⟩
      have hb1 : Bs c.A w0 S0 p W' := by
        refine ⟨hb.inj, fun x b hx => Nat.lt_of_lt_of_le (hb.bd x b hx) hbut.size, hb.but.trans hbut fun x hx hlt => ?_, hb.pin, hb.new, hb.pa, fun x b hx => ?_⟩
        · have hx : x = g := hx
          subst hx
          exact hb.pin pin x hgp
        · by_cases hbg : b = g
          · subst hbg
            exact .inr ⟨_, _, r1⟩
          · exact (hb.obj x b hx).same (hbut.block b (hb.bd x b hx) hbg)
      have hf1 : SF c ⟨σ.t.filter fun e => !hasN killO e.1, σ.m⟩ p w a' := by
        refine ⟨fun t x hx => ?_, hf.m⟩
        obtain ⟨h1, h2⟩ := filter_lkq (q := fun y => !hasN killO y) hx
        obtain ⟨v, h3, h4⟩ := hf.t t x h1
        exact ⟨v, (hI.tm t (by simpa using h2)).trans h3, h4⟩
      have hf2 := SF.un (q := oneQ pin) hb1.inj hb1.pa (hf1.keep hst)
      have hq96 : oneQ pin 96 = false := by
        unfold oneQ
        cases hh : Nat.beq 96 pin with
        | false => rfl
        | true => exact absurd (Nat.eq_of_beq_eq_true hh).symm hne96
      refine ⟨unP (oneQ pin) p, hb1.un _, ⟨hf2.t, fun k e he => ?_⟩, hI.df.trans hd, hI.sz⟩
      by_cases hk6 : 6 = k
      · subst hk6
        rw [putA_self] at he
        injection he with he
        subst he
        have hng : Free (unP (oneQ pin) p) g := fun x hx => by
          obtain ⟨h1, h2⟩ := unP_some hx
          have := hb.inj _ _ _ h2 hgp
          subst this
          simp [oneQ] at h1
        refine ⟨g6, #[.map (some g)], T6, unP_of hq96 hg6, (hbut.block g6 (hb.bd _ _ hg6) fun e => hg6g e).trans hh6, ?_⟩
        show Fl c.A (unP (oneQ pin) p) W' [] (lkA [] 0) (.mp (grpD (xT.ev c.v).rs)) (.map TI TRC) [.map (some g)]
        show Rd W' (FFD c.A (unP (oneQ pin) p) []) (.mp (grpD (xT.ev c.v).rs)) (.map TI TRC) [.map (some g)]
        refine ⟨TI, TRC, _, _, g, es', clock', rfl, int_ty, row_ty, rfl, .inl ⟨hb.pa _ _ hgp, hng⟩, r1, r2.rdM tC rfl flC fun b hbm => .inl ⟨hb.new b ?_, fun x hx => ?_⟩⟩
        · have := (r4 b hbm).1
          have := hb.but.size
          omega
        · have := hb.bd x b (unP_some hx).2
          have := (r4 b hbm).1
          omega
      · rw [putA_ne hk6] at he
        exact hf2.m k e he
    · cases h
  · cases h
end

theorem fok_walk {ct : Ct} {tbl : Tbl} (fn : Func) (cd : Code) (hf : Try.prog.funcs[ct.f]? = some fn) (hb : fn.body = some cd) (hsz : ct.ar.length ≤ fn.ntmps)
    (hen : ∀ args w, (callFunc ct.f args).run Try.prog w = .ok (.enter ct.f args) w) {g : List D → Option (List D)} (hnp : noPan tbl = true)
    (h : ∀ ds outs, WfA ct.ars ds → g ds = some outs → ∀ (c : Cx) (w0 : World) (S0 : Nat → Prop) (p : Pins) (w : World) (a : Act) (Q : Exit → Act → World → Prop), c.lo = ct.ar.length → ds.length = dataN ct.ars → PanQ tbl w0 S0 [] Q → PanR tbl (fun o => o = outs) w0 S0 [] Q → Bs c.A w0 S0 p w → SF (c.at (tblS tbl) ds) (begS ct) p w a → a.defers = [] → a.tmps.size = fn.ntmps →
      (∀ n' r σ' l' B' p' w' a', l'.length = n' → (endT ct fn.results.toList n' r σ').go (tblS tbl) (fun o => o = outs) l' B' → Bs c.A w0 S0 p' w' → SF (c.at (tblS tbl) l') σ' p' w' a' → a'.defers = [] → a'.tmps.size = fn.ntmps → Q r.exit' a' w') →
      cd.wpIn (FR none) 0 Try.prog Q a w) : FOk ct g := by
  refine ⟨hen, fun A p w vs us ds outs hg hpre hvl hargs => calls_of_wp hf hb ?_⟩
  obtain ⟨hwf, hdl, -⟩ := hargs.wf
  rw [all_map] at hwf hdl
  obtain ⟨hb0, hsf⟩ := start_run (tbl := tbl) hsz hpre hvl hargs
  refine (wpIn_wide (n := 0)).1 ?_
  refine h ds outs hwf hg (cxA tbl ct A p vs us ds) w (pinned p) p w _ _ rfl hdl (fun e he T hT _ a w2 h3 h4 => (noPan_no hnp he hT).elim) (fun _ e he T hT a w2 h3 h4 => (noPan_no hnp he hT).elim) hb0 hsf rfl (by simp; omega) fun n' r σ' l' B' p' w' a' hl' hgo' hb' hf' hd' hz' => ?_
  have fin' : ∀ xs, fin ct fn.results.toList σ' = some xs → X.evs (evl (tblS tbl) l') xs = outs → a'.defers = [] ∧ ∃ v, (results fn a'.tmps).run Try.prog w' = .ok v w' ∧ ((∃ T, ct.pn = some T ∧ outs = [.u] ∧ Ending.returned v = .panicked (panCh T) ∧ But (pinned p) w w') ∨ ∃ rs p', Ending.returned v = .returned (retV rs) ∧ Bs A w (pinned p) p' w' ∧ ResL A p' w' ct.rs ct.ar.length rs (outs.take ct.rs.length) ∧ RefL A p p' w' ct.all (outs.drop ct.rs.length)) := by
    intro xs hfin hout
    obtain ⟨rs, p2, h1, h2, h3, h4⟩ := fin_run (c := cxA tbl ct A p vs us ds) rfl rfl (fun _ _ => rfl) hargs hb' hf' hfin
    rw [hout] at h3 h4
    exact ⟨hd', _, h1, .inr ⟨rs, p2, rfl, h2, h3, h4⟩⟩
  cases r with
  | exit i => exact hgo'.elim
  | normal =>
    simp only [endT] at hgo'
    split at hgo'
    · rename_i xs hx
      exact fin' xs hx hgo'
    · exact hgo'.elim
  | ret =>
    simp only [endT] at hgo'
    split at hgo'
    · rename_i xs hx
      exact fin' xs hx hgo'
    · exact hgo'.elim

noncomputable def bodyO : Code := match Try.f31.body with
  | some c => c
  | none => .skip
noncomputable def r0O : Code := match bodyO with | .seq x _ => x | _ => .skip
noncomputable def r1O : Code := match bodyO with | .seq _ (.seq x _) => x | _ => .skip
noncomputable def r2O : Code := match bodyO with | .seq _ (.seq _ (.seq x _)) => x | _ => .skip
noncomputable def r3O : Code := match bodyO with | .seq _ (.seq _ (.seq _ (.seq (.seq x _) _))) => x | _ => .skip
theorem bodyO_eq : Try.f31.body = some (.seq r0O (.seq r1O (.seq r2O (.seq (.seq r3O codeL) codeB)))) := by kernel_rfl
theorem codeA_eq : codeA = .seq r0O (.seq r1O (.seq r2O r3O)) := by kernel_rfl
theorem ntmpsO : Try.f31.ntmps = 110 := by kernel_rfl

theorem fok_mark {ct : Ct} {g : List D → Option (List D)} {tbl : Tbl} (ann : Ann) (htb : TblOk tbl) (hcf : Try.prog.funcs[ct.f]? = some Try.f31)
    (hen : ∀ args w, (callFunc ct.f args).run Try.prog w = .ok (.enter ct.f args) w) (hsz : ct.ar.length ≤ 110)
    (h : ∀ ds outs, WfA ct.ars ds → g ds = some outs → (treeH Try.prog tbl ann ct Try.f31 codeA codeB doOlds).go (tblS tbl) (fun o => o = outs) ds fun _ _ => False) (hnp : noPan tbl = true := by rfl) : FOk ct g := by
  refine fok_walk (tbl := tbl) Try.f31 _ hcf bodyO_eq (by rw [ntmpsO]; exact hsz) hen hnp fun ds outs hwf hg c w0 S0 p w a Q hlo hdl hQ hR hb hf hd hz hfin => ?_
  have hgo := h ds outs hwf hg
  unfold treeH at hgo
  rw [codeA_eq, ← hlo] at hgo
  simp only [toT] at hgo
  refine wpIn_seq (toT_ok none 0 htb r0O hgo hdl hb hf hd hz (fun e he T hT _ a w2 h3 h4 => (noPan_no hnp he hT).elim) (fun _ e he T hT a w2 h3 h4 => (noPan_no hnp he hT).elim) fun n1 r1 σ1 l1 B1 p1 w1 a1 hl1 _ _ hgo1 hb1 hf1 hd1 hz1 => ?_)
  cases r1 with
  | exit i => exact hfin n1 (.exit i) σ1 l1 B1 p1 w1 a1 hl1 hgo1 hb1 hf1 hd1 hz1
  | ret => exact hfin n1 .ret σ1 l1 B1 p1 w1 a1 hl1 hgo1 hb1 hf1 hd1 hz1
  | normal =>
    show Code.wpIn _ _ _ _ _ _ _
    refine wpIn_seq (toT_ok none 0 htb r1O hgo1 hl1 hb1 hf1 hd1 hz1 (fun e he T hT _ a w2 h3 h4 => (noPan_no hnp he hT).elim) (fun _ e he T hT a w2 h3 h4 => (noPan_no hnp he hT).elim) fun n2 r2 σ2 l2 B2 p2 w2 a2 hl2 _ _ hgo2 hb2 hf2 hd2 hz2 => ?_)
    cases r2 with
    | exit i => exact hfin n2 (.exit i) σ2 l2 B2 p2 w2 a2 hl2 hgo2 hb2 hf2 hd2 hz2
    | ret => exact hfin n2 .ret σ2 l2 B2 p2 w2 a2 hl2 hgo2 hb2 hf2 hd2 hz2
    | normal =>
      show Code.wpIn _ _ _ _ _ _ _
      refine wpIn_seq (toT_ok none 0 htb r2O hgo2 hl2 hb2 hf2 hd2 hz2 (fun e he T hT _ a w2 h3 h4 => (noPan_no hnp he hT).elim) (fun _ e he T hT a w2 h3 h4 => (noPan_no hnp he hT).elim) fun n3 r3 σ3 l3 B3 p3 w3 a3 hl3 _ _ hgo3 hb3 hf3 hd3 hz3 => ?_)
      cases r3 with
      | exit i => exact hfin n3 (.exit i) σ3 l3 B3 p3 w3 a3 hl3 hgo3 hb3 hf3 hd3 hz3
      | ret => exact hfin n3 .ret σ3 l3 B3 p3 w3 a3 hl3 hgo3 hb3 hf3 hd3 hz3
      | normal =>
        show Code.wpIn _ _ _ _ _ _ _
        refine wpIn_seq (wpIn_seq (toT_ok none 0 htb r3O hgo3 hl3 hb3 hf3 hd3 hz3 (fun e he T hT _ a w2 h3 h4 => (noPan_no hnp he hT).elim) (fun _ e he T hT a w2 h3 h4 => (noPan_no hnp he hT).elim) fun n4 r4 σ4 l4 B4 p4 w4 a4 hl4 _ _ hgo4 hb4 hf4 hd4 hz4 => ?_))
        cases r4 with
        | exit i => exact hfin n4 (.exit i) σ4 l4 B4 p4 w4 a4 hl4 hgo4 hb4 hf4 hd4 hz4
        | ret => exact hfin n4 .ret σ4 l4 B4 p4 w4 a4 hl4 hgo4 hb4 hf4 hd4 hz4
        | normal =>
          show Code.wpIn _ _ _ _ _ _ _
          simp only at hgo4
          split at hgo4
          · rename_i N σ5 hdo
            obtain ⟨hN, hgo5⟩ := needT_ok hgo4
            refine (wpIn_wide (n := 0)).2 ?_
            refine olds_ok (c := c.at (tblS tbl) l4) hb4 hf4 hd4 (hz4.trans ntmpsO) hdo hN fun a5 w5 hp5 => ?_
            obtain ⟨p5, hb5, hf5, hd5, hz5⟩ := hp5
            show Code.wpIn (FR none) 0 _ _ _ _ _
            refine toT_ok none 0 htb codeB hgo5 hl4 hb5 hf5 hd5 (hz5.trans ntmpsO.symm) (fun e he T hT _ a w2 h3 h4 => (noPan_no hnp he hT).elim) (fun _ e he T hT a w2 h3 h4 => (noPan_no hnp he hT).elim) fun n6 r6 σ6 l6 B6 p6 w6 a6 hl6 _ _ hgo6 hb6 hf6 hd6 hz6 => ?_
            exact hfin n6 r6 σ6 l6 B6 p6 w6 a6 hl6 hgo6 hb6 hf6 hd6 hz6
          · exact hgo4.elim
end Go.Proofs.Ytmebmpgffhajbaa


namespace Go.Proofs.Ytmebmpgffhajbaa
open Go.RowKit
set_option linter.unusedVariables false
set_option maxRecDepth 100000

abbrev T_Cells : Ty := .row 31
abbrev T_Symbols : Ty := .row 51
abbrev T_Undos : Ty := .row 37
abbrev T_Wakes : Ty := .row 63
abbrev T_Store : Ty := .st 27
abbrev T_Cell : Ty := .st 30
abbrev T_Roots : Ty := .st 34
abbrev T_Undo : Ty := .st 36
abbrev T_Symbol : Ty := .st 50
abbrev T_Wake : Ty := .st 62
def q18 : Ct := ⟨14, [.val (.st 27), .val (.st 34)], [(.bool, false)], [], none⟩
theorem enter_law34_small (args : Array Value) (w : World) : (callFunc q18.f args).run Try.prog w = .ok (.enter q18.f args) w := by kernel_rfl
def ann_law34_small : Ann := ⟨[0, 1, 2, 3, 4], []⟩
def q2a : Tree := (.leaf [(.and (.and (.and (.and (.and (.and (.le (.len (.fld (.tok 0) 0)) (.lit (.i 300))) (.le (.len (.fld (.tok 0) 1)) (.lit (.i 100)))) (.le (.len (.fld (.tok 0) 2)) (.lit (.i 300)))) (.le (.len (.fld (.tok 0) 3)) (.lit (.i 50)))) (.le (.len (.fld (.tok 1) 0)) (.lit (.i 50)))) (.le (.len (.fld (.tok 1) 1)) (.lit (.i 50)))) (.le (.len (.fld (.tok 1) 2)) (.lit (.i 50))))])
set_option maxRecDepth 100000 in
theorem code_law34_small : ∀ cd, Try.f14.body = some cd → treeOf Try.prog [] ann_law34_small q18 Try.f14 cd = q2a := by
  intro cd h
  injection h with h
  subst h
  kernel_rfl
theorem fok_law34_small {g : List D → Option (List D)}  (h : ∀ ds outs, WfA q18.ars ds → g ds = some outs → q2a.go (tblS []) (fun o => o = outs) ds fun _ _ => False) : FOk q18 g :=
  q0l ann_law34_small Try.f14 _ .nil rfl rfl enter_law34_small (by decide) fun ds outs hw hg => by rw [code_law34_small  _ rfl]; exact h ds outs hw hg

def q0x : Ct := ⟨11, [.val (.int .i64), .val (.int .i64)], [(.st 30, false)], [], none⟩
theorem enter_law34_cell (args : Array Value) (w : World) : (callFunc q0x.f args).run Try.prog w = .ok (.enter q0x.f args) w := by kernel_rfl
def ann_law34_cell : Ann := ⟨[0, 1, 4], []⟩
def q2p : Tree := (.leaf [(.mk [(.tok 0), (.tok 1)])])
set_option maxRecDepth 100000 in
theorem code_law34_cell : ∀ cd, Try.f11.body = some cd → treeOf Try.prog [] ann_law34_cell q0x Try.f11 cd = q2p := by
  intro cd h
  injection h with h
  subst h
  kernel_rfl
theorem fok_law34_cell {g : List D → Option (List D)}  (h : ∀ ds outs, WfA q0x.ars ds → g ds = some outs → q2p.go (tblS []) (fun o => o = outs) ds fun _ _ => False) : FOk q0x g :=
  q0l ann_law34_cell Try.f11 _ .nil rfl rfl enter_law34_cell (by decide) fun ds outs hw hg => by rw [code_law34_cell  _ rfl]; exact h ds outs hw hg

def q1b : Ct := ⟨10, [], [(.st 27, true)], [], none⟩
theorem enter_law34_six (args : Array Value) (w : World) : (callFunc q1b.f args).run Try.prog w = .ok (.enter q1b.f args) w := by kernel_rfl
def ann_law34_six : Ann := ⟨[0], []⟩
def q2v : Tree := (.need [(.ok 0 [(.lit (.i 1)), (.lit (.i 9))]), (.ok 0 [(.lit (.i 4)), (.lit (.i 0))]), (.ok 0 [(.lit (.i 1)), (.lit (.i 7))]), (.ok 0 [(.lit (.i 0)), (.lit (.i 4))]), (.ok 0 [(.lit (.i 0)), (.lit (.i 4))]), (.ok 0 [(.lit (.i 0)), (.lit (.i 5))])] (.leaf [(.set (.set (.set (.lit (.a [(.r []), (.r []), (.r []), (.r []), (.i 0), (.i 0)])) 0 (.row [(.call 0 0 [(.lit (.i 1)), (.lit (.i 9))]), (.call 0 0 [(.lit (.i 4)), (.lit (.i 0))]), (.call 0 0 [(.lit (.i 1)), (.lit (.i 7))]), (.call 0 0 [(.lit (.i 0)), (.lit (.i 4))]), (.call 0 0 [(.lit (.i 0)), (.lit (.i 4))]), (.call 0 0 [(.lit (.i 0)), (.lit (.i 5))])])) 1 (.row [(.mk [(.lit (.s ⟨#[102]⟩)), (.lit (.i 2))])])) 5 (.lit (.i 10)))]))
set_option maxRecDepth 100000 in
theorem code_law34_six (g0 : List D → Option (List D)) : ∀ cd, Try.f10.body = some cd → treeOf Try.prog [(q0x, g0)] ann_law34_six q1b Try.f10 cd = q2v := by
  intro cd h
  injection h with h
  subst h
  kernel_rfl
theorem fok_law34_six {g0 : List D → Option (List D)} {g : List D → Option (List D)} (h0 : FOk q0x g0) (h : ∀ ds outs, WfA q1b.ars ds → g ds = some outs → q2v.go (tblS [(q0x, g0)]) (fun o => o = outs) ds fun _ _ => False) : FOk q1b g :=
  q0l ann_law34_six Try.f10 _ (.cons h0 .nil) rfl rfl enter_law34_six (by decide) fun ds outs hw hg => by rw [code_law34_six g0 _ rfl]; exact h ds outs hw hg

def q0d : Ct := ⟨43, [.val (.row 51)], [(.bool, false)], [], none⟩
theorem q30 (args : Array Value) (w : World) : (callFunc q0d.f args).run Try.prog w = .ok (.enter q0d.f args) w := by kernel_rfl
def q25 : Ann := ⟨[0, 2, 3, 5, 8, 12, 13, 14, 15, 36], [(5, ⟨[(2, .bool, false), (14, .int .i64, false), (3, .map 51 4, false)], [], [15, 16, 17, 5, 18, 19, 20, 21, 22, 23, 24, 25, 26, 27, 28, 29, 30, 31, 32, 33, 34, 35, 36, 37, 38, 39, 11], []⟩)]⟩
def q1d : Tree := (.br (.lt (.lit (.i 1048576)) (.len (.tok 0))) (.leaf [(.lit (.b .false))]) (.loop 5 1 [(.lit (.b .false)), (.lit (.i 0)), (.lit (.mp []))] (.br (.lt (.tok 2) (.len (.tok 0))) (.need [(.le (.lit (.i 0)) (.tok 2)), (.lt (.tok 2) (.len (.tok 0)))] (.br (.or (.or (.or (.lt (.lit (.i 100)) (.slen (.fld (.get (.tok 0) (.tok 2)) 0))) (.lt (.fld (.get (.tok 0) (.tok 2)) 1) (.lit (.i 0)))) (.lt (.lit (.i 8)) (.fld (.get (.tok 0) (.tok 2)) 1))) (.fn 0 [(.tok 3), (.get (.tok 0) (.tok 2)), (.lit (.b .false))])) (.leaf [(.lit (.b .false))]) (.need [(.rng .i64 (.add (.tok 2) (.lit (.i 1))))] (.back 5 [(.tok 1), (.add (.tok 2) (.lit (.i 1))), (.fn 2 [(.tok 3), (.get (.tok 0) (.tok 2)), (.lit (.b .true))])])))) (.leaf [(.lit (.b .true))]))))
set_option maxRecDepth 100000 in
theorem code_cells_validSymbols : ∀ cd, Try.f43.body = some cd → treeOf Try.prog [] q25 q0d Try.f43 cd = q1d := by
  intro cd h
  injection h with h
  subst h
  kernel_rfl
theorem q26 {g : List D → Option (List D)}  (h : ∀ ds outs, WfA q0d.ars ds → g ds = some outs → q1d.go (tblS []) (fun o => o = outs) ds fun _ _ => False) : FOk q0d g :=
  q0l q25 Try.f43 _ .nil rfl rfl q30 (by decide) fun ds outs hw hg => by rw [code_cells_validSymbols  _ rfl]; exact h ds outs hw hg

def q0h : Ct := ⟨56, [.val (.st 27), .val (.int .i64)], [(.int .i64, false)], [], none⟩
theorem enter_cells_arity (args : Array Value) (w : World) : (callFunc q0h.f args).run Try.prog w = .ok (.enter q0h.f args) w := by kernel_rfl
def ann_cells_arity : Ann := ⟨[0, 1, 2, 4, 13], []⟩
def q1o : Tree := (.br (.or (.lt (.tok 1) (.lit (.i 0))) (.le (.len (.fld (.tok 0) 1)) (.tok 1))) (.leaf [(.lit (.i (-1)))]) (.need [(.le (.lit (.i 0)) (.tok 1)), (.lt (.tok 1) (.len (.fld (.tok 0) 1)))] (.leaf [(.fld (.get (.fld (.tok 0) 1) (.tok 1)) 1)])))
set_option maxRecDepth 100000 in
theorem code_cells_arity : ∀ cd, Try.f56.body = some cd → treeOf Try.prog [] ann_cells_arity q0h Try.f56 cd = q1o := by
  intro cd h
  injection h with h
  subst h
  kernel_rfl
theorem fok_cells_arity {g : List D → Option (List D)}  (h : ∀ ds outs, WfA q0h.ars ds → g ds = some outs → q1o.go (tblS []) (fun o => o = outs) ds fun _ _ => False) : FOk q0h g :=
  q0l ann_cells_arity Try.f56 _ .nil rfl rfl enter_cells_arity (by decide) fun ds outs hw hg => by rw [code_cells_arity  _ rfl]; exact h ds outs hw hg

def q0a : Ct := ⟨57, [.val (.st 27), .val (.int .i64)], [(.int .i64, false)], [], none⟩
theorem enter_cells_tag (args : Array Value) (w : World) : (callFunc q0a.f args).run Try.prog w = .ok (.enter q0a.f args) w := by kernel_rfl
def ann_cells_tag : Ann := ⟨[0, 1, 2, 4, 13], []⟩
def q1w : Tree := (.br (.or (.lt (.tok 1) (.lit (.i 0))) (.le (.len (.fld (.tok 0) 0)) (.tok 1))) (.leaf [(.lit (.i (-1)))]) (.need [(.le (.lit (.i 0)) (.tok 1)), (.lt (.tok 1) (.len (.fld (.tok 0) 0)))] (.leaf [(.fld (.get (.fld (.tok 0) 0) (.tok 1)) 0)])))
set_option maxRecDepth 100000 in
theorem code_cells_tag : ∀ cd, Try.f57.body = some cd → treeOf Try.prog [] ann_cells_tag q0a Try.f57 cd = q1w := by
  intro cd h
  injection h with h
  subst h
  kernel_rfl
theorem fok_cells_tag {g : List D → Option (List D)}  (h : ∀ ds outs, WfA q0a.ars ds → g ds = some outs → q1w.go (tblS []) (fun o => o = outs) ds fun _ _ => False) : FOk q0a g :=
  q0l ann_cells_tag Try.f57 _ .nil rfl rfl enter_cells_tag (by decide) fun ds outs hw hg => by rw [code_cells_tag  _ rfl]; exact h ds outs hw hg

def q0g : Ct := ⟨66, [.val (.st 27), .val (.int .i64)], [(.bool, false)], [], none⟩
theorem enter_cells_group (args : Array Value) (w : World) : (callFunc q0g.f args).run Try.prog w = .ok (.enter q0g.f args) w := by kernel_rfl
def ann_cells_group : Ann := ⟨[0, 1, 2, 4, 5, 6, 11], []⟩
def q1n : Tree := (.need [(.rng .i64 (.add (.tok 1) (.lit (.i 1)))), (.ok 0 [(.tok 0), (.add (.tok 1) (.lit (.i 1)))])] (.br (.not (.eq (.call 0 0 [(.tok 0), (.add (.tok 1) (.lit (.i 1)))]) (.lit (.i 1)))) (.leaf [(.lit (.b .false))]) (.need [(.ok 0 [(.tok 0), (.add (.tok 1) (.lit (.i 2)))]), (.rng .i64 (.add (.tok 1) (.lit (.i 2)))), (.le (.lit (.i 0)) (.add (.tok 1) (.lit (.i 1)))), (.lt (.add (.tok 1) (.lit (.i 1))) (.len (.fld (.tok 0) 0))), (.rng .i64 (.add (.tok 1) (.lit (.i 1))))] (.leaf [(.and (.and (.and (.and (.le (.lit (.i 1)) (.fld (.get (.fld (.tok 0) 0) (.add (.tok 1) (.lit (.i 1)))) 1)) (.le (.fld (.get (.fld (.tok 0) 0) (.add (.tok 1) (.lit (.i 1)))) 1) (.fld (.tok 0) 4))) (.le (.lit (.i 0)) (.call 0 0 [(.tok 0), (.add (.tok 1) (.lit (.i 2)))]))) (.not (.eq (.call 0 0 [(.tok 0), (.add (.tok 1) (.lit (.i 2)))]) (.lit (.i 4))))) (.not (.eq (.call 0 0 [(.tok 0), (.add (.tok 1) (.lit (.i 2)))]) (.lit (.i 5)))))]))))
set_option maxRecDepth 100000 in
theorem code_cells_group (g0 : List D → Option (List D)) : ∀ cd, Try.f66.body = some cd → treeOf Try.prog [(q0a, g0)] ann_cells_group q0g Try.f66 cd = q1n := by
  intro cd h
  injection h with h
  subst h
  kernel_rfl
theorem fok_cells_group {g0 : List D → Option (List D)} {g : List D → Option (List D)} (h0 : FOk q0a g0) (h : ∀ ds outs, WfA q0g.ars ds → g ds = some outs → q1n.go (tblS [(q0a, g0)]) (fun o => o = outs) ds fun _ _ => False) : FOk q0g g :=
  q0l ann_cells_group Try.f66 _ (.cons h0 .nil) rfl rfl enter_cells_group (by decide) fun ds outs hw hg => by rw [code_cells_group g0 _ rfl]; exact h ds outs hw hg

def q06 : Ct := ⟨30, [.val (.st 27), .val (.st 30)], [(.bool, false)], [], none⟩
theorem enter_cells_ValidCell (args : Array Value) (w : World) : (callFunc q06.f args).run Try.prog w = .ok (.enter q06.f args) w := by kernel_rfl
def q2t : Ann := ⟨[0, 1, 2, 3, 4, 5, 7, 8, 10, 17, 29, 36], []⟩
def q1i : Tree := (.br (.eq (.fld (.tok 1) 0) (.lit (.i 1))) (.leaf [(.lit (.b .true))]) (.br (.eq (.fld (.tok 1) 0) (.lit (.i 2))) (.need [(.ok 0 [(.tok 0), (.fld (.tok 1) 1)])] (.leaf [(.eq (.call 0 0 [(.tok 0), (.fld (.tok 1) 1)]) (.lit (.i 0)))])) (.br (.eq (.fld (.tok 1) 0) (.lit (.i 0))) (.need [(.ok 1 [(.tok 0), (.fld (.tok 1) 1)])] (.leaf [(.and (.le (.lit (.i 0)) (.call 1 0 [(.tok 0), (.fld (.tok 1) 1)])) (.not (.eq (.call 1 0 [(.tok 0), (.fld (.tok 1) 1)]) (.lit (.i 4)))))])) (.br (.eq (.fld (.tok 1) 0) (.lit (.i 3))) (.need [(.ok 1 [(.tok 0), (.fld (.tok 1) 1)])] (.leaf [(.eq (.call 1 0 [(.tok 0), (.fld (.tok 1) 1)]) (.lit (.i 4)))])) (.br (.eq (.fld (.tok 1) 0) (.lit (.i 5))) (.need [(.ok 1 [(.tok 0), (.fld (.tok 1) 1)])] (.leaf [(.eq (.call 1 0 [(.tok 0), (.fld (.tok 1) 1)]) (.lit (.i 5)))])) (.leaf [(.lit (.b .false))]))))))
set_option maxRecDepth 100000 in
theorem code_cells_ValidCell (g0 g1 : List D → Option (List D)) : ∀ cd, Try.f30.body = some cd → treeOf Try.prog [(q0h, g0), (q0a, g1)] q2t q06 Try.f30 cd = q1i := by
  intro cd h
  injection h with h
  subst h
  kernel_rfl
theorem q2u {g0 g1 : List D → Option (List D)} {g : List D → Option (List D)} (h0 : FOk q0h g0) (h1 : FOk q0a g1) (h : ∀ ds outs, WfA q06.ars ds → g ds = some outs → q1i.go (tblS [(q0h, g0), (q0a, g1)]) (fun o => o = outs) ds fun _ _ => False) : FOk q06 g :=
  q0l q2t Try.f30 _ (.cons h0 (.cons h1 .nil)) rfl rfl enter_cells_ValidCell (by decide) fun ds outs hw hg => by rw [code_cells_ValidCell g0 g1 _ rfl]; exact h ds outs hw hg

def q0z : Ct := ⟨44, [.val (.st 27), .val (.int .i64)], [(.bool, false)], [], none⟩
theorem enter_cells_fits (args : Array Value) (w : World) : (callFunc q0z.f args).run Try.prog w = .ok (.enter q0z.f args) w := by kernel_rfl
def ann_cells_fits : Ann := ⟨[0, 1, 2, 4, 5, 6, 7, 8, 15, 16, 23, 30, 41, 42], [(8, ⟨[(4, .bool, false), (7, .int .i64, false)], [], [26, 27, 28, 29, 30, 33, 34, 35, 8, 36, 37, 38, 39, 40, 41, 31, 32], []⟩)]⟩
def q1q : Tree := (.need [(.le (.lit (.i 0)) (.tok 1)), (.lt (.tok 1) (.len (.fld (.tok 0) 0)))] (.br (.eq (.fld (.get (.fld (.tok 0) 0) (.tok 1)) 0) (.lit (.i 4))) (.need [(.ok 0 [(.tok 0), (.fld (.get (.fld (.tok 0) 0) (.tok 1)) 1)])] (.br (.lt (.call 0 0 [(.tok 0), (.fld (.get (.fld (.tok 0) 0) (.tok 1)) 1)]) (.lit (.i 1))) (.leaf [(.lit (.b .false))]) (.need [(.rng .i64 (.add (.tok 1) (.lit (.i 1))))] (.loop 8 2 [(.lit (.b .false)), (.add (.tok 1) (.lit (.i 1)))] (.need [(.rng .i64 (.add (.tok 1) (.call 0 0 [(.tok 0), (.fld (.get (.fld (.tok 0) 0) (.tok 1)) 1)])))] (.br (.le (.tok 3) (.add (.tok 1) (.call 0 0 [(.tok 0), (.fld (.get (.fld (.tok 0) 0) (.tok 1)) 1)]))) (.need [(.ok 1 [(.tok 0), (.tok 3)])] (.br (.or (.lt (.call 1 0 [(.tok 0), (.tok 3)]) (.lit (.i 0))) (.eq (.call 1 0 [(.tok 0), (.tok 3)]) (.lit (.i 4)))) (.leaf [(.lit (.b .false))]) (.need [(.rng .i64 (.add (.tok 3) (.lit (.i 1))))] (.back 8 [(.tok 2), (.add (.tok 3) (.lit (.i 1)))])))) (.leaf [(.lit (.b .true))]))))))) (.br (.eq (.fld (.get (.fld (.tok 0) 0) (.tok 1)) 0) (.lit (.i 5))) (.need [(.imp (.eq (.fld (.get (.fld (.tok 0) 0) (.tok 1)) 1) (.tok 1)) (.ok 2 [(.tok 0), (.tok 1)]))] (.leaf [(.and (.eq (.fld (.get (.fld (.tok 0) 0) (.tok 1)) 1) (.tok 1)) (.call 2 0 [(.tok 0), (.tok 1)]))])) (.need [(.ok 3 [(.tok 0), (.get (.fld (.tok 0) 0) (.tok 1))])] (.leaf [(.call 3 0 [(.tok 0), (.get (.fld (.tok 0) 0) (.tok 1))])])))))
set_option maxRecDepth 100000 in
theorem code_cells_fits (g0 g1 g2 g3 : List D → Option (List D)) : ∀ cd, Try.f44.body = some cd → treeOf Try.prog [(q0h, g0), (q0a, g1), (q0g, g2), (q06, g3)] ann_cells_fits q0z Try.f44 cd = q1q := by
  intro cd h
  injection h with h
  subst h
  kernel_rfl
theorem fok_cells_fits {g0 g1 g2 g3 : List D → Option (List D)} {g : List D → Option (List D)} (h0 : FOk q0h g0) (h1 : FOk q0a g1) (h2 : FOk q0g g2) (h3 : FOk q06 g3) (h : ∀ ds outs, WfA q0z.ars ds → g ds = some outs → q1q.go (tblS [(q0h, g0), (q0a, g1), (q0g, g2), (q06, g3)]) (fun o => o = outs) ds fun _ _ => False) : FOk q0z g :=
  q0l ann_cells_fits Try.f44 _ (.cons h0 (.cons h1 (.cons h2 (.cons h3 .nil)))) rfl rfl enter_cells_fits (by decide) fun ds outs hw hg => by rw [code_cells_fits g0 g1 g2 g3 _ rfl]; exact h ds outs hw hg

def q0n : Ct := ⟨45, [.val (.st 27)], [(.bool, false)], [], none⟩
theorem enter_cells_acyclic (args : Array Value) (w : World) : (callFunc q0n.f args).run Try.prog w = .ok (.enter q0n.f args) w := by kernel_rfl
def ann_cells_acyclic : Ann := ⟨[0, 1, 2, 3, 4, 5, 6, 7, 9, 16, 17, 18, 25, 46, 53, 54, 55, 56, 57], [(3, ⟨[(2, .bool, false), (17, .int .i64, false), (3, .row 3, false)], [], [18, 19, 4, 5, 20, 6, 21, 22, 23, 24, 25, 26, 27, 28, 29, 30, 31, 32, 33, 34, 35, 36, 37, 7, 38, 39, 40, 41, 42, 43, 44, 45, 46, 47, 48, 49, 50, 51, 52, 53, 54, 55, 56, 57, 58, 59, 9, 60, 61, 62, 63, 64, 13], []⟩),
  (7, ⟨[(5, .row 3, false), (6, .int .i64, false), (2, .bool, false), (3, .row 3, false)], [], [21, 22, 23, 24, 25, 26, 27, 28, 29, 30, 31, 32, 33, 34, 35, 36, 37, 7, 38, 39, 40, 41, 42, 43, 44, 45, 46, 47, 48, 49, 50, 51, 52, 53, 13, 60], []⟩),
  (16, ⟨[(56, .int .i64, false), (3, .row 3, false)], [], [57, 58, 59, 9, 60, 61, 62, 63, 13, 21, 26, 49], []⟩)]⟩
def q1j : Tree := (.need [(.le (.lit (.i 0)) (.len (.fld (.tok 0) 0))), (.le (.len (.fld (.tok 0) 0)) (.lit (.i 16777216)))] (.loop 3 1 [(.lit (.b .false)), (.lit (.i 0)), (.rep (.len (.fld (.tok 0) 0)) (.lit (.i 0)))] (.br (.lt (.tok 2) (.len (.fld (.tok 0) 0))) (.loop 7 4 [(.lit (.r [])), (.tok 2), (.tok 1), (.tok 3)] (.need [(.le (.lit (.i 0)) (.tok 5)), (.lt (.tok 5) (.len (.tok 7)))] (.br (.eq (.get (.tok 7) (.tok 5)) (.lit (.i 0))) (.need [(.le (.lit (.i 0)) (.tok 5)), (.lt (.tok 5) (.len (.tok 7)))] (.need [(.le (.add (.len (.tok 4)) (.lit (.i 1))) (.lit (.i 17592186043904)))] (.need [(.le (.lit (.i 0)) (.tok 5)), (.lt (.tok 5) (.len (.fld (.tok 0) 0)))] (.br (.or (.not (.eq (.fld (.get (.fld (.tok 0) 0) (.tok 5)) 0) (.lit (.i 0)))) (.eq (.fld (.get (.fld (.tok 0) 0) (.tok 5)) 1) (.tok 5))) (.loop 16 8 [(.lit (.i 0)), (.put (.tok 7) (.tok 5) (.lit (.i 1)))] (.br (.lt (.tok 8) (.len (.app (.tok 4) (.row [(.tok 5)])))) (.need [(.le (.lit (.i 0)) (.tok 8)), (.lt (.tok 8) (.len (.app (.tok 4) (.row [(.tok 5)]))))] (.need [(.le (.lit (.i 0)) (.get (.app (.tok 4) (.row [(.tok 5)])) (.tok 8))), (.lt (.get (.app (.tok 4) (.row [(.tok 5)])) (.tok 8)) (.len (.tok 9)))] (.need [(.rng .i64 (.add (.tok 8) (.lit (.i 1))))] (.back 16 [(.add (.tok 8) (.lit (.i 1))), (.put (.tok 9) (.get (.app (.tok 4) (.row [(.tok 5)])) (.tok 8)) (.lit (.i 2)))])))) (.need [(.rng .i64 (.add (.tok 2) (.lit (.i 1))))] (.back 3 [(.tok 6), (.add (.tok 2) (.lit (.i 1))), (.tok 9)])))) (.need [(.le (.lit (.i 0)) (.fld (.get (.fld (.tok 0) 0) (.tok 5)) 1)), (.lt (.fld (.get (.fld (.tok 0) 0) (.tok 5)) 1) (.len (.put (.tok 7) (.tok 5) (.lit (.i 1)))))] (.br (.eq (.get (.put (.tok 7) (.tok 5) (.lit (.i 1))) (.fld (.get (.fld (.tok 0) 0) (.tok 5)) 1)) (.lit (.i 1))) (.leaf [(.lit (.b .false))]) (.back 7 [(.app (.tok 4) (.row [(.tok 5)])), (.fld (.get (.fld (.tok 0) 0) (.tok 5)) 1), (.tok 6), (.put (.tok 7) (.tok 5) (.lit (.i 1)))]))))))) (.loop 16 8 [(.lit (.i 0)), (.tok 7)] (.br (.lt (.tok 8) (.len (.tok 4))) (.need [(.le (.lit (.i 0)) (.tok 8)), (.lt (.tok 8) (.len (.tok 4)))] (.need [(.le (.lit (.i 0)) (.get (.tok 4) (.tok 8))), (.lt (.get (.tok 4) (.tok 8)) (.len (.tok 9)))] (.need [(.rng .i64 (.add (.tok 8) (.lit (.i 1))))] (.back 16 [(.add (.tok 8) (.lit (.i 1))), (.put (.tok 9) (.get (.tok 4) (.tok 8)) (.lit (.i 2)))])))) (.need [(.rng .i64 (.add (.tok 2) (.lit (.i 1))))] (.back 3 [(.tok 6), (.add (.tok 2) (.lit (.i 1))), (.tok 9)]))))))) (.leaf [(.lit (.b .true))]))))
set_option maxRecDepth 100000 in
theorem code_cells_acyclic : ∀ cd, Try.f45.body = some cd → treeOf Try.prog [] ann_cells_acyclic q0n Try.f45 cd = q1j := by
  intro cd h
  injection h with h
  subst h
  kernel_rfl
theorem fok_cells_acyclic {g : List D → Option (List D)}  (h : ∀ ds outs, WfA q0n.ars ds → g ds = some outs → q1j.go (tblS []) (fun o => o = outs) ds fun _ _ => False) : FOk q0n g :=
  q0l ann_cells_acyclic Try.f45 _ .nil rfl rfl enter_cells_acyclic (by decide) fun ds outs hw hg => by rw [code_cells_acyclic  _ rfl]; exact h ds outs hw hg

def q0f : Ct := ⟨46, [.val (.st 27), .val (.st 36)], [(.bool, false)], [], none⟩
theorem enter_cells_validUndo (args : Array Value) (w : World) : (callFunc q0f.f args).run Try.prog w = .ok (.enter q0f.f args) w := by kernel_rfl
def q2s : Ann := ⟨[0, 1, 2, 3, 4, 5, 11, 14, 15, 22, 41], []⟩
def q1h : Tree := (.need [(.ok 0 [(.tok 0), (.fld (.tok 1) 0)])] (.br (.lt (.call 0 0 [(.tok 0), (.fld (.tok 1) 0)]) (.lit (.i 0))) (.leaf [(.lit (.b .false))]) (.br (.eq (.fld (.fld (.tok 1) 1) 0) (.lit (.i 0))) (.leaf [(.eq (.fld (.fld (.tok 1) 1) 1) (.fld (.tok 1) 0))]) (.br (.eq (.fld (.fld (.tok 1) 1) 0) (.lit (.i 5))) (.need [(.imp (.eq (.fld (.fld (.tok 1) 1) 1) (.fld (.tok 1) 0)) (.ok 1 [(.tok 0), (.fld (.tok 1) 0)])), (.imp (.and (.eq (.fld (.fld (.tok 1) 1) 1) (.fld (.tok 1) 0)) (.call 1 0 [(.tok 0), (.fld (.tok 1) 0)])) (.rng .i64 (.sub (.fld (.tok 1) 0) (.lit (.i 1))))), (.imp (.and (.eq (.fld (.fld (.tok 1) 1) 1) (.fld (.tok 1) 0)) (.call 1 0 [(.tok 0), (.fld (.tok 1) 0)])) (.ok 0 [(.tok 0), (.sub (.fld (.tok 1) 0) (.lit (.i 1)))]))] (.leaf [(.and (.and (.eq (.fld (.fld (.tok 1) 1) 1) (.fld (.tok 1) 0)) (.call 1 0 [(.tok 0), (.fld (.tok 1) 0)])) (.not (.eq (.call 0 0 [(.tok 0), (.sub (.fld (.tok 1) 0) (.lit (.i 1)))]) (.lit (.i 5)))))])) (.br (.eq (.fld (.fld (.tok 1) 1) 0) (.lit (.i 1))) (.br (.eq (.fld (.fld (.tok 1) 1) 0) (.lit (.i 1))) (.need [(.ok 2 [(.tok 0), (.fld (.tok 1) 1)])] (.leaf [(.call 2 0 [(.tok 0), (.fld (.tok 1) 1)])])) (.leaf [(.lit (.b .false))])) (.br (.eq (.fld (.fld (.tok 1) 1) 0) (.lit (.i 2))) (.br (.eq (.fld (.fld (.tok 1) 1) 0) (.lit (.i 2))) (.need [(.ok 2 [(.tok 0), (.fld (.tok 1) 1)])] (.leaf [(.call 2 0 [(.tok 0), (.fld (.tok 1) 1)])])) (.leaf [(.lit (.b .false))])) (.br (.eq (.fld (.fld (.tok 1) 1) 0) (.lit (.i 3))) (.need [(.ok 2 [(.tok 0), (.fld (.tok 1) 1)])] (.leaf [(.call 2 0 [(.tok 0), (.fld (.tok 1) 1)])])) (.leaf [(.lit (.b .false))]))))))))
set_option maxRecDepth 100000 in
theorem code_cells_validUndo (g0 g1 g2 : List D → Option (List D)) : ∀ cd, Try.f46.body = some cd → treeOf Try.prog [(q0a, g0), (q0g, g1), (q06, g2)] q2s q0f Try.f46 cd = q1h := by
  intro cd h
  injection h with h
  subst h
  kernel_rfl
theorem q2r {g0 g1 g2 : List D → Option (List D)} {g : List D → Option (List D)} (h0 : FOk q0a g0) (h1 : FOk q0g g1) (h2 : FOk q06 g2) (h : ∀ ds outs, WfA q0f.ars ds → g ds = some outs → q1h.go (tblS [(q0a, g0), (q0g, g1), (q06, g2)]) (fun o => o = outs) ds fun _ _ => False) : FOk q0f g :=
  q0l q2s Try.f46 _ (.cons h0 (.cons h1 (.cons h2 .nil))) rfl rfl enter_cells_validUndo (by decide) fun ds outs hw hg => by rw [code_cells_validUndo g0 g1 g2 _ rfl]; exact h ds outs hw hg

def q0k : Ct := ⟨26, [.val (.st 27)], [(.bool, false)], [], none⟩
theorem enter_cells_Valid (args : Array Value) (w : World) : (callFunc q0k.f args).run Try.prog w = .ok (.enter q0k.f args) w := by kernel_rfl
def ann_cells_Valid : Ann := ⟨[0, 1, 2, 3, 5, 7, 34, 37, 38, 39, 44, 48, 50, 51, 52, 53, 59, 62, 63, 64, 65, 91], [(4, ⟨[(2, .bool, false), (38, .int .i64, false)], [], [39, 40, 3, 41, 42, 43, 44, 45], []⟩),
  (12, ⟨[(2, .bool, false), (52, .int .i64, false)], [], [53, 54, 55, 5, 56, 57, 58, 59, 60], []⟩),
  (18, ⟨[(2, .bool, false), (64, .int .i64, false)], [], [65, 66, 67, 7, 68, 69, 70, 71, 72, 73, 74, 75, 76, 77, 78, 79, 80, 81, 82, 83, 84, 85, 86, 87, 88, 89, 90, 91, 92], []⟩)]⟩
def q1p : Tree := (.need [(.imp (.not (.or (.or (.or (.lt (.fld (.tok 0) 5) (.lit (.i 1))) (.lt (.lit (.i 1048576)) (.fld (.tok 0) 5))) (.lt (.fld (.tok 0) 5) (.len (.fld (.tok 0) 0)))) (.lt (.fld (.tok 0) 4) (.lit (.i 0))))) (.ok 0 [(.fld (.tok 0) 1)]))] (.br (.or (.or (.or (.or (.lt (.fld (.tok 0) 5) (.lit (.i 1))) (.lt (.lit (.i 1048576)) (.fld (.tok 0) 5))) (.lt (.fld (.tok 0) 5) (.len (.fld (.tok 0) 0)))) (.lt (.fld (.tok 0) 4) (.lit (.i 0)))) (.not (.call 0 0 [(.fld (.tok 0) 1)]))) (.leaf [(.lit (.b .false))]) (.loop 4 1 [(.lit (.b .false)), (.lit (.i 0))] (.br (.lt (.tok 2) (.len (.fld (.tok 0) 0))) (.need [(.ok 1 [(.tok 0), (.tok 2)])] (.br (.not (.call 1 0 [(.tok 0), (.tok 2)])) (.leaf [(.lit (.b .false))]) (.need [(.rng .i64 (.add (.tok 2) (.lit (.i 1))))] (.back 4 [(.tok 1), (.add (.tok 2) (.lit (.i 1)))])))) (.need [(.ok 2 [(.tok 0)])] (.br (.not (.call 2 0 [(.tok 0)])) (.leaf [(.lit (.b .false))]) (.loop 12 3 [(.tok 1), (.lit (.i 0))] (.br (.lt (.tok 4) (.len (.fld (.tok 0) 2))) (.need [(.le (.lit (.i 0)) (.tok 4)), (.lt (.tok 4) (.len (.fld (.tok 0) 2)))] (.need [(.ok 3 [(.tok 0), (.get (.fld (.tok 0) 2) (.tok 4))])] (.br (.not (.call 3 0 [(.tok 0), (.get (.fld (.tok 0) 2) (.tok 4))])) (.leaf [(.lit (.b .false))]) (.need [(.rng .i64 (.add (.tok 4) (.lit (.i 1))))] (.back 12 [(.tok 3), (.add (.tok 4) (.lit (.i 1)))]))))) (.loop 18 5 [(.tok 3), (.lit (.i 0))] (.br (.lt (.tok 6) (.len (.fld (.tok 0) 3))) (.need [(.le (.lit (.i 0)) (.tok 6)), (.lt (.tok 6) (.len (.fld (.tok 0) 3)))] (.need [(.imp (.not (.or (.lt (.fld (.get (.fld (.tok 0) 3) (.tok 6)) 0) (.lit (.i 1))) (.lt (.fld (.tok 0) 4) (.fld (.get (.fld (.tok 0) 3) (.tok 6)) 0)))) (.ok 4 [(.tok 0), (.fld (.get (.fld (.tok 0) 3) (.tok 6)) 1)])), (.imp (.not (.or (.or (.lt (.fld (.get (.fld (.tok 0) 3) (.tok 6)) 0) (.lit (.i 1))) (.lt (.fld (.tok 0) 4) (.fld (.get (.fld (.tok 0) 3) (.tok 6)) 0))) (.not (.call 4 0 [(.tok 0), (.fld (.get (.fld (.tok 0) 3) (.tok 6)) 1)])))) (.ok 4 [(.tok 0), (.fld (.get (.fld (.tok 0) 3) (.tok 6)) 2)]))] (.br (.or (.or (.or (.lt (.fld (.get (.fld (.tok 0) 3) (.tok 6)) 0) (.lit (.i 1))) (.lt (.fld (.tok 0) 4) (.fld (.get (.fld (.tok 0) 3) (.tok 6)) 0))) (.not (.call 4 0 [(.tok 0), (.fld (.get (.fld (.tok 0) 3) (.tok 6)) 1)]))) (.not (.call 4 0 [(.tok 0), (.fld (.get (.fld (.tok 0) 3) (.tok 6)) 2)]))) (.leaf [(.lit (.b .false))]) (.need [(.rng .i64 (.add (.tok 6) (.lit (.i 1))))] (.back 18 [(.tok 5), (.add (.tok 6) (.lit (.i 1)))]))))) (.leaf [(.lit (.b .true))])))))))))))
set_option maxRecDepth 100000 in
theorem code_cells_Valid (g0 g1 g2 g3 g4 : List D → Option (List D)) : ∀ cd, Try.f26.body = some cd → treeOf Try.prog [(q0d, g0), (q0z, g1), (q0n, g2), (q0f, g3), (q06, g4)] ann_cells_Valid q0k Try.f26 cd = q1p := by
  intro cd h
  injection h with h
  subst h
  kernel_rfl
theorem fok_cells_Valid {g0 g1 g2 g3 g4 : List D → Option (List D)} {g : List D → Option (List D)} (h0 : FOk q0d g0) (h1 : FOk q0z g1) (h2 : FOk q0n g2) (h3 : FOk q0f g3) (h4 : FOk q06 g4) (h : ∀ ds outs, WfA q0k.ars ds → g ds = some outs → q1p.go (tblS [(q0d, g0), (q0z, g1), (q0n, g2), (q0f, g3), (q06, g4)]) (fun o => o = outs) ds fun _ _ => False) : FOk q0k g :=
  q0l ann_cells_Valid Try.f26 _ (.cons h0 (.cons h1 (.cons h2 (.cons h3 (.cons h4 .nil))))) rfl rfl enter_cells_Valid (by decide) fun ds outs hw hg => by rw [code_cells_Valid g0 g1 g2 g3 g4 _ rfl]; exact h ds outs hw hg

def q0m : Ct := ⟨19, [.val (.st 27), .val (.st 34)], [(.bool, false)], [], none⟩
theorem enter_gc_Valid (args : Array Value) (w : World) : (callFunc q0m.f args).run Try.prog w = .ok (.enter q0m.f args) w := by kernel_rfl
def ann_gc_Valid : Ann := ⟨[0, 1, 2, 3, 4, 6, 8, 10, 13, 15, 16, 17, 18, 24, 27, 28, 29, 30, 41, 44, 45, 46, 47, 58], [(4, ⟨[(4, .bool, false), (17, .int .i64, false)], [], [18, 19, 20, 6, 21, 22, 23, 24, 25], []⟩),
  (10, ⟨[(4, .bool, false), (29, .int .i64, false)], [], [30, 31, 32, 8, 33, 34, 35, 36, 37, 38, 39, 40, 41, 42], []⟩),
  (16, ⟨[(4, .bool, false), (46, .int .i64, false)], [], [47, 48, 49, 10, 50, 51, 52, 53, 54, 55, 56, 57, 58, 59], []⟩)]⟩
def q29 : Tree := (.need [(.ok 0 [(.tok 0)])] (.br (.not (.call 0 0 [(.tok 0)])) (.leaf [(.lit (.b .false))]) (.loop 4 2 [(.lit (.b .false)), (.lit (.i 0))] (.br (.lt (.tok 3) (.len (.fld (.tok 1) 0))) (.need [(.le (.lit (.i 0)) (.tok 3)), (.lt (.tok 3) (.len (.fld (.tok 1) 0)))] (.need [(.ok 1 [(.tok 0), (.get (.fld (.tok 1) 0) (.tok 3))])] (.br (.not (.call 1 0 [(.tok 0), (.get (.fld (.tok 1) 0) (.tok 3))])) (.leaf [(.lit (.b .false))]) (.need [(.rng .i64 (.add (.tok 3) (.lit (.i 1))))] (.back 4 [(.tok 2), (.add (.tok 3) (.lit (.i 1)))]))))) (.loop 10 4 [(.tok 2), (.lit (.i 0))] (.br (.lt (.tok 5) (.len (.fld (.tok 1) 1))) (.need [(.le (.lit (.i 0)) (.tok 5)), (.lt (.tok 5) (.len (.fld (.tok 1) 1)))] (.br (.or (.lt (.get (.fld (.tok 1) 1) (.tok 5)) (.lit (.i 0))) (.lt (.len (.fld (.tok 0) 0)) (.get (.fld (.tok 1) 1) (.tok 5)))) (.leaf [(.lit (.b .false))]) (.need [(.rng .i64 (.add (.tok 5) (.lit (.i 1))))] (.back 10 [(.tok 4), (.add (.tok 5) (.lit (.i 1)))])))) (.loop 16 6 [(.tok 4), (.lit (.i 0))] (.br (.lt (.tok 7) (.len (.fld (.tok 1) 2))) (.need [(.le (.lit (.i 0)) (.tok 7)), (.lt (.tok 7) (.len (.fld (.tok 1) 2)))] (.br (.or (.lt (.get (.fld (.tok 1) 2) (.tok 7)) (.lit (.i 0))) (.lt (.len (.fld (.tok 0) 2)) (.get (.fld (.tok 1) 2) (.tok 7)))) (.leaf [(.lit (.b .false))]) (.need [(.rng .i64 (.add (.tok 7) (.lit (.i 1))))] (.back 16 [(.tok 6), (.add (.tok 7) (.lit (.i 1)))])))) (.leaf [(.lit (.b .true))])))))))))
set_option maxRecDepth 100000 in
theorem code_gc_Valid (g0 g1 : List D → Option (List D)) : ∀ cd, Try.f19.body = some cd → treeOf Try.prog [(q0k, g0), (q06, g1)] ann_gc_Valid q0m Try.f19 cd = q29 := by
  intro cd h
  injection h with h
  subst h
  kernel_rfl
theorem fok_gc_Valid {g0 g1 : List D → Option (List D)} {g : List D → Option (List D)} (h0 : FOk q0k g0) (h1 : FOk q06 g1) (h : ∀ ds outs, WfA q0m.ars ds → g ds = some outs → q29.go (tblS [(q0k, g0), (q06, g1)]) (fun o => o = outs) ds fun _ _ => False) : FOk q0m g :=
  q0l ann_gc_Valid Try.f19 _ (.cons h0 (.cons h1 .nil)) rfl rfl enter_gc_Valid (by decide) fun ds outs hw hg => by rw [code_gc_Valid g0 g1 _ rfl]; exact h ds outs hw hg

def q09 : Ct := ⟨32, [.val (.row 94), .val (.int .i64)], [(.bool, false)], [], none⟩
theorem enter_gc_marks_has (args : Array Value) (w : World) : (callFunc q09.f args).run Try.prog w = .ok (.enter q09.f args) w := by kernel_rfl
def ann_gc_marks_has : Ann := ⟨[0, 1, 4], []⟩
def q1m : Tree := (.need [(.rng .i64 (.fn 8 [(.tok 1), (.lit (.i 6))])), (.le (.lit (.i 0)) (.fn 8 [(.tok 1), (.lit (.i 6))])), (.lt (.fn 8 [(.tok 1), (.lit (.i 6))]) (.len (.tok 0))), (.le (.lit (.i 0)) (.tok 1)), (.lit (.b .true)), (.le (.lit (.i 0)) (.fn 13 [(.tok 1), (.lit (.i 63))])), (.le (.fn 13 [(.tok 1), (.lit (.i 63))]) (.lit (.i 64))), (.rng .u64 (.fn 8 [(.get (.tok 0) (.fn 8 [(.tok 1), (.lit (.i 6))])), (.fn 13 [(.tok 1), (.lit (.i 63))])])), (.le (.lit (.i 0)) (.fn 8 [(.get (.tok 0) (.fn 8 [(.tok 1), (.lit (.i 6))])), (.fn 13 [(.tok 1), (.lit (.i 63))])])), (.lit (.b .true))] (.leaf [(.eq (.fn 13 [(.fn 8 [(.get (.tok 0) (.fn 8 [(.tok 1), (.lit (.i 6))])), (.fn 13 [(.tok 1), (.lit (.i 63))])]), (.lit (.i 1))]) (.lit (.i 1)))]))
set_option maxRecDepth 100000 in
theorem code_gc_marks_has : ∀ cd, Try.f32.body = some cd → treeOf Try.prog [] ann_gc_marks_has q09 Try.f32 cd = q1m := by
  intro cd h
  injection h with h
  subst h
  kernel_rfl
theorem fok_gc_marks_has {g : List D → Option (List D)}  (h : ∀ ds outs, WfA q09.ars ds → g ds = some outs → q1m.go (tblS []) (fun o => o = outs) ds fun _ _ => False) : FOk q09 g :=
  q0l ann_gc_marks_has Try.f32 _ .nil rfl rfl enter_gc_marks_has (by decide) fun ds outs hw hg => by rw [code_gc_marks_has  _ rfl]; exact h ds outs hw hg

def q0e : Ct := ⟨58, [.val (.int .i64), .ref (.row 94), .ref (.row 31), .rref (.st 27), .rref (.map 3 23)], [], [], none⟩
theorem enter_gc_mark_1 (args : Array Value) (w : World) : (callFunc q0e.f args).run Try.prog w = .ok (.enter q0e.f args) w := by kernel_rfl
def ann_gc_mark_1 : Ann := ⟨[0, 1, 2, 3, 4, 9], []⟩
def q1v : Tree := (.need [(.ok 0 [(.tok 1), (.tok 0)])] (.br (.not (.call 0 0 [(.tok 1), (.tok 0)])) (.need [(.rng .i64 (.fn 8 [(.tok 0), (.lit (.i 6))])), (.le (.lit (.i 0)) (.fn 8 [(.tok 0), (.lit (.i 6))])), (.lt (.fn 8 [(.tok 0), (.lit (.i 6))]) (.len (.tok 1))), (.le (.lit (.i 0)) (.tok 0)), (.lit (.b .true)), (.le (.lit (.i 0)) (.fn 13 [(.tok 0), (.lit (.i 63))])), (.le (.fn 13 [(.tok 0), (.lit (.i 63))]) (.lit (.i 64))), (.le (.lit (.i 0)) (.get (.tok 1) (.fn 8 [(.tok 0), (.lit (.i 6))]))), (.le (.lit (.i 0)) (.fn 15 [(.lit (.i 1)), (.fn 13 [(.tok 0), (.lit (.i 63))])])), (.le (.lit (.i 0)) (.fn 8 [(.tok 0), (.lit (.i 6))])), (.lt (.fn 8 [(.tok 0), (.lit (.i 6))]) (.len (.tok 1)))] (.need [(.le (.lit (.i 0)) (.tok 0)), (.lt (.tok 0) (.len (.fld (.tok 3) 0))), (.le (.add (.len (.tok 2)) (.lit (.i 1))) (.lit (.i 8796093021952))), (.le (.add (.len (.app (.tok 2) (.row [(.get (.fld (.tok 3) 0) (.tok 0))]))) (.len (.fn 0 [(.tok 4), (.tok 0), (.lit (.r []))]))) (.lit (.i 8796093021952)))] (.leaf [(.put (.tok 1) (.fn 8 [(.tok 0), (.lit (.i 6))]) (.fn 14 [(.get (.tok 1) (.fn 8 [(.tok 0), (.lit (.i 6))])), (.fn 15 [(.lit (.i 1)), (.fn 13 [(.tok 0), (.lit (.i 63))])])])), (.app (.app (.tok 2) (.row [(.get (.fld (.tok 3) 0) (.tok 0))])) (.fn 0 [(.tok 4), (.tok 0), (.lit (.r []))]))]))) (.leaf [(.tok 1), (.tok 2)])))
set_option maxRecDepth 100000 in
theorem code_gc_mark_1 (g0 : List D → Option (List D)) : ∀ cd, Try.f58.body = some cd → treeOf Try.prog [(q09, g0)] ann_gc_mark_1 q0e Try.f58 cd = q1v := by
  intro cd h
  injection h with h
  subst h
  kernel_rfl
theorem fok_gc_mark_1 {g0 : List D → Option (List D)} {g : List D → Option (List D)} (h0 : FOk q09 g0) (h : ∀ ds outs, WfA q0e.ars ds → g ds = some outs → q1v.go (tblS [(q09, g0)]) (fun o => o = outs) ds fun _ _ => False) : FOk q0e g :=
  q0l ann_gc_mark_1 Try.f58 _ (.cons h0 .nil) rfl rfl enter_gc_mark_1 (by decide) fun ds outs hw hg => by rw [code_gc_mark_1 g0 _ rfl]; exact h ds outs hw hg

def q11 : Ct := ⟨31, [.val (.st 27), .val (.st 34)], [(.row 94, true)], [], none⟩
theorem enter_gc_mark (args : Array Value) (w : World) : (callFunc q11.f args).run Try.prog w = .ok (.enter q11.f args) w := by kernel_rfl
def ann_gc_mark : Ann := ⟨[0, 1, 2, 3, 4, 5, 6, 8, 9, 10, 12, 13, 14, 15, 16, 25, 26, 27, 28, 49, 50, 51, 52, 65, 80, 81, 83, 96, 99, 100, 101], [(4, ⟨[(27, .int .i64, false)], [], [28, 29, 30, 8, 31, 32, 33, 34, 35, 36, 37, 38, 39, 40, 41, 42], []⟩),
  (12, ⟨[(51, .int .i64, false)], [9], [52, 53, 54, 12, 55, 56, 57, 58, 59, 60, 61, 62], []⟩),
  (16, ⟨[], [5, 9], [63, 64, 65, 66, 67, 68, 69, 70, 71, 13, 72, 73, 74, 75, 76, 77, 78, 14, 15, 79, 80, 82, 81, 84, 83, 85, 86, 87, 88, 89, 90, 91, 92, 93, 94, 95, 97, 96, 98, 99, 100, 101, 102, 16, 103, 104, 105, 106, 107, 108], []⟩),
  (27, ⟨[(100, .int .i64, false)], [5, 9], [101, 102, 16, 103, 104, 105, 106, 107, 108], []⟩)]⟩
def q2n : Tree := (.need [(.rng .i64 (.fn 8 [(.len (.fld (.tok 0) 0)), (.lit (.i 6))])), (.rng .i64 (.add (.fn 8 [(.len (.fld (.tok 0) 0)), (.lit (.i 6))]) (.lit (.i 1)))), (.le (.lit (.i 0)) (.add (.fn 8 [(.len (.fld (.tok 0) 0)), (.lit (.i 6))]) (.lit (.i 1)))), (.le (.add (.fn 8 [(.len (.fld (.tok 0) 0)), (.lit (.i 6))]) (.lit (.i 1))) (.lit (.i 16777216)))] (.need [(.eq (.len (.fld (.tok 0) 2)) (.len (.fld (.tok 0) 2)))] (.need [(.le (.add (.lit (.i 0)) (.len (.fld (.tok 1) 0))) (.lit (.i 8796093021952)))] (.loop 12 2 [(.lit (.i 0)), (.app (.lit (.r [])) (.fld (.tok 1) 0))] (.br (.lt (.tok 2) (.len (.fld (.tok 0) 3))) (.need [(.le (.lit (.i 0)) (.tok 2)), (.lt (.tok 2) (.len (.fld (.tok 0) 3)))] (.need [(.le (.add (.len (.tok 3)) (.lit (.i 2))) (.lit (.i 8796093021952)))] (.need [(.rng .i64 (.add (.tok 2) (.lit (.i 1))))] (.back 12 [(.add (.tok 2) (.lit (.i 1))), (.app (.tok 3) (.row [(.fld (.get (.fld (.tok 0) 3) (.tok 2)) 1), (.fld (.get (.fld (.tok 0) 3) (.tok 2)) 2)]))])))) (.loop 16 4 [(.rep (.add (.fn 8 [(.len (.fld (.tok 0) 0)), (.lit (.i 6))]) (.lit (.i 1))) (.lit (.i 0))), (.tok 3)] (.br (.lt (.lit (.i 0)) (.len (.tok 5))) (.need [(.rng .i64 (.sub (.len (.tok 5)) (.lit (.i 1)))), (.le (.lit (.i 0)) (.sub (.len (.tok 5)) (.lit (.i 1)))), (.lt (.sub (.len (.tok 5)) (.lit (.i 1))) (.len (.tok 5)))] (.need [(.rng .i64 (.sub (.len (.tok 5)) (.lit (.i 1)))), (.le (.lit (.i 0)) (.sub (.len (.tok 5)) (.lit (.i 1)))), (.le (.sub (.len (.tok 5)) (.lit (.i 1))) (.len (.tok 5)))] (.br (.eq (.fld (.get (.tok 5) (.sub (.len (.tok 5)) (.lit (.i 1)))) 0) (.lit (.i 0))) (.need [(.rng .i64 (.lit (.i 1)))] (.loop 27 6 [(.lit (.i 0)), (.tok 4), (.cut (.tok 5) (.lit (.i 0)) (.sub (.len (.tok 5)) (.lit (.i 1))))] (.br (.lt (.tok 6) (.lit (.i 1))) (.need [(.rng .i64 (.add (.fld (.get (.tok 5) (.sub (.len (.tok 5)) (.lit (.i 1)))) 1) (.tok 6))), (.ok 0 [(.add (.fld (.get (.tok 5) (.sub (.len (.tok 5)) (.lit (.i 1)))) 1) (.tok 6)), (.tok 7), (.tok 8), (.tok 0), (.fn 16 [(.fld (.tok 0) 2)])])] (.need [(.rng .i64 (.add (.tok 6) (.lit (.i 1))))] (.back 27 [(.add (.tok 6) (.lit (.i 1))), (.call 0 0 [(.add (.fld (.get (.tok 5) (.sub (.len (.tok 5)) (.lit (.i 1)))) 1) (.tok 6)), (.tok 7), (.tok 8), (.tok 0), (.fn 16 [(.fld (.tok 0) 2)])]), (.call 0 1 [(.add (.fld (.get (.tok 5) (.sub (.len (.tok 5)) (.lit (.i 1)))) 1) (.tok 6)), (.tok 7), (.tok 8), (.tok 0), (.fn 16 [(.fld (.tok 0) 2)])])]))) (.back 16 [(.tok 7), (.tok 8)])))) (.br (.eq (.fld (.get (.tok 5) (.sub (.len (.tok 5)) (.lit (.i 1)))) 0) (.lit (.i 3))) (.need [(.le (.lit (.i 0)) (.fld (.get (.fld (.tok 0) 0) (.fld (.get (.tok 5) (.sub (.len (.tok 5)) (.lit (.i 1)))) 1)) 1)), (.lt (.fld (.get (.fld (.tok 0) 0) (.fld (.get (.tok 5) (.sub (.len (.tok 5)) (.lit (.i 1)))) 1)) 1) (.len (.fld (.tok 0) 1))), (.le (.lit (.i 0)) (.fld (.get (.tok 5) (.sub (.len (.tok 5)) (.lit (.i 1)))) 1)), (.lt (.fld (.get (.tok 5) (.sub (.len (.tok 5)) (.lit (.i 1)))) 1) (.len (.fld (.tok 0) 0)))] (.need [(.rng .i64 (.add (.fld (.get (.fld (.tok 0) 1) (.fld (.get (.fld (.tok 0) 0) (.fld (.get (.tok 5) (.sub (.len (.tok 5)) (.lit (.i 1)))) 1)) 1)) 1) (.lit (.i 1))))] (.loop 27 6 [(.lit (.i 0)), (.tok 4), (.cut (.tok 5) (.lit (.i 0)) (.sub (.len (.tok 5)) (.lit (.i 1))))] (.br (.lt (.tok 6) (.add (.fld (.get (.fld (.tok 0) 1) (.fld (.get (.fld (.tok 0) 0) (.fld (.get (.tok 5) (.sub (.len (.tok 5)) (.lit (.i 1)))) 1)) 1)) 1) (.lit (.i 1)))) (.need [(.rng .i64 (.add (.fld (.get (.tok 5) (.sub (.len (.tok 5)) (.lit (.i 1)))) 1) (.tok 6))), (.ok 0 [(.add (.fld (.get (.tok 5) (.sub (.len (.tok 5)) (.lit (.i 1)))) 1) (.tok 6)), (.tok 7), (.tok 8), (.tok 0), (.fn 16 [(.fld (.tok 0) 2)])])] (.need [(.rng .i64 (.add (.tok 6) (.lit (.i 1))))] (.back 27 [(.add (.tok 6) (.lit (.i 1))), (.call 0 0 [(.add (.fld (.get (.tok 5) (.sub (.len (.tok 5)) (.lit (.i 1)))) 1) (.tok 6)), (.tok 7), (.tok 8), (.tok 0), (.fn 16 [(.fld (.tok 0) 2)])]), (.call 0 1 [(.add (.fld (.get (.tok 5) (.sub (.len (.tok 5)) (.lit (.i 1)))) 1) (.tok 6)), (.tok 7), (.tok 8), (.tok 0), (.fn 16 [(.fld (.tok 0) 2)])])]))) (.back 16 [(.tok 7), (.tok 8)]))))) (.br (.eq (.fld (.get (.tok 5) (.sub (.len (.tok 5)) (.lit (.i 1)))) 0) (.lit (.i 5))) (.need [(.rng .i64 (.lit (.i 3)))] (.loop 27 6 [(.lit (.i 0)), (.tok 4), (.cut (.tok 5) (.lit (.i 0)) (.sub (.len (.tok 5)) (.lit (.i 1))))] (.br (.lt (.tok 6) (.lit (.i 3))) (.need [(.rng .i64 (.add (.fld (.get (.tok 5) (.sub (.len (.tok 5)) (.lit (.i 1)))) 1) (.tok 6))), (.ok 0 [(.add (.fld (.get (.tok 5) (.sub (.len (.tok 5)) (.lit (.i 1)))) 1) (.tok 6)), (.tok 7), (.tok 8), (.tok 0), (.fn 16 [(.fld (.tok 0) 2)])])] (.need [(.rng .i64 (.add (.tok 6) (.lit (.i 1))))] (.back 27 [(.add (.tok 6) (.lit (.i 1))), (.call 0 0 [(.add (.fld (.get (.tok 5) (.sub (.len (.tok 5)) (.lit (.i 1)))) 1) (.tok 6)), (.tok 7), (.tok 8), (.tok 0), (.fn 16 [(.fld (.tok 0) 2)])]), (.call 0 1 [(.add (.fld (.get (.tok 5) (.sub (.len (.tok 5)) (.lit (.i 1)))) 1) (.tok 6)), (.tok 7), (.tok 8), (.tok 0), (.fn 16 [(.fld (.tok 0) 2)])])]))) (.back 16 [(.tok 7), (.tok 8)])))) (.back 16 [(.tok 4), (.cut (.tok 5) (.lit (.i 0)) (.sub (.len (.tok 5)) (.lit (.i 1))))])))))) (.leaf [(.tok 4)]))))))))
set_option maxRecDepth 100000 in
theorem code_gc_mark (g0 : List D → Option (List D)) : treeH Try.prog [(q0e, g0)] ann_gc_mark q11 Try.f31 codeA codeB doOlds = q2n := by kernel_rfl
theorem fok_gc_mark {g0 : List D → Option (List D)} {g : List D → Option (List D)} (h0 : FOk q0e g0) (h : ∀ ds outs, WfA q11.ars ds → g ds = some outs → q2n.go (tblS [(q0e, g0)]) (fun o => o = outs) ds fun _ _ => False) : FOk q11 g :=
  fok_mark ann_gc_mark (.cons h0 .nil) rfl enter_gc_mark (by decide) fun ds outs hw hg => by rw [code_gc_mark g0]; exact h ds outs hw hg

def q0y : Ct := ⟨33, [.val (.st 30), .rref (.row 3)], [(.st 30, false)], [], none⟩
theorem enter_gc_Collect_1 (args : Array Value) (w : World) : (callFunc q0y.f args).run Try.prog w = .ok (.enter q0y.f args) w := by kernel_rfl
def ann_gc_Collect_1 : Ann := ⟨[0, 1, 2, 3, 16], []⟩
def q1l : Tree := (.br (.or (.or (.eq (.fld (.tok 0) 0) (.lit (.i 0))) (.eq (.fld (.tok 0) 0) (.lit (.i 3)))) (.eq (.fld (.tok 0) 0) (.lit (.i 5)))) (.need [(.le (.lit (.i 0)) (.fld (.tok 0) 1)), (.lt (.fld (.tok 0) 1) (.len (.tok 1)))] (.leaf [(.set (.tok 0) 1 (.get (.tok 1) (.fld (.tok 0) 1)))])) (.leaf [(.tok 0)]))
set_option maxRecDepth 100000 in
theorem code_gc_Collect_1 : ∀ cd, Try.f33.body = some cd → treeOf Try.prog [] ann_gc_Collect_1 q0y Try.f33 cd = q1l := by
  intro cd h
  injection h with h
  subst h
  kernel_rfl
theorem fok_gc_Collect_1 {g : List D → Option (List D)}  (h : ∀ ds outs, WfA q0y.ars ds → g ds = some outs → q1l.go (tblS []) (fun o => o = outs) ds fun _ _ => False) : FOk q0y g :=
  q0l ann_gc_Collect_1 Try.f33 _ .nil rfl rfl enter_gc_Collect_1 (by decide) fun ds outs hw hg => by rw [code_gc_Collect_1  _ rfl]; exact h ds outs hw hg

def q12 : Ct := ⟨17, [.val (.st 27), .val (.st 34)], [(.int .i64, false), (.int .i64, false)], [], none⟩
theorem enter_gc_Live (args : Array Value) (w : World) : (callFunc q12.f args).run Try.prog w = .ok (.enter q12.f args) w := by kernel_rfl
def ann_gc_Live : Ann := ⟨[0, 1, 2, 3, 4, 5, 6, 7, 11, 17, 18, 19, 23], [(5, ⟨[(4, .int .i64, false), (18, .int .i64, false)], [], [19, 20, 7, 21, 22, 23, 24, 25, 26], []⟩)]⟩
def q2o : Tree := (.need [(.ok 0 [(.tok 0), (.tok 1)])] (.br (.not (.call 0 0 [(.tok 0), (.tok 1)])) (.leaf [(.lit (.i 0)), (.lit (.i 1))]) (.need [(.ok 1 [(.tok 0), (.tok 1)])] (.loop 5 2 [(.lit (.i 0)), (.lit (.i 0))] (.br (.lt (.tok 3) (.len (.fld (.tok 0) 0))) (.need [(.ok 2 [(.call 1 0 [(.tok 0), (.tok 1)]), (.tok 3)])] (.br (.call 2 0 [(.call 1 0 [(.tok 0), (.tok 1)]), (.tok 3)]) (.need [(.rng .i64 (.add (.tok 2) (.lit (.i 1))))] (.need [(.rng .i64 (.add (.tok 3) (.lit (.i 1))))] (.back 5 [(.add (.tok 2) (.lit (.i 1))), (.add (.tok 3) (.lit (.i 1)))]))) (.need [(.rng .i64 (.add (.tok 3) (.lit (.i 1))))] (.back 5 [(.tok 2), (.add (.tok 3) (.lit (.i 1)))])))) (.leaf [(.tok 2), (.lit (.i 0))]))))))
set_option maxRecDepth 100000 in
theorem code_gc_Live (g0 g1 g2 : List D → Option (List D)) : ∀ cd, Try.f17.body = some cd → treeOf Try.prog [(q0m, g0), (q11, g1), (q09, g2)] ann_gc_Live q12 Try.f17 cd = q2o := by
  intro cd h
  injection h with h
  subst h
  kernel_rfl
theorem fok_gc_Live {g0 g1 g2 : List D → Option (List D)} {g : List D → Option (List D)} (h0 : FOk q0m g0) (h1 : FOk q11 g1) (h2 : FOk q09 g2) (h : ∀ ds outs, WfA q12.ars ds → g ds = some outs → q2o.go (tblS [(q0m, g0), (q11, g1), (q09, g2)]) (fun o => o = outs) ds fun _ _ => False) : FOk q12 g :=
  q0l ann_gc_Live Try.f17 _ (.cons h0 (.cons h1 (.cons h2 .nil))) rfl rfl enter_gc_Live (by decide) fun ds outs hw hg => by rw [code_gc_Live g0 g1 g2 _ rfl]; exact h ds outs hw hg

def q0u : Ct := ⟨12, [.ref (.st 27), .ref (.st 34)], [(.int .i64, false)], [], none⟩
theorem enter_gc_Collect (args : Array Value) (w : World) : (callFunc q0u.f args).run Try.prog w = .ok (.enter q0u.f args) w := by kernel_rfl
def ann_gc_Collect : Ann := ⟨[0, 1, 4, 5, 6, 7, 8, 9, 10, 11, 12, 13, 14, 15, 16, 18, 19, 21, 23, 25, 41, 60, 61, 62, 74, 87, 88, 89, 90, 96, 114, 115, 116, 117, 124, 148, 149, 150, 151, 185, 186, 187, 188, 203, 204, 205, 206, 222, 223, 224, 225], [(6, ⟨[(61, .int .i64, false)], [6], [62, 63, 7, 64, 65, 66, 67, 68, 69, 70, 71, 72, 73, 74, 75, 76, 77, 78, 79, 80, 81, 82], []⟩),
  (15, ⟨[(9, .row 31, false), (89, .int .i64, false)], [], [90, 91, 92, 93, 11, 10, 94, 95, 96, 97, 98, 99, 100, 101, 102, 103], []⟩),
  (23, ⟨[(13, .row 37, false), (116, .int .i64, false), (12, .row 3, false)], [], [117, 118, 119, 120, 15, 14, 121, 122, 123, 124, 125, 126, 127, 128, 129, 130, 131, 132, 133, 134, 135, 136, 137, 138, 139, 140, 141, 142, 143, 144, 110, 230], []⟩),
  (31, ⟨[(16, .row 63, false), (150, .int .i64, false)], [], [151, 152, 153, 18, 154, 155, 156, 157, 158, 159, 160, 161, 162, 163, 164, 165, 166, 167, 168], []⟩),
  (38, ⟨[(187, .int .i64, false)], [19], [188, 189, 190, 21, 191, 192, 193, 194, 195, 196, 197, 198, 199], []⟩),
  (43, ⟨[(205, .int .i64, false)], [19], [206, 207, 208, 23, 209, 210, 211, 212, 213, 214, 215, 216, 217, 218], []⟩),
  (48, ⟨[(224, .int .i64, false)], [19], [225, 226, 227, 25, 228, 229, 230, 231, 232, 233, 234, 235, 236, 237], []⟩)]⟩
def q1s : Tree := (.need [(.ok 1 [(.tok 0), (.tok 1)])] (.br (.not (.call 1 0 [(.tok 0), (.tok 1)])) (.leaf [(.lit (.i 1)), (.tok 0), (.tok 1)]) (.need [(.ok 2 [(.tok 0), (.tok 1)])] (.need [(.rng .i64 (.add (.len (.fld (.tok 0) 0)) (.lit (.i 1)))), (.le (.lit (.i 0)) (.add (.len (.fld (.tok 0) 0)) (.lit (.i 1)))), (.le (.add (.len (.fld (.tok 0) 0)) (.lit (.i 1))) (.lit (.i 16777216)))] (.loop 6 2 [(.lit (.i 0)), (.rep (.add (.len (.fld (.tok 0) 0)) (.lit (.i 1))) (.lit (.i 0)))] (.br (.lt (.tok 2) (.len (.fld (.tok 0) 0))) (.need [(.rng .i64 (.add (.tok 2) (.lit (.i 1)))), (.le (.lit (.i 0)) (.tok 2)), (.lt (.tok 2) (.len (.tok 3))), (.le (.lit (.i 0)) (.add (.tok 2) (.lit (.i 1)))), (.lt (.add (.tok 2) (.lit (.i 1))) (.len (.tok 3)))] (.need [(.ok 3 [(.call 2 0 [(.tok 0), (.tok 1)]), (.tok 2)])] (.br (.call 3 0 [(.call 2 0 [(.tok 0), (.tok 1)]), (.tok 2)]) (.need [(.rng .i64 (.add (.tok 2) (.lit (.i 1)))), (.le (.lit (.i 0)) (.add (.tok 2) (.lit (.i 1)))), (.lt (.add (.tok 2) (.lit (.i 1))) (.len (.put (.tok 3) (.add (.tok 2) (.lit (.i 1))) (.get (.tok 3) (.tok 2))))), (.rng .i64 (.add (.get (.put (.tok 3) (.add (.tok 2) (.lit (.i 1))) (.get (.tok 3) (.tok 2))) (.add (.tok 2) (.lit (.i 1)))) (.lit (.i 1)))), (.le (.lit (.i 0)) (.add (.tok 2) (.lit (.i 1)))), (.lt (.add (.tok 2) (.lit (.i 1))) (.len (.put (.tok 3) (.add (.tok 2) (.lit (.i 1))) (.get (.tok 3) (.tok 2)))))] (.need [(.rng .i64 (.add (.tok 2) (.lit (.i 1))))] (.back 6 [(.add (.tok 2) (.lit (.i 1))), (.put (.put (.tok 3) (.add (.tok 2) (.lit (.i 1))) (.get (.tok 3) (.tok 2))) (.add (.tok 2) (.lit (.i 1))) (.add (.get (.put (.tok 3) (.add (.tok 2) (.lit (.i 1))) (.get (.tok 3) (.tok 2))) (.add (.tok 2) (.lit (.i 1)))) (.lit (.i 1))))]))) (.need [(.rng .i64 (.add (.tok 2) (.lit (.i 1))))] (.back 6 [(.add (.tok 2) (.lit (.i 1))), (.put (.tok 3) (.add (.tok 2) (.lit (.i 1))) (.get (.tok 3) (.tok 2)))]))))) (.loop 15 4 [(.lit (.r [])), (.lit (.i 0))] (.br (.lt (.tok 5) (.len (.fld (.tok 0) 0))) (.need [(.le (.lit (.i 0)) (.tok 5)), (.lt (.tok 5) (.len (.fld (.tok 0) 0)))] (.need [(.ok 3 [(.call 2 0 [(.tok 0), (.tok 1)]), (.tok 5)])] (.br (.call 3 0 [(.call 2 0 [(.tok 0), (.tok 1)]), (.tok 5)]) (.need [(.ok 0 [(.get (.fld (.tok 0) 0) (.tok 5)), (.tok 3)]), (.le (.add (.len (.tok 4)) (.lit (.i 1))) (.lit (.i 8796093021952)))] (.need [(.rng .i64 (.add (.tok 5) (.lit (.i 1))))] (.back 15 [(.app (.tok 4) (.row [(.call 0 0 [(.get (.fld (.tok 0) 0) (.tok 5)), (.tok 3)])])), (.add (.tok 5) (.lit (.i 1)))]))) (.need [(.rng .i64 (.add (.tok 5) (.lit (.i 1))))] (.back 15 [(.tok 4), (.add (.tok 5) (.lit (.i 1)))]))))) (.need [(.rng .i64 (.add (.len (.fld (.tok 0) 2)) (.lit (.i 1)))), (.le (.lit (.i 0)) (.add (.len (.fld (.tok 0) 2)) (.lit (.i 1)))), (.le (.add (.len (.fld (.tok 0) 2)) (.lit (.i 1))) (.lit (.i 16777216)))] (.loop 23 6 [(.lit (.r [])), (.lit (.i 0)), (.rep (.add (.len (.fld (.tok 0) 2)) (.lit (.i 1))) (.lit (.i 0)))] (.br (.lt (.tok 7) (.len (.fld (.tok 0) 2))) (.need [(.le (.lit (.i 0)) (.tok 7)), (.lt (.tok 7) (.len (.fld (.tok 0) 2)))] (.need [(.ok 3 [(.call 2 0 [(.tok 0), (.tok 1)]), (.fld (.get (.fld (.tok 0) 2) (.tok 7)) 0)])] (.br (.call 3 0 [(.call 2 0 [(.tok 0), (.tok 1)]), (.fld (.get (.fld (.tok 0) 2) (.tok 7)) 0)]) (.need [(.le (.add (.len (.tok 6)) (.lit (.i 1))) (.lit (.i 5864062014634))), (.ok 0 [(.fld (.get (.fld (.tok 0) 2) (.tok 7)) 1), (.tok 3)]), (.le (.lit (.i 0)) (.fld (.get (.fld (.tok 0) 2) (.tok 7)) 0)), (.lt (.fld (.get (.fld (.tok 0) 2) (.tok 7)) 0) (.len (.tok 3)))] (.need [(.rng .i64 (.add (.tok 7) (.lit (.i 1)))), (.le (.lit (.i 0)) (.add (.tok 7) (.lit (.i 1)))), (.lt (.add (.tok 7) (.lit (.i 1))) (.len (.tok 8)))] (.need [(.rng .i64 (.add (.tok 7) (.lit (.i 1))))] (.back 23 [(.app (.tok 6) (.row [(.mk [(.get (.tok 3) (.fld (.get (.fld (.tok 0) 2) (.tok 7)) 0)), (.call 0 0 [(.fld (.get (.fld (.tok 0) 2) (.tok 7)) 1), (.tok 3)])])])), (.add (.tok 7) (.lit (.i 1))), (.put (.tok 8) (.add (.tok 7) (.lit (.i 1))) (.len (.app (.tok 6) (.row [(.mk [(.get (.tok 3) (.fld (.get (.fld (.tok 0) 2) (.tok 7)) 0)), (.call 0 0 [(.fld (.get (.fld (.tok 0) 2) (.tok 7)) 1), (.tok 3)])])]))))])))) (.need [(.rng .i64 (.add (.tok 7) (.lit (.i 1)))), (.le (.lit (.i 0)) (.add (.tok 7) (.lit (.i 1)))), (.lt (.add (.tok 7) (.lit (.i 1))) (.len (.tok 8)))] (.need [(.rng .i64 (.add (.tok 7) (.lit (.i 1))))] (.back 23 [(.tok 6), (.add (.tok 7) (.lit (.i 1))), (.put (.tok 8) (.add (.tok 7) (.lit (.i 1))) (.len (.tok 6)))])))))) (.loop 31 9 [(.lit (.r [])), (.lit (.i 0))] (.br (.lt (.tok 10) (.len (.fld (.tok 0) 3))) (.need [(.le (.lit (.i 0)) (.tok 10)), (.lt (.tok 10) (.len (.fld (.tok 0) 3)))] (.need [(.le (.add (.len (.tok 9)) (.lit (.i 1))) (.lit (.i 3518437208780))), (.ok 0 [(.fld (.get (.fld (.tok 0) 3) (.tok 10)) 2), (.tok 3)]), (.ok 0 [(.fld (.get (.fld (.tok 0) 3) (.tok 10)) 1), (.tok 3)])] (.need [(.rng .i64 (.add (.tok 10) (.lit (.i 1))))] (.back 31 [(.app (.tok 9) (.row [(.mk [(.fld (.get (.fld (.tok 0) 3) (.tok 10)) 0), (.call 0 0 [(.fld (.get (.fld (.tok 0) 3) (.tok 10)) 1), (.tok 3)]), (.call 0 0 [(.fld (.get (.fld (.tok 0) 3) (.tok 10)) 2), (.tok 3)])])])), (.add (.tok 10) (.lit (.i 1)))])))) (.loop 38 11 [(.lit (.i 0)), (.lit (.a [(.r []), (.r []), (.r [])]))] (.br (.lt (.tok 11) (.len (.fld (.tok 1) 0))) (.need [(.le (.lit (.i 0)) (.tok 11)), (.lt (.tok 11) (.len (.fld (.tok 1) 0)))] (.need [(.ok 0 [(.get (.fld (.tok 1) 0) (.tok 11)), (.tok 3)]), (.le (.add (.len (.fld (.tok 12) 0)) (.lit (.i 1))) (.lit (.i 8796093021952)))] (.need [(.rng .i64 (.add (.tok 11) (.lit (.i 1))))] (.back 38 [(.add (.tok 11) (.lit (.i 1))), (.set (.tok 12) 0 (.app (.fld (.tok 12) 0) (.row [(.call 0 0 [(.get (.fld (.tok 1) 0) (.tok 11)), (.tok 3)])])))])))) (.loop 43 13 [(.lit (.i 0)), (.tok 12)] (.br (.lt (.tok 13) (.len (.fld (.tok 1) 1))) (.need [(.le (.lit (.i 0)) (.tok 13)), (.lt (.tok 13) (.len (.fld (.tok 1) 1)))] (.need [(.le (.lit (.i 0)) (.get (.fld (.tok 1) 1) (.tok 13))), (.lt (.get (.fld (.tok 1) 1) (.tok 13)) (.len (.tok 3))), (.le (.add (.len (.fld (.tok 14) 1)) (.lit (.i 1))) (.lit (.i 17592186043904)))] (.need [(.rng .i64 (.add (.tok 13) (.lit (.i 1))))] (.back 43 [(.add (.tok 13) (.lit (.i 1))), (.set (.tok 14) 1 (.app (.fld (.tok 14) 1) (.row [(.get (.tok 3) (.get (.fld (.tok 1) 1) (.tok 13)))])))])))) (.loop 48 15 [(.lit (.i 0)), (.tok 14)] (.br (.lt (.tok 15) (.len (.fld (.tok 1) 2))) (.need [(.le (.lit (.i 0)) (.tok 15)), (.lt (.tok 15) (.len (.fld (.tok 1) 2)))] (.need [(.le (.lit (.i 0)) (.get (.fld (.tok 1) 2) (.tok 15))), (.lt (.get (.fld (.tok 1) 2) (.tok 15)) (.len (.tok 8))), (.le (.add (.len (.fld (.tok 16) 2)) (.lit (.i 1))) (.lit (.i 17592186043904)))] (.need [(.rng .i64 (.add (.tok 15) (.lit (.i 1))))] (.back 48 [(.add (.tok 15) (.lit (.i 1))), (.set (.tok 16) 2 (.app (.fld (.tok 16) 2) (.row [(.get (.tok 8) (.get (.fld (.tok 1) 2) (.tok 15)))])))])))) (.leaf [(.lit (.i 0)), (.set (.set (.set (.tok 0) 0 (.tok 4)) 2 (.tok 6)) 3 (.tok 9)), (.tok 16)]))))))))))))))))))))
set_option maxRecDepth 100000 in
theorem code_gc_Collect (g0 g1 g2 g3 : List D → Option (List D)) : ∀ cd, Try.f12.body = some cd → treeOf Try.prog [(q0y, g0), (q0m, g1), (q11, g2), (q09, g3)] ann_gc_Collect q0u Try.f12 cd = q1s := by
  intro cd h
  injection h with h
  subst h
  kernel_rfl
theorem fok_gc_Collect {g0 g1 g2 g3 : List D → Option (List D)} {g : List D → Option (List D)} (h0 : FOk q0y g0) (h1 : FOk q0m g1) (h2 : FOk q11 g2) (h3 : FOk q09 g3) (h : ∀ ds outs, WfA q0u.ars ds → g ds = some outs → q1s.go (tblS [(q0y, g0), (q0m, g1), (q11, g2), (q09, g3)]) (fun o => o = outs) ds fun _ _ => False) : FOk q0u g :=
  q0l ann_gc_Collect Try.f12 _ (.cons h0 (.cons h1 (.cons h2 (.cons h3 .nil)))) rfl rfl enter_gc_Collect (by decide) fun ds outs hw hg => by rw [code_gc_Collect g0 g1 g2 g3 _ rfl]; exact h ds outs hw hg

def q13 : Ct := ⟨21, [.val (.st 27), .val (.st 27)], [(.bool, false)], [], none⟩
theorem enter_ref30_Same (args : Array Value) (w : World) : (callFunc q13.f args).run Try.prog w = .ok (.enter q13.f args) w := by kernel_rfl
def ann_ref30_Same : Ann := ⟨[0, 1, 2, 3, 4, 5, 6, 7, 8, 56, 61, 74, 79, 92, 97, 110, 115, 128], [(4, ⟨[(4, .bool, false), (5, .int .i64, false)], [], [57, 58, 59, 60, 61, 64, 65, 66, 67, 68, 69, 70, 71, 72, 73, 74, 62, 63], []⟩),
  (9, ⟨[(4, .bool, false), (6, .int .i64, false)], [], [75, 76, 77, 78, 79, 82, 83, 84, 85, 86, 87, 88, 89, 90, 91, 92, 80, 81], []⟩),
  (14, ⟨[(4, .bool, false), (7, .int .i64, false)], [], [93, 94, 95, 96, 97, 100, 101, 102, 103, 104, 105, 106, 107, 108, 109, 110, 98, 99], []⟩),
  (19, ⟨[(4, .bool, false), (8, .int .i64, false)], [], [111, 112, 113, 114, 115, 118, 119, 120, 121, 122, 123, 124, 125, 126, 127, 128, 116, 117], []⟩)]⟩
def q2l : Tree := (.br (.or (.or (.or (.or (.or (.not (.eq (.len (.fld (.tok 0) 0)) (.len (.fld (.tok 1) 0)))) (.not (.eq (.len (.fld (.tok 0) 1)) (.len (.fld (.tok 1) 1))))) (.not (.eq (.len (.fld (.tok 0) 2)) (.len (.fld (.tok 1) 2))))) (.not (.eq (.len (.fld (.tok 0) 3)) (.len (.fld (.tok 1) 3))))) (.not (.eq (.fld (.tok 0) 4) (.fld (.tok 1) 4)))) (.not (.eq (.fld (.tok 0) 5) (.fld (.tok 1) 5)))) (.leaf [(.lit (.b .false))]) (.loop 4 2 [(.lit (.b .false)), (.lit (.i 0))] (.br (.lt (.tok 3) (.len (.fld (.tok 0) 0))) (.need [(.le (.lit (.i 0)) (.tok 3)), (.lt (.tok 3) (.len (.fld (.tok 1) 0))), (.le (.lit (.i 0)) (.tok 3)), (.lt (.tok 3) (.len (.fld (.tok 0) 0)))] (.br (.not (.eq (.get (.fld (.tok 0) 0) (.tok 3)) (.get (.fld (.tok 1) 0) (.tok 3)))) (.leaf [(.lit (.b .false))]) (.need [(.rng .i64 (.add (.tok 3) (.lit (.i 1))))] (.back 4 [(.tok 2), (.add (.tok 3) (.lit (.i 1)))])))) (.loop 9 4 [(.tok 2), (.lit (.i 0))] (.br (.lt (.tok 5) (.len (.fld (.tok 0) 1))) (.need [(.le (.lit (.i 0)) (.tok 5)), (.lt (.tok 5) (.len (.fld (.tok 1) 1))), (.le (.lit (.i 0)) (.tok 5)), (.lt (.tok 5) (.len (.fld (.tok 0) 1)))] (.br (.not (.eq (.get (.fld (.tok 0) 1) (.tok 5)) (.get (.fld (.tok 1) 1) (.tok 5)))) (.leaf [(.lit (.b .false))]) (.need [(.rng .i64 (.add (.tok 5) (.lit (.i 1))))] (.back 9 [(.tok 4), (.add (.tok 5) (.lit (.i 1)))])))) (.loop 14 6 [(.tok 4), (.lit (.i 0))] (.br (.lt (.tok 7) (.len (.fld (.tok 0) 2))) (.need [(.le (.lit (.i 0)) (.tok 7)), (.lt (.tok 7) (.len (.fld (.tok 1) 2))), (.le (.lit (.i 0)) (.tok 7)), (.lt (.tok 7) (.len (.fld (.tok 0) 2)))] (.br (.not (.eq (.get (.fld (.tok 0) 2) (.tok 7)) (.get (.fld (.tok 1) 2) (.tok 7)))) (.leaf [(.lit (.b .false))]) (.need [(.rng .i64 (.add (.tok 7) (.lit (.i 1))))] (.back 14 [(.tok 6), (.add (.tok 7) (.lit (.i 1)))])))) (.loop 19 8 [(.tok 6), (.lit (.i 0))] (.br (.lt (.tok 9) (.len (.fld (.tok 0) 3))) (.need [(.le (.lit (.i 0)) (.tok 9)), (.lt (.tok 9) (.len (.fld (.tok 1) 3))), (.le (.lit (.i 0)) (.tok 9)), (.lt (.tok 9) (.len (.fld (.tok 0) 3)))] (.br (.not (.eq (.get (.fld (.tok 0) 3) (.tok 9)) (.get (.fld (.tok 1) 3) (.tok 9)))) (.leaf [(.lit (.b .false))]) (.need [(.rng .i64 (.add (.tok 9) (.lit (.i 1))))] (.back 19 [(.tok 8), (.add (.tok 9) (.lit (.i 1)))])))) (.leaf [(.lit (.b .true))]))))))))))
set_option maxRecDepth 100000 in
theorem code_ref30_Same : ∀ cd, Try.f21.body = some cd → treeOf Try.prog [] ann_ref30_Same q13 Try.f21 cd = q2l := by
  intro cd h
  injection h with h
  subst h
  kernel_rfl
theorem fok_ref30_Same {g : List D → Option (List D)}  (h : ∀ ds outs, WfA q13.ars ds → g ds = some outs → q2l.go (tblS []) (fun o => o = outs) ds fun _ _ => False) : FOk q13 g :=
  q0l ann_ref30_Same Try.f21 _ .nil rfl rfl enter_ref30_Same (by decide) fun ds outs hw hg => by rw [code_ref30_Same  _ rfl]; exact h ds outs hw hg

def q0v : Ct := ⟨22, [.val (.st 34), .val (.st 34)], [(.bool, false)], [], none⟩
theorem enter_ref34_Same (args : Array Value) (w : World) : (callFunc q0v.f args).run Try.prog w = .ok (.enter q0v.f args) w := by kernel_rfl
def ann_ref34_Same : Ann := ⟨[0, 1, 2, 3, 4, 5, 6, 7, 32, 37, 50, 55, 68, 73, 86], [(4, ⟨[(4, .bool, false), (5, .int .i64, false)], [], [33, 34, 35, 36, 37, 40, 41, 42, 43, 44, 45, 46, 47, 48, 49, 50, 38, 39], []⟩),
  (9, ⟨[(4, .bool, false), (6, .int .i64, false)], [], [51, 52, 53, 54, 55, 58, 59, 60, 61, 62, 63, 64, 65, 66, 67, 68, 56, 57], []⟩),
  (14, ⟨[(4, .bool, false), (7, .int .i64, false)], [], [69, 70, 71, 72, 73, 76, 77, 78, 79, 80, 81, 82, 83, 84, 85, 86, 74, 75], []⟩)]⟩
def q1r : Tree := (.br (.or (.or (.not (.eq (.len (.fld (.tok 0) 0)) (.len (.fld (.tok 1) 0)))) (.not (.eq (.len (.fld (.tok 0) 1)) (.len (.fld (.tok 1) 1))))) (.not (.eq (.len (.fld (.tok 0) 2)) (.len (.fld (.tok 1) 2))))) (.leaf [(.lit (.b .false))]) (.loop 4 2 [(.lit (.b .false)), (.lit (.i 0))] (.br (.lt (.tok 3) (.len (.fld (.tok 0) 0))) (.need [(.le (.lit (.i 0)) (.tok 3)), (.lt (.tok 3) (.len (.fld (.tok 1) 0))), (.le (.lit (.i 0)) (.tok 3)), (.lt (.tok 3) (.len (.fld (.tok 0) 0)))] (.br (.not (.eq (.get (.fld (.tok 0) 0) (.tok 3)) (.get (.fld (.tok 1) 0) (.tok 3)))) (.leaf [(.lit (.b .false))]) (.need [(.rng .i64 (.add (.tok 3) (.lit (.i 1))))] (.back 4 [(.tok 2), (.add (.tok 3) (.lit (.i 1)))])))) (.loop 9 4 [(.tok 2), (.lit (.i 0))] (.br (.lt (.tok 5) (.len (.fld (.tok 0) 1))) (.need [(.le (.lit (.i 0)) (.tok 5)), (.lt (.tok 5) (.len (.fld (.tok 1) 1))), (.le (.lit (.i 0)) (.tok 5)), (.lt (.tok 5) (.len (.fld (.tok 0) 1)))] (.br (.not (.eq (.get (.fld (.tok 0) 1) (.tok 5)) (.get (.fld (.tok 1) 1) (.tok 5)))) (.leaf [(.lit (.b .false))]) (.need [(.rng .i64 (.add (.tok 5) (.lit (.i 1))))] (.back 9 [(.tok 4), (.add (.tok 5) (.lit (.i 1)))])))) (.loop 14 6 [(.tok 4), (.lit (.i 0))] (.br (.lt (.tok 7) (.len (.fld (.tok 0) 2))) (.need [(.le (.lit (.i 0)) (.tok 7)), (.lt (.tok 7) (.len (.fld (.tok 1) 2))), (.le (.lit (.i 0)) (.tok 7)), (.lt (.tok 7) (.len (.fld (.tok 0) 2)))] (.br (.not (.eq (.get (.fld (.tok 0) 2) (.tok 7)) (.get (.fld (.tok 1) 2) (.tok 7)))) (.leaf [(.lit (.b .false))]) (.need [(.rng .i64 (.add (.tok 7) (.lit (.i 1))))] (.back 14 [(.tok 6), (.add (.tok 7) (.lit (.i 1)))])))) (.leaf [(.lit (.b .true))]))))))))
set_option maxRecDepth 100000 in
theorem code_ref34_Same : ∀ cd, Try.f22.body = some cd → treeOf Try.prog [] ann_ref34_Same q0v Try.f22 cd = q1r := by
  intro cd h
  injection h with h
  subst h
  kernel_rfl
theorem fok_ref34_Same {g : List D → Option (List D)}  (h : ∀ ds outs, WfA q0v.ars ds → g ds = some outs → q1r.go (tblS []) (fun o => o = outs) ds fun _ _ => False) : FOk q0v g :=
  q0l ann_ref34_Same Try.f22 _ .nil rfl rfl enter_ref34_Same (by decide) fun ds outs hw hg => by rw [code_ref34_Same  _ rfl]; exact h ds outs hw hg

def q14 : Ct := ⟨9, [.own (.st 27), .own (.st 34), .val (.row 31), .val (.row 37), .val (.st 34)], [(.bool, false)], [], none⟩
theorem enter_law34_gives (args : Array Value) (w : World) : (callFunc q14.f args).run Try.prog w = .ok (.enter q14.f args) w := by kernel_rfl
def ann_law34_gives : Ann := ⟨[0, 1, 2, 3, 4, 5, 6, 9, 10, 11, 12, 13, 14], []⟩
def q2c : Tree := (.need [(.ok 0 [(.tok 0), (.tok 1)])] (.need [(.ok 1 [(.tok 0), (.tok 1)])] (.need [(.imp (.and (.and (.eq (.call 0 1 [(.tok 0), (.tok 1)]) (.lit (.i 0))) (.eq (.call 1 0 [(.tok 0), (.tok 1)]) (.lit (.i 0)))) (.eq (.call 0 0 [(.tok 0), (.tok 1)]) (.len (.tok 2)))) (.ok 2 [(.call 1 1 [(.tok 0), (.tok 1)]), (.set (.set (.set (.set (.lit (.a [(.r []), (.r []), (.r []), (.r []), (.i 0), (.i 0)])) 0 (.tok 2)) 1 (.fld (.call 1 1 [(.tok 0), (.tok 1)]) 1)) 2 (.tok 3)) 5 (.lit (.i 10)))])), (.imp (.and (.and (.and (.eq (.call 0 1 [(.tok 0), (.tok 1)]) (.lit (.i 0))) (.eq (.call 1 0 [(.tok 0), (.tok 1)]) (.lit (.i 0)))) (.eq (.call 0 0 [(.tok 0), (.tok 1)]) (.len (.tok 2)))) (.call 2 0 [(.call 1 1 [(.tok 0), (.tok 1)]), (.set (.set (.set (.set (.lit (.a [(.r []), (.r []), (.r []), (.r []), (.i 0), (.i 0)])) 0 (.tok 2)) 1 (.fld (.call 1 1 [(.tok 0), (.tok 1)]) 1)) 2 (.tok 3)) 5 (.lit (.i 10)))])) (.ok 3 [(.call 1 2 [(.tok 0), (.tok 1)]), (.tok 4)]))] (.leaf [(.and (.and (.and (.and (.eq (.call 0 1 [(.tok 0), (.tok 1)]) (.lit (.i 0))) (.eq (.call 1 0 [(.tok 0), (.tok 1)]) (.lit (.i 0)))) (.eq (.call 0 0 [(.tok 0), (.tok 1)]) (.len (.tok 2)))) (.call 2 0 [(.call 1 1 [(.tok 0), (.tok 1)]), (.set (.set (.set (.set (.lit (.a [(.r []), (.r []), (.r []), (.r []), (.i 0), (.i 0)])) 0 (.tok 2)) 1 (.fld (.call 1 1 [(.tok 0), (.tok 1)]) 1)) 2 (.tok 3)) 5 (.lit (.i 10)))])) (.call 3 0 [(.call 1 2 [(.tok 0), (.tok 1)]), (.tok 4)]))]))))
set_option maxRecDepth 100000 in
theorem code_law34_gives (g0 g1 g2 g3 : List D → Option (List D)) : ∀ cd, Try.f9.body = some cd → treeOf Try.prog [(q12, g0), (q0u, g1), (q13, g2), (q0v, g3)] ann_law34_gives q14 Try.f9 cd = q2c := by
  intro cd h
  injection h with h
  subst h
  kernel_rfl
theorem fok_law34_gives {g0 g1 g2 g3 : List D → Option (List D)} {g : List D → Option (List D)} (h0 : FOk q12 g0) (h1 : FOk q0u g1) (h2 : FOk q13 g2) (h3 : FOk q0v g3) (h : ∀ ds outs, WfA q14.ars ds → g ds = some outs → q2c.go (tblS [(q12, g0), (q0u, g1), (q13, g2), (q0v, g3)]) (fun o => o = outs) ds fun _ _ => False) : FOk q14 g :=
  q0l ann_law34_gives Try.f9 _ (.cons h0 (.cons h1 (.cons h2 (.cons h3 .nil)))) rfl rfl enter_law34_gives (by decide) fun ds outs hw hg => by rw [code_law34_gives g0 g1 g2 g3 _ rfl]; exact h ds outs hw hg

def q19 : Ct := ⟨13, [], [(.bool, false)], [], none⟩
theorem enter_law34_awake (args : Array Value) (w : World) : (callFunc q19.f args).run Try.prog w = .ok (.enter q19.f args) w := by kernel_rfl
def ann_law34_awake : Ann := ⟨[0, 1], []⟩
def tree_law34_awake : Tree := (.need [(.ok 0 [(.lit (.i 4)), (.lit (.i 0))]), (.ok 0 [(.lit (.i 1)), (.lit (.i 7))]), (.ok 0 [(.lit (.i 0)), (.lit (.i 3))]), (.ok 0 [(.lit (.i 0)), (.lit (.i 3))])] (.need [(.ok 1 []), (.ok 0 [(.lit (.i 3)), (.lit (.i 1))]), (.ok 0 [(.lit (.i 3)), (.lit (.i 0))]), (.ok 2 [(.call 1 0 []), (.set (.set (.lit (.a [(.r []), (.r []), (.r [])])) 0 (.row [(.call 0 0 [(.lit (.i 3)), (.lit (.i 1))])])) 1 (.row [(.lit (.i 1)), (.lit (.i 5)), (.lit (.i 6))])), (.row [(.call 0 0 [(.lit (.i 4)), (.lit (.i 0))]), (.call 0 0 [(.lit (.i 1)), (.lit (.i 7))]), (.call 0 0 [(.lit (.i 0)), (.lit (.i 3))]), (.call 0 0 [(.lit (.i 0)), (.lit (.i 3))])]), (.lit (.r [])), (.set (.set (.lit (.a [(.r []), (.r []), (.r [])])) 0 (.row [(.call 0 0 [(.lit (.i 3)), (.lit (.i 0))])])) 1 (.row [(.lit (.i 0)), (.lit (.i 4)), (.lit (.i 4))]))])] (.leaf [(.call 2 0 [(.call 1 0 []), (.set (.set (.lit (.a [(.r []), (.r []), (.r [])])) 0 (.row [(.call 0 0 [(.lit (.i 3)), (.lit (.i 1))])])) 1 (.row [(.lit (.i 1)), (.lit (.i 5)), (.lit (.i 6))])), (.row [(.call 0 0 [(.lit (.i 4)), (.lit (.i 0))]), (.call 0 0 [(.lit (.i 1)), (.lit (.i 7))]), (.call 0 0 [(.lit (.i 0)), (.lit (.i 3))]), (.call 0 0 [(.lit (.i 0)), (.lit (.i 3))])]), (.lit (.r [])), (.set (.set (.lit (.a [(.r []), (.r []), (.r [])])) 0 (.row [(.call 0 0 [(.lit (.i 3)), (.lit (.i 0))])])) 1 (.row [(.lit (.i 0)), (.lit (.i 4)), (.lit (.i 4))]))])])))
set_option maxRecDepth 100000 in
theorem code_law34_awake (g0 g1 g2 : List D → Option (List D)) : ∀ cd, Try.f13.body = some cd → treeOf Try.prog [(q0x, g0), (q1b, g1), (q14, g2)] ann_law34_awake q19 Try.f13 cd = tree_law34_awake := by
  intro cd h
  injection h with h
  subst h
  kernel_rfl
theorem fok_law34_awake {g0 g1 g2 : List D → Option (List D)} {g : List D → Option (List D)} (h0 : FOk q0x g0) (h1 : FOk q1b g1) (h2 : FOk q14 g2) (h : ∀ ds outs, WfA q19.ars ds → g ds = some outs → tree_law34_awake.go (tblS [(q0x, g0), (q1b, g1), (q14, g2)]) (fun o => o = outs) ds fun _ _ => False) : FOk q19 g :=
  q0l ann_law34_awake Try.f13 _ (.cons h0 (.cons h1 (.cons h2 .nil))) rfl rfl enter_law34_awake (by decide) fun ds outs hw hg => by rw [code_law34_awake g0 g1 g2 _ rfl]; exact h ds outs hw hg

def q15 : Ct := ⟨16, [.val (.st 34)], [(.st 34, true)], [], none⟩
theorem enter_ref34_Clone (args : Array Value) (w : World) : (callFunc q15.f args).run Try.prog w = .ok (.enter q15.f args) w := by kernel_rfl
def ann_ref34_Clone : Ann := ⟨[0, 1, 2], []⟩
def q2b : Tree := (.need [(.le (.add (.lit (.i 0)) (.len (.fld (.tok 0) 2))) (.lit (.i 17592186043904))), (.le (.add (.lit (.i 0)) (.len (.fld (.tok 0) 1))) (.lit (.i 17592186043904))), (.le (.add (.lit (.i 0)) (.len (.fld (.tok 0) 0))) (.lit (.i 8796093021952))), (.le (.add (.lit (.i 0)) (.len (.fld (.tok 0) 0))) (.lit (.i 8796093021952)))] (.leaf [(.mk [(.app (.row []) (.fld (.tok 0) 0)), (.app (.row []) (.fld (.tok 0) 1)), (.app (.row []) (.fld (.tok 0) 2))])]))
set_option maxRecDepth 100000 in
theorem code_ref34_Clone : ∀ cd, Try.f16.body = some cd → treeOf Try.prog [] ann_ref34_Clone q15 Try.f16 cd = q2b := by
  intro cd h
  injection h with h
  subst h
  kernel_rfl
theorem fok_ref34_Clone {g : List D → Option (List D)}  (h : ∀ ds outs, WfA q15.ars ds → g ds = some outs → q2b.go (tblS []) (fun o => o = outs) ds fun _ _ => False) : FOk q15 g :=
  q0l ann_ref34_Clone Try.f16 _ .nil rfl rfl enter_ref34_Clone (by decide) fun ds outs hw hg => by rw [code_ref34_Clone  _ rfl]; exact h ds outs hw hg

def q0q : Ct := ⟨39, [.val (.row 31)], [(.row 31, true)], [], none⟩
theorem enter_slices_Clone_Cell (args : Array Value) (w : World) : (callFunc q0q.f args).run Try.prog w = .ok (.enter q0q.f args) w := by kernel_rfl
def q2j : Ann := ⟨[0, 2, 4], []⟩
def q27 : Tree := (.amb (.tok 0) .false (.leaf [(.lit (.r []))]) (.need [(.le (.add (.lit (.i 0)) (.len (.tok 0))) (.lit (.i 8796093021952)))] (.leaf [(.app (.row []) (.tok 0))])))
set_option maxRecDepth 100000 in
theorem code_slices_Clone_Cell : ∀ cd, Try.f39.body = some cd → treeOf Try.prog [] q2j q0q Try.f39 cd = q27 := by
  intro cd h
  injection h with h
  subst h
  kernel_rfl
theorem fok_slices_Clone_Cell {g : List D → Option (List D)}  (h : ∀ ds outs, WfA q0q.ars ds → g ds = some outs → q27.go (tblS []) (fun o => o = outs) ds fun _ _ => False) : FOk q0q g :=
  q0l q2j Try.f39 _ .nil rfl rfl enter_slices_Clone_Cell (by decide) fun ds outs hw hg => by rw [code_slices_Clone_Cell  _ rfl]; exact h ds outs hw hg

def q0i : Ct := ⟨40, [.val (.row 51)], [(.row 51, true)], [], none⟩
theorem q2w (args : Array Value) (w : World) : (callFunc q0i.f args).run Try.prog w = .ok (.enter q0i.f args) w := by kernel_rfl
def q1z : Ann := ⟨[0, 2, 4], []⟩
def q1t : Tree := (.amb (.tok 0) .false (.leaf [(.lit (.r []))]) (.need [(.le (.add (.lit (.i 0)) (.len (.tok 0))) (.lit (.i 5864062014634)))] (.leaf [(.app (.row []) (.tok 0))])))
set_option maxRecDepth 100000 in
theorem q2z : ∀ cd, Try.f40.body = some cd → treeOf Try.prog [] q1z q0i Try.f40 cd = q1t := by
  intro cd h
  injection h with h
  subst h
  kernel_rfl
theorem fok_slices_Clone_Symbol {g : List D → Option (List D)}  (h : ∀ ds outs, WfA q0i.ars ds → g ds = some outs → q1t.go (tblS []) (fun o => o = outs) ds fun _ _ => False) : FOk q0i g :=
  q0l q1z Try.f40 _ .nil rfl rfl q2w (by decide) fun ds outs hw hg => by rw [q2z  _ rfl]; exact h ds outs hw hg

def q0s : Ct := ⟨41, [.val (.row 37)], [(.row 37, true)], [], none⟩
theorem enter_slices_Clone_Undo (args : Array Value) (w : World) : (callFunc q0s.f args).run Try.prog w = .ok (.enter q0s.f args) w := by kernel_rfl
def q2i : Ann := ⟨[0, 2, 4], []⟩
def q28 : Tree := (.amb (.tok 0) .false (.leaf [(.lit (.r []))]) (.need [(.le (.add (.lit (.i 0)) (.len (.tok 0))) (.lit (.i 5864062014634)))] (.leaf [(.app (.row []) (.tok 0))])))
set_option maxRecDepth 100000 in
theorem code_slices_Clone_Undo : ∀ cd, Try.f41.body = some cd → treeOf Try.prog [] q2i q0s Try.f41 cd = q28 := by
  intro cd h
  injection h with h
  subst h
  kernel_rfl
theorem fok_slices_Clone_Undo {g : List D → Option (List D)}  (h : ∀ ds outs, WfA q0s.ars ds → g ds = some outs → q28.go (tblS []) (fun o => o = outs) ds fun _ _ => False) : FOk q0s g :=
  q0l q2i Try.f41 _ .nil rfl rfl enter_slices_Clone_Undo (by decide) fun ds outs hw hg => by rw [code_slices_Clone_Undo  _ rfl]; exact h ds outs hw hg

def q0p : Ct := ⟨42, [.val (.row 63)], [(.row 63, true)], [], none⟩
theorem enter_slices_Clone_Wake (args : Array Value) (w : World) : (callFunc q0p.f args).run Try.prog w = .ok (.enter q0p.f args) w := by kernel_rfl
def q2g : Ann := ⟨[0, 2, 4], []⟩
def q22 : Tree := (.amb (.tok 0) .false (.leaf [(.lit (.r []))]) (.need [(.le (.add (.lit (.i 0)) (.len (.tok 0))) (.lit (.i 3518437208780)))] (.leaf [(.app (.row []) (.tok 0))])))
set_option maxRecDepth 100000 in
theorem code_slices_Clone_Wake : ∀ cd, Try.f42.body = some cd → treeOf Try.prog [] q2g q0p Try.f42 cd = q22 := by
  intro cd h
  injection h with h
  subst h
  kernel_rfl
theorem fok_slices_Clone_Wake {g : List D → Option (List D)}  (h : ∀ ds outs, WfA q0p.ars ds → g ds = some outs → q22.go (tblS []) (fun o => o = outs) ds fun _ _ => False) : FOk q0p g :=
  q0l q2g Try.f42 _ .nil rfl rfl enter_slices_Clone_Wake (by decide) fun ds outs hw hg => by rw [code_slices_Clone_Wake  _ rfl]; exact h ds outs hw hg

def q17 : Ct := ⟨24, [.val (.st 27)], [(.st 27, true)], [], none⟩
theorem enter_cells_Clone (args : Array Value) (w : World) : (callFunc q17.f args).run Try.prog w = .ok (.enter q17.f args) w := by kernel_rfl
def ann_cells_Clone : Ann := ⟨[0, 1, 2], []⟩
def q2d : Tree := (.need [(.ok 0 [(.fld (.tok 0) 0)])] (.need [(.ok 1 [(.fld (.tok 0) 1)])] (.need [(.ok 2 [(.fld (.tok 0) 2)])] (.need [(.ok 3 [(.fld (.tok 0) 3)])] (.leaf [(.set (.set (.set (.set (.tok 0) 0 (.call 0 0 [(.fld (.tok 0) 0)])) 1 (.call 1 0 [(.fld (.tok 0) 1)])) 2 (.call 2 0 [(.fld (.tok 0) 2)])) 3 (.call 3 0 [(.fld (.tok 0) 3)]))])))))
set_option maxRecDepth 100000 in
theorem code_cells_Clone (g0 g1 g2 g3 : List D → Option (List D)) : ∀ cd, Try.f24.body = some cd → treeOf Try.prog [(q0q, g0), (q0i, g1), (q0s, g2), (q0p, g3)] ann_cells_Clone q17 Try.f24 cd = q2d := by
  intro cd h
  injection h with h
  subst h
  kernel_rfl
theorem fok_cells_Clone {g0 g1 g2 g3 : List D → Option (List D)} {g : List D → Option (List D)} (h0 : FOk q0q g0) (h1 : FOk q0i g1) (h2 : FOk q0s g2) (h3 : FOk q0p g3) (h : ∀ ds outs, WfA q17.ars ds → g ds = some outs → q2d.go (tblS [(q0q, g0), (q0i, g1), (q0s, g2), (q0p, g3)]) (fun o => o = outs) ds fun _ _ => False) : FOk q17 g :=
  q0l ann_cells_Clone Try.f24 _ (.cons h0 (.cons h1 (.cons h2 (.cons h3 .nil)))) rfl rfl enter_cells_Clone (by decide) fun ds outs hw hg => by rw [code_cells_Clone g0 g1 g2 g3 _ rfl]; exact h ds outs hw hg

def q0o : Ct := ⟨47, [.val (.row 31), .val (.row 31)], [(.bool, false)], [], none⟩
theorem enter_slices_Equal_Cell (args : Array Value) (w : World) : (callFunc q0o.f args).run Try.prog w = .ok (.enter q0o.f args) w := by kernel_rfl
def q2f : Ann := ⟨[0, 1, 4, 5, 10, 12, 13, 14, 24], [(4, ⟨[(4, .bool, false), (13, .int .i64, false)], [], [14, 15, 5, 16, 17, 18, 19, 20, 21, 22, 23, 24, 25], []⟩)]⟩
def q24 : Tree := (.br (.not (.eq (.len (.tok 0)) (.len (.tok 1)))) (.leaf [(.lit (.b .false))]) (.loop 4 2 [(.lit (.b .false)), (.lit (.i 0))] (.br (.lt (.tok 3) (.len (.tok 0))) (.need [(.le (.lit (.i 0)) (.tok 3)), (.lt (.tok 3) (.len (.tok 1))), (.le (.lit (.i 0)) (.tok 3)), (.lt (.tok 3) (.len (.tok 0)))] (.br (.not (.eq (.get (.tok 0) (.tok 3)) (.get (.tok 1) (.tok 3)))) (.leaf [(.lit (.b .false))]) (.need [(.rng .i64 (.add (.tok 3) (.lit (.i 1))))] (.back 4 [(.tok 2), (.add (.tok 3) (.lit (.i 1)))])))) (.leaf [(.lit (.b .true))]))))
set_option maxRecDepth 100000 in
theorem code_slices_Equal_Cell : ∀ cd, Try.f47.body = some cd → treeOf Try.prog [] q2f q0o Try.f47 cd = q24 := by
  intro cd h
  injection h with h
  subst h
  kernel_rfl
theorem fok_slices_Equal_Cell {g : List D → Option (List D)}  (h : ∀ ds outs, WfA q0o.ars ds → g ds = some outs → q24.go (tblS []) (fun o => o = outs) ds fun _ _ => False) : FOk q0o g :=
  q0l q2f Try.f47 _ .nil rfl rfl enter_slices_Equal_Cell (by decide) fun ds outs hw hg => by rw [code_slices_Equal_Cell  _ rfl]; exact h ds outs hw hg

def q0j : Ct := ⟨48, [.val (.row 51), .val (.row 51)], [(.bool, false)], [], none⟩
theorem q2x (args : Array Value) (w : World) : (callFunc q0j.f args).run Try.prog w = .ok (.enter q0j.f args) w := by kernel_rfl
def q1y : Ann := ⟨[0, 1, 4, 5, 10, 12, 13, 14, 24], [(4, ⟨[(4, .bool, false), (13, .int .i64, false)], [], [14, 15, 5, 16, 17, 18, 19, 20, 21, 22, 23, 24, 25], []⟩)]⟩
def q1u : Tree := (.br (.not (.eq (.len (.tok 0)) (.len (.tok 1)))) (.leaf [(.lit (.b .false))]) (.loop 4 2 [(.lit (.b .false)), (.lit (.i 0))] (.br (.lt (.tok 3) (.len (.tok 0))) (.need [(.le (.lit (.i 0)) (.tok 3)), (.lt (.tok 3) (.len (.tok 1))), (.le (.lit (.i 0)) (.tok 3)), (.lt (.tok 3) (.len (.tok 0)))] (.br (.not (.eq (.get (.tok 0) (.tok 3)) (.get (.tok 1) (.tok 3)))) (.leaf [(.lit (.b .false))]) (.need [(.rng .i64 (.add (.tok 3) (.lit (.i 1))))] (.back 4 [(.tok 2), (.add (.tok 3) (.lit (.i 1)))])))) (.leaf [(.lit (.b .true))]))))
set_option maxRecDepth 100000 in
theorem q2y : ∀ cd, Try.f48.body = some cd → treeOf Try.prog [] q1y q0j Try.f48 cd = q1u := by
  intro cd h
  injection h with h
  subst h
  kernel_rfl
theorem fok_slices_Equal_Symbol {g : List D → Option (List D)}  (h : ∀ ds outs, WfA q0j.ars ds → g ds = some outs → q1u.go (tblS []) (fun o => o = outs) ds fun _ _ => False) : FOk q0j g :=
  q0l q1y Try.f48 _ .nil rfl rfl q2x (by decide) fun ds outs hw hg => by rw [q2y  _ rfl]; exact h ds outs hw hg

def q0t : Ct := ⟨49, [.val (.row 37), .val (.row 37)], [(.bool, false)], [], none⟩
theorem enter_slices_Equal_Undo (args : Array Value) (w : World) : (callFunc q0t.f args).run Try.prog w = .ok (.enter q0t.f args) w := by kernel_rfl
def q2h : Ann := ⟨[0, 1, 4, 5, 10, 12, 13, 14, 24], [(4, ⟨[(4, .bool, false), (13, .int .i64, false)], [], [14, 15, 5, 16, 17, 18, 19, 20, 21, 22, 23, 24, 25], []⟩)]⟩
def q21 : Tree := (.br (.not (.eq (.len (.tok 0)) (.len (.tok 1)))) (.leaf [(.lit (.b .false))]) (.loop 4 2 [(.lit (.b .false)), (.lit (.i 0))] (.br (.lt (.tok 3) (.len (.tok 0))) (.need [(.le (.lit (.i 0)) (.tok 3)), (.lt (.tok 3) (.len (.tok 1))), (.le (.lit (.i 0)) (.tok 3)), (.lt (.tok 3) (.len (.tok 0)))] (.br (.not (.eq (.get (.tok 0) (.tok 3)) (.get (.tok 1) (.tok 3)))) (.leaf [(.lit (.b .false))]) (.need [(.rng .i64 (.add (.tok 3) (.lit (.i 1))))] (.back 4 [(.tok 2), (.add (.tok 3) (.lit (.i 1)))])))) (.leaf [(.lit (.b .true))]))))
set_option maxRecDepth 100000 in
theorem code_slices_Equal_Undo : ∀ cd, Try.f49.body = some cd → treeOf Try.prog [] q2h q0t Try.f49 cd = q21 := by
  intro cd h
  injection h with h
  subst h
  kernel_rfl
theorem fok_slices_Equal_Undo {g : List D → Option (List D)}  (h : ∀ ds outs, WfA q0t.ars ds → g ds = some outs → q21.go (tblS []) (fun o => o = outs) ds fun _ _ => False) : FOk q0t g :=
  q0l q2h Try.f49 _ .nil rfl rfl enter_slices_Equal_Undo (by decide) fun ds outs hw hg => by rw [code_slices_Equal_Undo  _ rfl]; exact h ds outs hw hg

def q0r : Ct := ⟨50, [.val (.row 63), .val (.row 63)], [(.bool, false)], [], none⟩
theorem enter_slices_Equal_Wake (args : Array Value) (w : World) : (callFunc q0r.f args).run Try.prog w = .ok (.enter q0r.f args) w := by kernel_rfl
def q2e : Ann := ⟨[0, 1, 4, 5, 10, 12, 13, 14, 24], [(4, ⟨[(4, .bool, false), (13, .int .i64, false)], [], [14, 15, 5, 16, 17, 18, 19, 20, 21, 22, 23, 24, 25], []⟩)]⟩
def q23 : Tree := (.br (.not (.eq (.len (.tok 0)) (.len (.tok 1)))) (.leaf [(.lit (.b .false))]) (.loop 4 2 [(.lit (.b .false)), (.lit (.i 0))] (.br (.lt (.tok 3) (.len (.tok 0))) (.need [(.le (.lit (.i 0)) (.tok 3)), (.lt (.tok 3) (.len (.tok 1))), (.le (.lit (.i 0)) (.tok 3)), (.lt (.tok 3) (.len (.tok 0)))] (.br (.not (.eq (.get (.tok 0) (.tok 3)) (.get (.tok 1) (.tok 3)))) (.leaf [(.lit (.b .false))]) (.need [(.rng .i64 (.add (.tok 3) (.lit (.i 1))))] (.back 4 [(.tok 2), (.add (.tok 3) (.lit (.i 1)))])))) (.leaf [(.lit (.b .true))]))))
set_option maxRecDepth 100000 in
theorem code_slices_Equal_Wake : ∀ cd, Try.f50.body = some cd → treeOf Try.prog [] q2e q0r Try.f50 cd = q23 := by
  intro cd h
  injection h with h
  subst h
  kernel_rfl
theorem fok_slices_Equal_Wake {g : List D → Option (List D)}  (h : ∀ ds outs, WfA q0r.ars ds → g ds = some outs → q23.go (tblS []) (fun o => o = outs) ds fun _ _ => False) : FOk q0r g :=
  q0l q2e Try.f50 _ .nil rfl rfl enter_slices_Equal_Wake (by decide) fun ds outs hw hg => by rw [code_slices_Equal_Wake  _ rfl]; exact h ds outs hw hg

def q1a : Ct := ⟨27, [.val (.st 27), .val (.st 27)], [(.bool, false)], [], none⟩
theorem enter_cells_Same (args : Array Value) (w : World) : (callFunc q1a.f args).run Try.prog w = .ok (.enter q1a.f args) w := by kernel_rfl
def ann_cells_Same : Ann := ⟨[0, 1, 2, 3, 4], []⟩
def q2m : Tree := (.need [(.imp (.and (.eq (.fld (.tok 0) 4) (.fld (.tok 1) 4)) (.eq (.fld (.tok 0) 5) (.fld (.tok 1) 5))) (.ok 0 [(.fld (.tok 0) 0), (.fld (.tok 1) 0)])), (.imp (.and (.and (.eq (.fld (.tok 0) 4) (.fld (.tok 1) 4)) (.eq (.fld (.tok 0) 5) (.fld (.tok 1) 5))) (.call 0 0 [(.fld (.tok 0) 0), (.fld (.tok 1) 0)])) (.ok 1 [(.fld (.tok 0) 1), (.fld (.tok 1) 1)])), (.imp (.and (.and (.and (.eq (.fld (.tok 0) 4) (.fld (.tok 1) 4)) (.eq (.fld (.tok 0) 5) (.fld (.tok 1) 5))) (.call 0 0 [(.fld (.tok 0) 0), (.fld (.tok 1) 0)])) (.call 1 0 [(.fld (.tok 0) 1), (.fld (.tok 1) 1)])) (.ok 2 [(.fld (.tok 0) 2), (.fld (.tok 1) 2)])), (.imp (.and (.and (.and (.and (.eq (.fld (.tok 0) 4) (.fld (.tok 1) 4)) (.eq (.fld (.tok 0) 5) (.fld (.tok 1) 5))) (.call 0 0 [(.fld (.tok 0) 0), (.fld (.tok 1) 0)])) (.call 1 0 [(.fld (.tok 0) 1), (.fld (.tok 1) 1)])) (.call 2 0 [(.fld (.tok 0) 2), (.fld (.tok 1) 2)])) (.ok 3 [(.fld (.tok 0) 3), (.fld (.tok 1) 3)]))] (.leaf [(.and (.and (.and (.and (.and (.eq (.fld (.tok 0) 4) (.fld (.tok 1) 4)) (.eq (.fld (.tok 0) 5) (.fld (.tok 1) 5))) (.call 0 0 [(.fld (.tok 0) 0), (.fld (.tok 1) 0)])) (.call 1 0 [(.fld (.tok 0) 1), (.fld (.tok 1) 1)])) (.call 2 0 [(.fld (.tok 0) 2), (.fld (.tok 1) 2)])) (.call 3 0 [(.fld (.tok 0) 3), (.fld (.tok 1) 3)]))]))
set_option maxRecDepth 100000 in
theorem code_cells_Same (g0 g1 g2 g3 : List D → Option (List D)) : ∀ cd, Try.f27.body = some cd → treeOf Try.prog [(q0o, g0), (q0j, g1), (q0t, g2), (q0r, g3)] ann_cells_Same q1a Try.f27 cd = q2m := by
  intro cd h
  injection h with h
  subst h
  kernel_rfl
theorem fok_cells_Same {g0 g1 g2 g3 : List D → Option (List D)} {g : List D → Option (List D)} (h0 : FOk q0o g0) (h1 : FOk q0j g1) (h2 : FOk q0t g2) (h3 : FOk q0r g3) (h : ∀ ds outs, WfA q1a.ars ds → g ds = some outs → q2m.go (tblS [(q0o, g0), (q0j, g1), (q0t, g2), (q0r, g3)]) (fun o => o = outs) ds fun _ _ => False) : FOk q1a g :=
  q0l ann_cells_Same Try.f27 _ (.cons h0 (.cons h1 (.cons h2 (.cons h3 .nil)))) rfl rfl enter_cells_Same (by decide) fun ds outs hw hg => by rw [code_cells_Same g0 g1 g2 g3 _ rfl]; exact h ds outs hw hg

def q1e : Ct := ⟨6, [.val (.st 27), .val (.st 34)], [(.bool, false)], [], none⟩
theorem enter_law34_GcAgain (args : Array Value) (w : World) : (callFunc q1e.f args).run Try.prog w = .ok (.enter q1e.f args) w := by kernel_rfl
def ann_law34_GcAgain : Ann := ⟨[0, 1, 2, 3, 4, 5, 6, 7, 8, 9, 10, 20, 55], []⟩
def q1f : Tree := (.need [(.ok 0 [(.tok 0), (.tok 1)]), (.imp (.not (.not (.call 0 0 [(.tok 0), (.tok 1)]))) (.ok 1 [(.tok 0), (.tok 1)]))] (.br (.or (.not (.call 0 0 [(.tok 0), (.tok 1)])) (.not (.call 1 0 [(.tok 0), (.tok 1)]))) (.need [(.ok 2 [])] (.leaf [(.call 2 0 [])])) (.need [(.ok 3 [(.tok 0), (.tok 1)])] (.need [(.ok 5 [(.tok 1)]), (.ok 5 [(.tok 1)]), (.ok 4 [(.tok 0)]), (.ok 4 [(.tok 0)]), (.ok 4 [(.tok 0)])] (.need [(.imp (.not (.not (.eq (.call 3 1 [(.tok 0), (.tok 1)]) (.lit (.i 0))))) (.ok 6 [(.call 4 0 [(.tok 0)]), (.call 5 0 [(.tok 1)])])), (.imp (.not (.or (.or (.not (.eq (.call 3 1 [(.tok 0), (.tok 1)]) (.lit (.i 0)))) (.not (.eq (.call 6 0 [(.call 4 0 [(.tok 0)]), (.call 5 0 [(.tok 1)])]) (.lit (.i 0))))) (.not (.eq (.len (.fld (.ite (.not (.not (.eq (.call 3 1 [(.tok 0), (.tok 1)]) (.lit (.i 0))))) (.call 6 1 [(.call 4 0 [(.tok 0)]), (.call 5 0 [(.tok 1)])]) (.call 4 0 [(.tok 0)])) 0)) (.call 3 0 [(.tok 0), (.tok 1)]))))) (.ok 7 [(.ite (.not (.not (.eq (.call 3 1 [(.tok 0), (.tok 1)]) (.lit (.i 0))))) (.call 6 1 [(.call 4 0 [(.tok 0)]), (.call 5 0 [(.tok 1)])]) (.call 4 0 [(.tok 0)]))])), (.imp (.not (.or (.or (.or (.not (.eq (.call 3 1 [(.tok 0), (.tok 1)]) (.lit (.i 0)))) (.not (.eq (.call 6 0 [(.call 4 0 [(.tok 0)]), (.call 5 0 [(.tok 1)])]) (.lit (.i 0))))) (.not (.eq (.len (.fld (.ite (.not (.not (.eq (.call 3 1 [(.tok 0), (.tok 1)]) (.lit (.i 0))))) (.call 6 1 [(.call 4 0 [(.tok 0)]), (.call 5 0 [(.tok 1)])]) (.call 4 0 [(.tok 0)])) 0)) (.call 3 0 [(.tok 0), (.tok 1)])))) (.not (.call 7 0 [(.ite (.not (.not (.eq (.call 3 1 [(.tok 0), (.tok 1)]) (.lit (.i 0))))) (.call 6 1 [(.call 4 0 [(.tok 0)]), (.call 5 0 [(.tok 1)])]) (.call 4 0 [(.tok 0)]))])))) (.ok 1 [(.ite (.not (.not (.eq (.call 3 1 [(.tok 0), (.tok 1)]) (.lit (.i 0))))) (.call 6 1 [(.call 4 0 [(.tok 0)]), (.call 5 0 [(.tok 1)])]) (.call 4 0 [(.tok 0)])), (.ite (.not (.not (.eq (.call 3 1 [(.tok 0), (.tok 1)]) (.lit (.i 0))))) (.call 6 2 [(.call 4 0 [(.tok 0)]), (.call 5 0 [(.tok 1)])]) (.call 5 0 [(.tok 1)]))]))] (.br (.or (.or (.or (.or (.not (.eq (.call 3 1 [(.tok 0), (.tok 1)]) (.lit (.i 0)))) (.not (.eq (.call 6 0 [(.call 4 0 [(.tok 0)]), (.call 5 0 [(.tok 1)])]) (.lit (.i 0))))) (.not (.eq (.len (.fld (.ite (.not (.not (.eq (.call 3 1 [(.tok 0), (.tok 1)]) (.lit (.i 0))))) (.call 6 1 [(.call 4 0 [(.tok 0)]), (.call 5 0 [(.tok 1)])]) (.call 4 0 [(.tok 0)])) 0)) (.call 3 0 [(.tok 0), (.tok 1)])))) (.not (.call 7 0 [(.ite (.not (.not (.eq (.call 3 1 [(.tok 0), (.tok 1)]) (.lit (.i 0))))) (.call 6 1 [(.call 4 0 [(.tok 0)]), (.call 5 0 [(.tok 1)])]) (.call 4 0 [(.tok 0)]))]))) (.not (.call 1 0 [(.ite (.not (.not (.eq (.call 3 1 [(.tok 0), (.tok 1)]) (.lit (.i 0))))) (.call 6 1 [(.call 4 0 [(.tok 0)]), (.call 5 0 [(.tok 1)])]) (.call 4 0 [(.tok 0)])), (.ite (.not (.not (.eq (.call 3 1 [(.tok 0), (.tok 1)]) (.lit (.i 0))))) (.call 6 2 [(.call 4 0 [(.tok 0)]), (.call 5 0 [(.tok 1)])]) (.call 5 0 [(.tok 1)]))]))) (.leaf [(.lit (.b .false))]) (.need [(.ok 5 [(.ite (.not (.not (.eq (.call 3 1 [(.tok 0), (.tok 1)]) (.lit (.i 0))))) (.call 6 2 [(.call 4 0 [(.tok 0)]), (.call 5 0 [(.tok 1)])]) (.call 5 0 [(.tok 1)]))]), (.ok 5 [(.ite (.not (.not (.eq (.call 3 1 [(.tok 0), (.tok 1)]) (.lit (.i 0))))) (.call 6 2 [(.call 4 0 [(.tok 0)]), (.call 5 0 [(.tok 1)])]) (.call 5 0 [(.tok 1)]))]), (.ok 4 [(.ite (.not (.not (.eq (.call 3 1 [(.tok 0), (.tok 1)]) (.lit (.i 0))))) (.call 6 1 [(.call 4 0 [(.tok 0)]), (.call 5 0 [(.tok 1)])]) (.call 4 0 [(.tok 0)]))]), (.ok 4 [(.ite (.not (.not (.eq (.call 3 1 [(.tok 0), (.tok 1)]) (.lit (.i 0))))) (.call 6 1 [(.call 4 0 [(.tok 0)]), (.call 5 0 [(.tok 1)])]) (.call 4 0 [(.tok 0)]))]), (.ok 4 [(.ite (.not (.not (.eq (.call 3 1 [(.tok 0), (.tok 1)]) (.lit (.i 0))))) (.call 6 1 [(.call 4 0 [(.tok 0)]), (.call 5 0 [(.tok 1)])]) (.call 4 0 [(.tok 0)]))])] (.need [(.ok 6 [(.call 4 0 [(.ite (.not (.not (.eq (.call 3 1 [(.tok 0), (.tok 1)]) (.lit (.i 0))))) (.call 6 1 [(.call 4 0 [(.tok 0)]), (.call 5 0 [(.tok 1)])]) (.call 4 0 [(.tok 0)]))]), (.call 5 0 [(.ite (.not (.not (.eq (.call 3 1 [(.tok 0), (.tok 1)]) (.lit (.i 0))))) (.call 6 2 [(.call 4 0 [(.tok 0)]), (.call 5 0 [(.tok 1)])]) (.call 5 0 [(.tok 1)]))])]), (.imp (.eq (.call 6 0 [(.call 4 0 [(.ite (.not (.not (.eq (.call 3 1 [(.tok 0), (.tok 1)]) (.lit (.i 0))))) (.call 6 1 [(.call 4 0 [(.tok 0)]), (.call 5 0 [(.tok 1)])]) (.call 4 0 [(.tok 0)]))]), (.call 5 0 [(.ite (.not (.not (.eq (.call 3 1 [(.tok 0), (.tok 1)]) (.lit (.i 0))))) (.call 6 2 [(.call 4 0 [(.tok 0)]), (.call 5 0 [(.tok 1)])]) (.call 5 0 [(.tok 1)]))])]) (.lit (.i 0))) (.ok 8 [(.ite (.not (.not (.eq (.call 3 1 [(.tok 0), (.tok 1)]) (.lit (.i 0))))) (.call 6 1 [(.call 4 0 [(.tok 0)]), (.call 5 0 [(.tok 1)])]) (.call 4 0 [(.tok 0)])), (.call 6 1 [(.call 4 0 [(.ite (.not (.not (.eq (.call 3 1 [(.tok 0), (.tok 1)]) (.lit (.i 0))))) (.call 6 1 [(.call 4 0 [(.tok 0)]), (.call 5 0 [(.tok 1)])]) (.call 4 0 [(.tok 0)]))]), (.call 5 0 [(.ite (.not (.not (.eq (.call 3 1 [(.tok 0), (.tok 1)]) (.lit (.i 0))))) (.call 6 2 [(.call 4 0 [(.tok 0)]), (.call 5 0 [(.tok 1)])]) (.call 5 0 [(.tok 1)]))])])])), (.imp (.and (.eq (.call 6 0 [(.call 4 0 [(.ite (.not (.not (.eq (.call 3 1 [(.tok 0), (.tok 1)]) (.lit (.i 0))))) (.call 6 1 [(.call 4 0 [(.tok 0)]), (.call 5 0 [(.tok 1)])]) (.call 4 0 [(.tok 0)]))]), (.call 5 0 [(.ite (.not (.not (.eq (.call 3 1 [(.tok 0), (.tok 1)]) (.lit (.i 0))))) (.call 6 2 [(.call 4 0 [(.tok 0)]), (.call 5 0 [(.tok 1)])]) (.call 5 0 [(.tok 1)]))])]) (.lit (.i 0))) (.call 8 0 [(.ite (.not (.not (.eq (.call 3 1 [(.tok 0), (.tok 1)]) (.lit (.i 0))))) (.call 6 1 [(.call 4 0 [(.tok 0)]), (.call 5 0 [(.tok 1)])]) (.call 4 0 [(.tok 0)])), (.call 6 1 [(.call 4 0 [(.ite (.not (.not (.eq (.call 3 1 [(.tok 0), (.tok 1)]) (.lit (.i 0))))) (.call 6 1 [(.call 4 0 [(.tok 0)]), (.call 5 0 [(.tok 1)])]) (.call 4 0 [(.tok 0)]))]), (.call 5 0 [(.ite (.not (.not (.eq (.call 3 1 [(.tok 0), (.tok 1)]) (.lit (.i 0))))) (.call 6 2 [(.call 4 0 [(.tok 0)]), (.call 5 0 [(.tok 1)])]) (.call 5 0 [(.tok 1)]))])])])) (.ok 9 [(.ite (.not (.not (.eq (.call 3 1 [(.tok 0), (.tok 1)]) (.lit (.i 0))))) (.call 6 2 [(.call 4 0 [(.tok 0)]), (.call 5 0 [(.tok 1)])]) (.call 5 0 [(.tok 1)])), (.call 6 2 [(.call 4 0 [(.ite (.not (.not (.eq (.call 3 1 [(.tok 0), (.tok 1)]) (.lit (.i 0))))) (.call 6 1 [(.call 4 0 [(.tok 0)]), (.call 5 0 [(.tok 1)])]) (.call 4 0 [(.tok 0)]))]), (.call 5 0 [(.ite (.not (.not (.eq (.call 3 1 [(.tok 0), (.tok 1)]) (.lit (.i 0))))) (.call 6 2 [(.call 4 0 [(.tok 0)]), (.call 5 0 [(.tok 1)])]) (.call 5 0 [(.tok 1)]))])])])), (.imp (.and (.and (.eq (.call 6 0 [(.call 4 0 [(.ite (.not (.not (.eq (.call 3 1 [(.tok 0), (.tok 1)]) (.lit (.i 0))))) (.call 6 1 [(.call 4 0 [(.tok 0)]), (.call 5 0 [(.tok 1)])]) (.call 4 0 [(.tok 0)]))]), (.call 5 0 [(.ite (.not (.not (.eq (.call 3 1 [(.tok 0), (.tok 1)]) (.lit (.i 0))))) (.call 6 2 [(.call 4 0 [(.tok 0)]), (.call 5 0 [(.tok 1)])]) (.call 5 0 [(.tok 1)]))])]) (.lit (.i 0))) (.call 8 0 [(.ite (.not (.not (.eq (.call 3 1 [(.tok 0), (.tok 1)]) (.lit (.i 0))))) (.call 6 1 [(.call 4 0 [(.tok 0)]), (.call 5 0 [(.tok 1)])]) (.call 4 0 [(.tok 0)])), (.call 6 1 [(.call 4 0 [(.ite (.not (.not (.eq (.call 3 1 [(.tok 0), (.tok 1)]) (.lit (.i 0))))) (.call 6 1 [(.call 4 0 [(.tok 0)]), (.call 5 0 [(.tok 1)])]) (.call 4 0 [(.tok 0)]))]), (.call 5 0 [(.ite (.not (.not (.eq (.call 3 1 [(.tok 0), (.tok 1)]) (.lit (.i 0))))) (.call 6 2 [(.call 4 0 [(.tok 0)]), (.call 5 0 [(.tok 1)])]) (.call 5 0 [(.tok 1)]))])])])) (.call 9 0 [(.ite (.not (.not (.eq (.call 3 1 [(.tok 0), (.tok 1)]) (.lit (.i 0))))) (.call 6 2 [(.call 4 0 [(.tok 0)]), (.call 5 0 [(.tok 1)])]) (.call 5 0 [(.tok 1)])), (.call 6 2 [(.call 4 0 [(.ite (.not (.not (.eq (.call 3 1 [(.tok 0), (.tok 1)]) (.lit (.i 0))))) (.call 6 1 [(.call 4 0 [(.tok 0)]), (.call 5 0 [(.tok 1)])]) (.call 4 0 [(.tok 0)]))]), (.call 5 0 [(.ite (.not (.not (.eq (.call 3 1 [(.tok 0), (.tok 1)]) (.lit (.i 0))))) (.call 6 2 [(.call 4 0 [(.tok 0)]), (.call 5 0 [(.tok 1)])]) (.call 5 0 [(.tok 1)]))])])])) (.ok 2 []))] (.leaf [(.and (.and (.and (.eq (.call 6 0 [(.call 4 0 [(.ite (.not (.not (.eq (.call 3 1 [(.tok 0), (.tok 1)]) (.lit (.i 0))))) (.call 6 1 [(.call 4 0 [(.tok 0)]), (.call 5 0 [(.tok 1)])]) (.call 4 0 [(.tok 0)]))]), (.call 5 0 [(.ite (.not (.not (.eq (.call 3 1 [(.tok 0), (.tok 1)]) (.lit (.i 0))))) (.call 6 2 [(.call 4 0 [(.tok 0)]), (.call 5 0 [(.tok 1)])]) (.call 5 0 [(.tok 1)]))])]) (.lit (.i 0))) (.call 8 0 [(.ite (.not (.not (.eq (.call 3 1 [(.tok 0), (.tok 1)]) (.lit (.i 0))))) (.call 6 1 [(.call 4 0 [(.tok 0)]), (.call 5 0 [(.tok 1)])]) (.call 4 0 [(.tok 0)])), (.call 6 1 [(.call 4 0 [(.ite (.not (.not (.eq (.call 3 1 [(.tok 0), (.tok 1)]) (.lit (.i 0))))) (.call 6 1 [(.call 4 0 [(.tok 0)]), (.call 5 0 [(.tok 1)])]) (.call 4 0 [(.tok 0)]))]), (.call 5 0 [(.ite (.not (.not (.eq (.call 3 1 [(.tok 0), (.tok 1)]) (.lit (.i 0))))) (.call 6 2 [(.call 4 0 [(.tok 0)]), (.call 5 0 [(.tok 1)])]) (.call 5 0 [(.tok 1)]))])])])) (.call 9 0 [(.ite (.not (.not (.eq (.call 3 1 [(.tok 0), (.tok 1)]) (.lit (.i 0))))) (.call 6 2 [(.call 4 0 [(.tok 0)]), (.call 5 0 [(.tok 1)])]) (.call 5 0 [(.tok 1)])), (.call 6 2 [(.call 4 0 [(.ite (.not (.not (.eq (.call 3 1 [(.tok 0), (.tok 1)]) (.lit (.i 0))))) (.call 6 1 [(.call 4 0 [(.tok 0)]), (.call 5 0 [(.tok 1)])]) (.call 4 0 [(.tok 0)]))]), (.call 5 0 [(.ite (.not (.not (.eq (.call 3 1 [(.tok 0), (.tok 1)]) (.lit (.i 0))))) (.call 6 2 [(.call 4 0 [(.tok 0)]), (.call 5 0 [(.tok 1)])]) (.call 5 0 [(.tok 1)]))])])])) (.call 2 0 []))])))))))))
set_option maxRecDepth 100000 in
theorem code_law34_GcAgain (g0 g1 g2 g3 g4 g5 g6 g7 g8 g9 : List D → Option (List D)) : ∀ cd, Try.f6.body = some cd → treeOf Try.prog [(q18, g0), (q0m, g1), (q19, g2), (q12, g3), (q17, g4), (q15, g5), (q0u, g6), (q0k, g7), (q1a, g8), (q0v, g9)] ann_law34_GcAgain q1e Try.f6 cd = q1f := by
  intro cd h
  injection h with h
  subst h
  kernel_rfl
theorem fok_law34_GcAgain {g0 g1 g2 g3 g4 g5 g6 g7 g8 g9 : List D → Option (List D)} {g : List D → Option (List D)} (h0 : FOk q18 g0) (h1 : FOk q0m g1) (h2 : FOk q19 g2) (h3 : FOk q12 g3) (h4 : FOk q17 g4) (h5 : FOk q15 g5) (h6 : FOk q0u g6) (h7 : FOk q0k g7) (h8 : FOk q1a g8) (h9 : FOk q0v g9) (h : ∀ ds outs, WfA q1e.ars ds → g ds = some outs → q1f.go (tblS [(q18, g0), (q0m, g1), (q19, g2), (q12, g3), (q17, g4), (q15, g5), (q0u, g6), (q0k, g7), (q1a, g8), (q0v, g9)]) (fun o => o = outs) ds fun _ _ => False) : FOk q1e g :=
  q0l ann_law34_GcAgain Try.f6 _ (.cons h0 (.cons h1 (.cons h2 (.cons h3 (.cons h4 (.cons h5 (.cons h6 (.cons h7 (.cons h8 (.cons h9 .nil)))))))))) rfl rfl enter_law34_GcAgain (by decide) fun ds outs hw hg => by rw [code_law34_GcAgain g0 g1 g2 g3 g4 g5 g6 g7 g8 g9 _ rfl]; exact h ds outs hw hg

end Go.Proofs.Ytmebmpgffhajbaa


namespace Go.Proofs.Ytmebmpgffhajbaa
open Go.RowKit
set_option linter.unusedVariables false
set_option linter.unusedSimpArgs false

structure Ce where
  t : Int
  n : Int
structure Un where
  at' : Int
  old : Ce
structure Wk where
  ser : Int
  att : Ce
  val : Ce
structure Sy where
  name : ByteArray
  ar : Int
structure So where
  cs : List Ce
  ys : List Sy
  tr : List Un
  wk : List Wk
  ser : Int
  mx : Int

instance : Inhabited Ce := ⟨⟨0, 0⟩⟩
instance : Inhabited Un := ⟨⟨0, default⟩⟩
instance : Inhabited Wk := ⟨⟨0, default, default⟩⟩
instance : Inhabited Sy := ⟨⟨⟨#[]⟩, 0⟩⟩

def eC (c : Ce) : D := .a [.i c.t, .i c.n]
def eU (u : Un) : D := .a [.i u.at', eC u.old]
def eW (w : Wk) : D := .a [.i w.ser, eC w.att, eC w.val]
def eY (y : Sy) : D := .a [.s y.name, .i y.ar]
def eS (s : So) : D := .a [.r (s.cs.map eC), .r (s.ys.map eY), .r (s.tr.map eU), .r (s.wk.map eW), .i s.ser, .i s.mx]
def dC (d : D) : Ce := ⟨(d.fld 0).int, (d.fld 1).int⟩
def dU (d : D) : Un := ⟨(d.fld 0).int, dC (d.fld 1)⟩
def dW (d : D) : Wk := ⟨(d.fld 0).int, dC (d.fld 1), dC (d.fld 2)⟩
def dY (d : D) : Sy := ⟨(d.fld 0).str, (d.fld 1).int⟩
def dS (d : D) : So := ⟨(d.fld 0).rs.map dC, (d.fld 1).rs.map dY, (d.fld 2).rs.map dU, (d.fld 3).rs.map dW, (d.fld 4).int, (d.fld 5).int⟩

theorem dC_eC (c : Ce) : dC (eC c) = c := rfl
theorem dU_eU (c : Un) : dU (eU c) = c := rfl
theorem dW_eW (c : Wk) : dW (eW c) = c := rfl
theorem dY_eY (c : Sy) : dY (eY c) = c := rfl
theorem map_id' {α : Type} {e : α → D} {d : D → α} (h : ∀ a, d (e a) = a) (l : List α) : (l.map e).map d = l := by
  rw [List.map_map]
  have : d ∘ e = id := funext h
  rw [this, List.map_id]
theorem dS_eS (s : So) : dS (eS s) = s := by
  show So.mk ((s.cs.map eC).map dC) ((s.ys.map eY).map dY) ((s.tr.map eU).map dU) ((s.wk.map eW).map dW) s.ser s.mx = s
  rw [map_id' dC_eC, map_id' dY_eY, map_id' dU_eU, map_id' dW_eW]
theorem eC_inj {a b : Ce} (h : eC a = eC b) : a = b := by rw [← dC_eC a, h, dC_eC b]
theorem eU_inj {a b : Un} (h : eU a = eU b) : a = b := by rw [← dU_eU a, h, dU_eU b]
theorem eW_inj {a b : Wk} (h : eW a = eW b) : a = b := by rw [← dW_eW a, h, dW_eW b]
theorem eY_inj {a b : Sy} (h : eY a = eY b) : a = b := by rw [← dY_eY a, h, dY_eY b]
theorem eS_inj {a b : So} (h : eS a = eS b) : a = b := by rw [← dS_eS a, h, dS_eS b]
theorem eC_eq (a b : Ce) : (eC a = eC b) = (a = b) := propext ⟨eC_inj, fun h => h ▸ rfl⟩
theorem eU_eq (a b : Un) : (eU a = eU b) = (a = b) := propext ⟨eU_inj, fun h => h ▸ rfl⟩
theorem eW_eq (a b : Wk) : (eW a = eW b) = (a = b) := propext ⟨eW_inj, fun h => h ▸ rfl⟩
theorem eY_eq (a b : Sy) : (eY a = eY b) = (a = b) := propext ⟨eY_inj, fun h => h ▸ rfl⟩
theorem eS_eq (a b : So) : (eS a = eS b) = (a = b) := propext ⟨eS_inj, fun h => h ▸ rfl⟩
instance : DecidableEq Ce := fun a b => if h : eC a = eC b then .isTrue (eC_inj h) else .isFalse fun e => h (e ▸ rfl)
instance : DecidableEq Un := fun a b => if h : eU a = eU b then .isTrue (eU_inj h) else .isFalse fun e => h (e ▸ rfl)
instance : DecidableEq Wk := fun a b => if h : eW a = eW b then .isTrue (eW_inj h) else .isFalse fun e => h (e ▸ rfl)
instance : DecidableEq Sy := fun a b => if h : eY a = eY b then .isTrue (eY_inj h) else .isFalse fun e => h (e ▸ rfl)
instance : DecidableEq So := fun a b => if h : eS a = eS b then .isTrue (eS_inj h) else .isFalse fun e => h (e ▸ rfl)
theorem Ce.ext' {a b : Ce} (h1 : a.t = b.t) (h2 : a.n = b.n) : a = b := by
  cases a; cases b; cases h1; cases h2; rfl

theorem eC_0 (c : Ce) : (eC c).fld 0 = .i c.t := rfl
theorem eC_1 (c : Ce) : (eC c).fld 1 = .i c.n := rfl
theorem eU_0 (c : Un) : (eU c).fld 0 = .i c.at' := rfl
theorem eU_1 (c : Un) : (eU c).fld 1 = eC c.old := rfl
theorem eW_0 (c : Wk) : (eW c).fld 0 = .i c.ser := rfl
theorem eW_1 (c : Wk) : (eW c).fld 1 = eC c.att := rfl
theorem eW_2 (c : Wk) : (eW c).fld 2 = eC c.val := rfl
theorem eY_0 (c : Sy) : (eY c).fld 0 = .s c.name := rfl
theorem eY_1 (c : Sy) : (eY c).fld 1 = .i c.ar := rfl
theorem eS_0 (s : So) : (eS s).fld 0 = .r (s.cs.map eC) := rfl
theorem eS_1 (s : So) : (eS s).fld 1 = .r (s.ys.map eY) := rfl
theorem eS_2 (s : So) : (eS s).fld 2 = .r (s.tr.map eU) := rfl
theorem eS_3 (s : So) : (eS s).fld 3 = .r (s.wk.map eW) := rfl
theorem eS_4 (s : So) : (eS s).fld 4 = .i s.ser := rfl
theorem eS_5 (s : So) : (eS s).fld 5 = .i s.mx := rfl
theorem eU_mk (n : Int) (c : Ce) : D.a [.i n, eC c] = eU ⟨n, c⟩ := rfl

abbrev i64 (n : Int) : Prop := -9223372036854775808 ≤ n ∧ n ≤ 9223372036854775807
def Ce.ok (c : Ce) : Prop := i64 c.t ∧ i64 c.n
def Un.ok (c : Un) : Prop := i64 c.at' ∧ c.old.ok
def Wk.ok (c : Wk) : Prop := i64 c.ser ∧ c.att.ok ∧ c.val.ok
def Sy.ok (c : Sy) : Prop := c.name.size ≤ LIM ∧ i64 c.ar
structure So.ok (s : So) : Prop where
  cs : s.cs.length ≤ 8796093021952 ∧ ∀ c ∈ s.cs, c.ok
  ys : s.ys.length ≤ 5864062014634 ∧ ∀ c ∈ s.ys, c.ok
  tr : s.tr.length ≤ 5864062014634 ∧ ∀ c ∈ s.tr, c.ok
  wk : s.wk.length ≤ 3518437208780 ∧ ∀ c ∈ s.wk, c.ok
  ser : i64 s.ser
  mx : i64 s.mx

theorem wfI {d : D} (h : Wf d (.int .i64)) : ∃ n, d = .i n ∧ i64 n := by
  obtain ⟨n, rfl, hn⟩ := h.int
  exact ⟨n, rfl, rng64.1 hn⟩
theorem wfC {d : D} (h : Wf d T_Cell) : ∃ c, d = eC c ∧ c.ok := by
  obtain ⟨ds, rfl, hl⟩ := h.st_of (fs := [.int .i64, .int .i64]) rfl
  obtain ⟨a, b, rfl, ha, hb⟩ := wfL2 hl
  obtain ⟨x, rfl, hx⟩ := wfI ha
  obtain ⟨y, rfl, hy⟩ := wfI hb
  exact ⟨⟨x, y⟩, rfl, hx, hy⟩
theorem wfU {d : D} (h : Wf d T_Undo) : ∃ c, d = eU c ∧ c.ok := by
  obtain ⟨ds, rfl, hl⟩ := h.st_of (fs := [.int .i64, T_Cell]) rfl
  obtain ⟨a, b, rfl, ha, hb⟩ := wfL2 hl
  obtain ⟨x, rfl, hx⟩ := wfI ha
  obtain ⟨y, rfl, hy⟩ := wfC hb
  exact ⟨⟨x, y⟩, rfl, hx, hy⟩
theorem wfW {d : D} (h : Wf d T_Wake) : ∃ c, d = eW c ∧ c.ok := by
  obtain ⟨ds, rfl, hl⟩ := h.st_of (fs := [.int .i64, T_Cell, T_Cell]) rfl
  obtain ⟨a, r, rfl, ha, hr⟩ := wfL_cons hl
  obtain ⟨b, c, rfl, hb, hc⟩ := wfL2 hr
  obtain ⟨x, rfl, hx⟩ := wfI ha
  obtain ⟨y, rfl, hy⟩ := wfC hb
  obtain ⟨z, rfl, hz⟩ := wfC hc
  exact ⟨⟨x, y, z⟩, rfl, hx, hy, hz⟩
theorem wfY {d : D} (h : Wf d T_Symbol) : ∃ c, d = eY c ∧ c.ok := by
  obtain ⟨ds, rfl, hl⟩ := h.st_of (fs := [.str, .int .i64]) rfl
  obtain ⟨a, b, rfl, ha, hb⟩ := wfL2 hl
  obtain ⟨x, rfl, hx⟩ := ha.str
  obtain ⟨y, rfl, hy⟩ := wfI hb
  exact ⟨⟨x, y⟩, rfl, hx, hy⟩
theorem wfCs {d : D} (h : Wf d T_Cells) : ∃ l : List Ce, d = .r (l.map eC) ∧ l.length ≤ 8796093021952 ∧ ∀ c ∈ l, c.ok := by
  obtain ⟨l, rfl, h1, h2⟩ := h.row_of (te := T_Cell) rfl
  obtain ⟨m, rfl, h3⟩ := of_all (e := eC) (P := Ce.ok) fun x hx => wfC (h2 x hx)
  have e : LM T_Cell = 8796093021952 := by kernel_rfl
  rw [e, List.length_map] at h1
  exact ⟨m, rfl, h1, h3⟩
theorem wfUs {d : D} (h : Wf d T_Undos) : ∃ l : List Un, d = .r (l.map eU) ∧ l.length ≤ 5864062014634 ∧ ∀ c ∈ l, c.ok := by
  obtain ⟨l, rfl, h1, h2⟩ := h.row_of (te := T_Undo) rfl
  obtain ⟨m, rfl, h3⟩ := of_all (e := eU) (P := Un.ok) fun x hx => wfU (h2 x hx)
  have e : LM T_Undo = 5864062014634 := by kernel_rfl
  rw [e, List.length_map] at h1
  exact ⟨m, rfl, h1, h3⟩
theorem wfWs {d : D} (h : Wf d T_Wakes) : ∃ l : List Wk, d = .r (l.map eW) ∧ l.length ≤ 3518437208780 ∧ ∀ c ∈ l, c.ok := by
  obtain ⟨l, rfl, h1, h2⟩ := h.row_of (te := T_Wake) rfl
  obtain ⟨m, rfl, h3⟩ := of_all (e := eW) (P := Wk.ok) fun x hx => wfW (h2 x hx)
  have e : LM T_Wake = 3518437208780 := by kernel_rfl
  rw [e, List.length_map] at h1
  exact ⟨m, rfl, h1, h3⟩
theorem wfYs {d : D} (h : Wf d T_Symbols) : ∃ l : List Sy, d = .r (l.map eY) ∧ l.length ≤ 5864062014634 ∧ ∀ c ∈ l, c.ok := by
  obtain ⟨l, rfl, h1, h2⟩ := h.row_of (te := T_Symbol) rfl
  obtain ⟨m, rfl, h3⟩ := of_all (e := eY) (P := Sy.ok) fun x hx => wfY (h2 x hx)
  have e : LM T_Symbol = 5864062014634 := by kernel_rfl
  rw [e, List.length_map] at h1
  exact ⟨m, rfl, h1, h3⟩
theorem wfS {d : D} (h : Wf d T_Store) : ∃ s, d = eS s ∧ s.ok := by
  obtain ⟨ds, rfl, hl⟩ := h.st_of (fs := [T_Cells, T_Symbols, T_Undos, T_Wakes, .int .i64, .int .i64]) rfl
  obtain ⟨d0, r, rfl, h0, hl⟩ := wfL_cons hl
  obtain ⟨d1, r, rfl, h1, hl⟩ := wfL_cons hl
  obtain ⟨d2, r, rfl, h2, hl⟩ := wfL_cons hl
  obtain ⟨d3, r, rfl, h3, hl⟩ := wfL_cons hl
  obtain ⟨d4, d5, rfl, h4, h5⟩ := wfL2 hl
  obtain ⟨cs, rfl, q0⟩ := wfCs h0
  obtain ⟨ys, rfl, q1⟩ := wfYs h1
  obtain ⟨tr, rfl, q2⟩ := wfUs h2
  obtain ⟨wk, rfl, q3⟩ := wfWs h3
  obtain ⟨x, rfl, q4⟩ := wfI h4
  obtain ⟨y, rfl, q5⟩ := wfI h5
  exact ⟨⟨cs, ys, tr, wk, x, y⟩, rfl, q0, q1, q2, q3, q4, q5⟩
end Go.Proofs.Ytmebmpgffhajbaa


namespace Go.Proofs.Ytmebmpgffhajbaa
end Go.Proofs.Ytmebmpgffhajbaa


namespace Go.Proofs.Ytmebmpgffhajbaa
open Go.RowKit
set_option linter.unusedVariables false
set_option linter.unusedSimpArgs false

def cellAt (s : So) (i : Int) : Ce := s.cs.getD i.toNat default
def inS (s : So) (i : Int) : Bool := decide (0 ≤ i) && decide (i < s.cs.length)
def tagS (s : So) (i : Int) : Int := if inS s i then (cellAt s i).t else -1
def arS (s : So) (n : Int) : Int := if 0 ≤ n ∧ n < s.ys.length then (s.ys.getD n.toNat default).ar else -1
def vcR (s : So) (c : Ce) : Bool := if c.t = 0 then inS s c.n && !decide (tagS s c.n = 4) else if c.t = 1 then true else if c.t = 2 then decide (arS s c.n = 0) else if c.t = 3 then decide (tagS s c.n = 4) else if c.t = 5 then decide (tagS s c.n = 5) else false
def vcP (s : So) (c : Ce) : Bool := if c.t = 0 then decide (0 ≤ tagS s c.n) && !decide (tagS s c.n = 4) else if c.t = 1 then true else if c.t = 2 then decide (arS s c.n = 0) else if c.t = 3 then decide (tagS s c.n = 4) else if c.t = 5 then decide (tagS s c.n = 5) else false
def groupS (s : So) (i : Int) : Bool := decide (tagS s (i + 1) = 1) && (decide (1 ≤ (cellAt s (i + 1)).n) && (decide ((cellAt s (i + 1)).n ≤ s.ser) && (decide (0 ≤ tagS s (i + 2)) && (!decide (tagS s (i + 2) = 4) && !decide (tagS s (i + 2) = 5)))))

def gSIi (f : So → Int → Int) : List D → Option (List D)
  | [s, i] => some [.i (f (dS s) i.int)]
  | _ => none
def gSIb (f : So → Int → Bool) : List D → Option (List D)
  | [s, i] => some [.b (f (dS s) i.int)]
  | _ => none
def gSIbP (q : So → Int → Bool) (f : So → Int → Bool) : List D → Option (List D)
  | [s, i] => if q (dS s) i.int then some [.b (f (dS s) i.int)] else none
  | _ => none
def gSCb (f : So → Ce → Bool) : List D → Option (List D)
  | [s, c] => some [.b (f (dS s) (dC c))]
  | _ => none
def gSUb (f : So → Un → Bool) : List D → Option (List D)
  | [s, c] => some [.b (f (dS s) (dU c))]
  | _ => none
def gSb (f : So → Bool) : List D → Option (List D)
  | [s] => some [.b (f (dS s))]
  | _ => none
def gSbP (q : So → Bool) (f : So → Bool) : List D → Option (List D)
  | [s] => if q (dS s) then some [.b (f (dS s))] else none
  | _ => none

theorem inS_iff {s : So} {i : Int} : inS s i = true ↔ 0 ≤ i ∧ i < s.cs.length := by simp [inS]
theorem cell_get {s : So} {i : Int} (h : inS s i = true) : (D.r (s.cs.map eC)).get i = eC (cellAt s i) := get_r eC (inS_iff.1 h).1 (inS_iff.1 h).2
theorem So.ok.cell {s : So} (hs : s.ok) {i : Int} (h : inS s i = true) : (cellAt s i).ok := hs.cs.2 _ (getD_mem (by have := inS_iff.1 h; omega))
theorem tagS_in {s : So} {i : Int} (h : inS s i = true) : tagS s i = (cellAt s i).t := if_pos h
theorem tagS_out {s : So} {i : Int} (h : inS s i = false) : tagS s i = -1 := if_neg (by rw [h]; decide)

theorem q2q : FOk q0a (gSIi tagS) := fok_cells_tag fun ds outs hw hg => by
  obtain ⟨d, r, rfl, hd, e, r', rfl, he, rfl⟩ := hw
  obtain ⟨s, rfl, hs⟩ := wfS hd
  obtain ⟨i, rfl, hi⟩ := wfI he
  simp only [gSIi, dS_eS, int_i, Option.some.injEq] at hg
  subst hg
  simp only [q1w, Tree.go, allSay, X.says, X.ev, X.evs, evl, tblS, List.getD_cons_zero, List.getD_cons_succ, List.getElem?_cons_zero, List.getElem?_cons_succ, tt_b, int_i, str_s, rs_r, Option.isSome_some, Option.getD_some, decide_eq_true_eq, decide_eq_false_iff_not, dS_eS, dC_eC, dU_eU, dW_eW, dY_eY, eC_0, eC_1, eU_0, eU_1, eW_0, eW_1, eW_2, eY_0, eY_1, eS_0, eS_1, eS_2, eS_3, eS_4, eS_5, List.length_map, i_inj, b_inj, s_inj, eC_eq, eU_eq, eW_eq, eY_eq, eS_eq, rng64, List.take_succ_cons, List.take_zero, List.nil_append, List.cons_append, decide_true, decide_false, Bool.or_true, true_and, and_true, true_and]
  cases h : inS s i with
  | false =>
    have h' : ¬ (0 ≤ i ∧ i < s.cs.length) := fun q => by rw [inS_iff.2 q] at h; cases h
    have h2 : i < 0 ∨ (s.cs.length : Int) ≤ i := by omega
    simp [tagS_out h]
    omega
  | true =>
    have h' := inS_iff.1 h
    have h1 : ¬ i < 0 := by omega
    have h2 : ¬ (s.cs.length : Int) ≤ i := by omega
    simp [cell_get h, eC_0, tagS_in h, h', h1, h2]
theorem ar_get {s : So} {i : Int} (h : 0 ≤ i ∧ i < s.ys.length) : (D.r (s.ys.map eY)).get i = eY (s.ys.getD i.toNat default) := get_r eY h.1 h.2
theorem ok_cells_arity : FOk q0h (gSIi arS) := fok_cells_arity fun ds outs hw hg => by
  obtain ⟨d, r, rfl, hd, e, r', rfl, he, rfl⟩ := hw
  obtain ⟨s, rfl, hs⟩ := wfS hd
  obtain ⟨i, rfl, hi⟩ := wfI he
  simp only [gSIi, dS_eS, int_i, Option.some.injEq] at hg
  subst hg
  simp only [q1o, Tree.go, allSay, X.says, X.ev, X.evs, evl, tblS, List.getD_cons_zero, List.getD_cons_succ, List.getElem?_cons_zero, List.getElem?_cons_succ, tt_b, int_i, str_s, rs_r, Option.isSome_some, Option.getD_some, decide_eq_true_eq, decide_eq_false_iff_not, dS_eS, dC_eC, dU_eU, dW_eW, dY_eY, eC_0, eC_1, eU_0, eU_1, eW_0, eW_1, eW_2, eY_0, eY_1, eS_0, eS_1, eS_2, eS_3, eS_4, eS_5, List.length_map, i_inj, b_inj, s_inj, eC_eq, eU_eq, eW_eq, eY_eq, eS_eq, rng64, List.take_succ_cons, List.take_zero, List.nil_append, List.cons_append, decide_true, decide_false, Bool.or_true, true_and, and_true, true_and]
  by_cases h : 0 ≤ i ∧ i < s.ys.length
  · have h1 : ¬ i < 0 := by omega
    have h2 : ¬ (s.ys.length : Int) ≤ i := by omega
    simp [ar_get h, eY_1, arS, h, h1, h2]
  · simp [arS, h]
theorem q1k : FOk q06 (gSCb vcP) := q2u ok_cells_arity q2q fun ds outs hw hg => by
  obtain ⟨d, r, rfl, hd, e, r', rfl, he, rfl⟩ := hw
  obtain ⟨s, rfl, hs⟩ := wfS hd
  obtain ⟨c, rfl, hc⟩ := wfC he
  simp only [gSCb, dS_eS, dC_eC, Option.some.injEq] at hg
  subst hg
  simp only [q1i, Tree.go, allSay, X.says, X.ev, X.evs, evl, tblS, List.getD_cons_zero, List.getD_cons_succ, List.getElem?_cons_zero, List.getElem?_cons_succ, tt_b, int_i, str_s, rs_r, Option.isSome_some, Option.getD_some, decide_eq_true_eq, decide_eq_false_iff_not, dS_eS, dC_eC, dU_eU, dW_eW, dY_eY, eC_0, eC_1, eU_0, eU_1, eW_0, eW_1, eW_2, eY_0, eY_1, eS_0, eS_1, eS_2, eS_3, eS_4, eS_5, List.length_map, i_inj, b_inj, s_inj, eC_eq, eU_eq, eW_eq, eY_eq, eS_eq, rng64, List.take_succ_cons, List.take_zero, List.nil_append, List.cons_append, decide_true, decide_false, Bool.or_true, true_and, and_true, gSIi, vcP, true_and]
  by_cases h0 : c.t = 0
  · simp [h0]
  · by_cases h1 : c.t = 1
    · simp [h1]
    · by_cases h2 : c.t = 2
      · simp [h2]
      · by_cases h3 : c.t = 3
        · simp [h3]
        · by_cases h5 : c.t = 5
          · simp [h5]
          · simp [h0, h1, h2, h3, h5]
theorem tag_in {s : So} {i : Int} (h : tagS s i = 1) : inS s i = true := by
  cases hi : inS s i with
  | true => rfl
  | false => rw [tagS_out hi] at h; cases h
theorem ok_cells_group : FOk q0g (gSIbP inS groupS) := fok_cells_group q2q fun ds outs hw hg => by
  obtain ⟨d, r, rfl, hd, e, r', rfl, he, rfl⟩ := hw
  obtain ⟨s, rfl, hs⟩ := wfS hd
  obtain ⟨i, rfl, hi⟩ := wfI he
  simp only [gSIbP, dS_eS, int_i, Option.ite_none_right_eq_some, Option.some.injEq] at hg
  obtain ⟨hin, rfl⟩ := hg
  have h1 := inS_iff.1 hin
  have hl := hs.cs.1
  have r1 : i64 (i + 1) := ⟨by omega, by omega⟩
  have r2 : i64 (i + 2) := ⟨by omega, by omega⟩
  simp only [q1n, Tree.go, allSay, X.says, X.ev, X.evs, evl, tblS, List.getD_cons_zero, List.getD_cons_succ, List.getElem?_cons_zero, List.getElem?_cons_succ, tt_b, int_i, str_s, rs_r, Option.isSome_some, Option.getD_some, decide_eq_true_eq, decide_eq_false_iff_not, dS_eS, dC_eC, dU_eU, dW_eW, dY_eY, eC_0, eC_1, eU_0, eU_1, eW_0, eW_1, eW_2, eY_0, eY_1, eS_0, eS_1, eS_2, eS_3, eS_4, eS_5, List.length_map, i_inj, b_inj, s_inj, eC_eq, eU_eq, eW_eq, eY_eq, eS_eq, rng64, List.take_succ_cons, List.take_zero, List.nil_append, List.cons_append, decide_true, decide_false, Bool.or_true, true_and, and_true, gSIi, true_and, groupS, r1, r2]
  by_cases ht : tagS s (i + 1) = 1
  · have h2 := tag_in ht
    have h3 := inS_iff.1 h2
    simp [ht, cell_get h2, eC_1, h3.1, h3.2, int_i, Bool.and_assoc, rng64, r1.1, r1.2]
  · simp [ht]
end Go.Proofs.Ytmebmpgffhajbaa


namespace Go.Proofs.Ytmebmpgffhajbaa
open Go.RowKit
set_option linter.unusedVariables false
set_option linter.unusedSimpArgs false

theorem mfind_mset {k k' v : D} : ∀ {l : List D}, mfind k (mset k' v l) = if k' = k then some v else mfind k l
  | [] => by simp [mset, mfind, D.fld, D.fs]
  | p :: l => by
    unfold mset
    split
    · rename_i h
      by_cases hk : k' = k
      · simp [mfind, D.fld, D.fs, hk]
      · have : ¬ (p.fld 0 = k) := fun e => hk (h.symm.trans e)
        simp [mfind, D.fld, D.fs, hk, this]
        intro e
        exact absurd e this
    · rename_i h
      unfold mfind
      by_cases hk : p.fld 0 = k
      · have : ¬ (k' = k) := fun e => h (hk.trans e.symm)
        simp [hk, this]
      · simp only [if_neg hk]
        exact mfind_mset

def okY (y : Sy) : Bool := decide (y.name.size ≤ 100) && (decide (0 ≤ y.ar) && decide (y.ar ≤ 8))
def symAt (l : List Sy) (k : Nat) : Bool := okY (l.getD k default) && !decide (l.getD k default ∈ l.take k)
def symsB (l : List Sy) : Bool := decide (l.length ≤ 1048576) && (List.range l.length).all (symAt l)
def gYsb (f : List Sy → Bool) : List D → Option (List D)
  | [l] => some [.b (f (l.rs.map dY))]
  | _ => none

def Seen (x : D) (l : List Sy) (k : Nat) (L : List D) : Prop := ∀ y, mfind (eY y) L = if y ∈ l.take k then some x else none
theorem Seen.nil {x : D} {l : List Sy} : Seen x l 0 [] := fun y => by simp [mfind]
theorem Seen.put {x : D} {l : List Sy} {k : Nat} {L : List D} (h : Seen x l k L) (hk : k < l.length) : Seen x l (k + 1) (mset (eY (l.getD k default)) x L) := fun y => by
  rw [mfind_mset, take_snoc hk, h y]
  generalize l.getD k default = z
  by_cases hy : y = z
  · subst hy; simp
  · have : ¬ (z = y) := fun e => hy e.symm
    simp [eY_eq, this, hy]

theorem ok_cells_validSymbols : FOk q0d (gYsb symsB) := q26 fun ds outs hw hg => by
  obtain ⟨d, r, rfl, hd, rfl⟩ := hw
  obtain ⟨l, rfl, hl, hok⟩ := wfYs hd
  simp only [gYsb, rs_r, map_id' dY_eY, Option.some.injEq] at hg
  subst hg
  simp only [q1d, Tree.go, allSay, X.says, X.ev, X.evs, evl, tblS, List.getD_cons_zero, List.getD_cons_succ, List.getElem?_cons_zero, List.getElem?_cons_succ, tt_b, int_i, str_s, rs_r, Option.isSome_some, Option.getD_some, decide_eq_true_eq, decide_eq_false_iff_not, dS_eS, dC_eC, dU_eU, dW_eW, dY_eY, eC_0, eC_1, eU_0, eU_1, eW_0, eW_1, eW_2, eY_0, eY_1, eS_0, eS_1, eS_2, eS_3, eS_4, eS_5, List.length_map, i_inj, b_inj, s_inj, eC_eq, eU_eq, eW_eq, eY_eq, eS_eq, rng64, List.take_succ_cons, List.take_zero, List.nil_append, List.cons_append, decide_true, decide_false, Bool.or_true, true_and, and_true, symsB]
  refine ⟨fun h => ?_, fun h => ?_⟩
  · have : ¬ (l.length ≤ 1048576) := by omega
    simp [this]
  · have h0 : l.length ≤ 1048576 := by omega
    refine ⟨fun st => ∃ (k : Nat) (L : List D), k ≤ l.length ∧ st = [.b false, .i k, .mp L] ∧ (∀ j, j < k → symAt l j = true) ∧ Seen (.b true) l k L, fun st => l.length - (st.getD 1 .u).int.toNat, ⟨0, [], Nat.zero_le _, rfl, (fun j hj => absurd hj (Nat.not_lt_zero _)), Seen.nil⟩, ?_⟩
    rintro st - ⟨k, L, hk, rfl, hP, hL⟩
    simp only [Tree.go, allSay, X.says, X.ev, X.evs, evl, tblS, List.getD_cons_zero, List.getD_cons_succ, List.getElem?_cons_zero, List.getElem?_cons_succ, tt_b, int_i, str_s, rs_r, Option.isSome_some, Option.getD_some, decide_eq_true_eq, decide_eq_false_iff_not, dS_eS, dC_eC, dU_eU, dW_eW, dY_eY, eC_0, eC_1, eU_0, eU_1, eW_0, eW_1, eW_2, eY_0, eY_1, eS_0, eS_1, eS_2, eS_3, eS_4, eS_5, List.length_map, i_inj, b_inj, s_inj, eC_eq, eU_eq, eW_eq, eY_eq, eS_eq, rng64, List.take_succ_cons, List.take_zero, List.nil_append, List.cons_append, decide_true, decide_false, Bool.or_true, true_and, and_true]
    refine ⟨fun hlt => ?_, fun hlt => ?_⟩
    · have hkl : k < l.length := by omega
      have hp : (0 : Int) ≤ k := by omega
      simp only [hlt, hp, get_n eY hkl, eY_0, eY_1, str_s, int_i, true_and, Bool.or_true, decide_true, and_true, Int.toNat_natCast, fnD, ms_mp, hL (l.getD k default)]
      have hr : i64 ((k : Int) + 1) := ⟨by omega, by omega⟩
      have e : ((if l.getD k default ∈ l.take k then some (D.b true) else none).getD (.b false)).tt = decide (l.getD k default ∈ l.take k) := by
        by_cases hm : l.getD k default ∈ l.take k
        · rw [if_pos hm, decide_eq_true hm]; rfl
        · rw [if_neg hm, decide_eq_false hm]; rfl
      rw [e]
      refine ⟨fun hb => ?_, fun hb => ⟨hr, ?_⟩⟩
      · have : symAt l k = false := by
          simp only [symAt, okY]
          generalize l.getD k default = z at hb ⊢
          by_cases hm : z ∈ l.take k
          · simp [hm]
          · simp [hm] at hb ⊢
            intro h1 h2
            omega
        rw [all_not hkl this]
        simp
      · have hs : symAt l k = true := by
          simp only [symAt, okY]
          generalize l.getD k default = z at hb ⊢
          by_cases hm : z ∈ l.take k
          · simp [hm] at hb
          · simp [hm] at hb ⊢
            omega
        rw [updB, if_pos rfl]
        refine ⟨⟨k + 1, _, hkl, ?_, upto_succ hP hs, hL.put hkl⟩, ?_⟩
        · simp
        · simp [D.int]
          omega
    · have : k = l.length := by omega
      subst this
      rw [all_yes hP]
      simp [h0]
end Go.Proofs.Ytmebmpgffhajbaa


namespace Go.Proofs.Ytmebmpgffhajbaa
open Go.RowKit
set_option linter.unusedVariables false
set_option linter.unusedSimpArgs false

theorem symsB_ar {s : So} (h : symsB s.ys = true) (n : Int) : -1 ≤ arS s n ∧ arS s n ≤ 8 := by
  unfold arS
  split
  · rename_i hn
    simp only [symsB, Bool.and_eq_true] at h
    have := all_of h.2 (k := n.toNat) (by omega)
    simp only [symAt, okY, Bool.and_eq_true, decide_eq_true_eq] at this
    omega
  · omega
def endsN (s : So) : Nat → Int → Bool
  | 0, _ => false
  | k + 1, n => if tagS s n = 0 ∧ ¬ (cellAt s n).n = n then endsN s k (cellAt s n).n else true
def endsB (s : So) (n : Int) : Bool := endsN s (s.cs.length + 1) n

theorem tag_in' {s : So} {i : Int} {t : Int} (ht : t ≠ -1) (h : tagS s i = t) : inS s i = true := by
  cases hi : inS s i with
  | true => rfl
  | false => rw [tagS_out hi] at h; exact absurd h.symm ht

def cellR (s : So) (i : Int) : Bool :=
  if (cellAt s i).t = 4 then decide (1 ≤ arS s (cellAt s i).n) && (inS s (i + arS s (cellAt s i).n) && (List.range (arS s (cellAt s i).n).toNat).all fun j => !decide (tagS s (i + ((j : Int) + 1)) = 4))
  else vcR s (cellAt s i) && (endsB s i && (!decide ((cellAt s i).t = 5) || (decide ((cellAt s i).n = i) && groupS s i)))
def cellQ (s : So) (i : Int) : Bool := inS s i && symsB s.ys

def fitsP (s : So) (i : Int) : Bool :=
  if (cellAt s i).t = 4 then decide (1 ≤ arS s (cellAt s i).n) && (List.range (arS s (cellAt s i).n).toNat).all fun j => decide (0 ≤ tagS s (i + ((j : Int) + 1))) && !decide (tagS s (i + ((j : Int) + 1)) = 4)
  else if (cellAt s i).t = 5 then decide ((cellAt s i).n = i) && groupS s i else vcP s (cellAt s i)
theorem ok_cells_fits : FOk q0z (gSIbP cellQ fitsP) := fok_cells_fits ok_cells_arity q2q ok_cells_group q1k fun ds outs hw hg => by
  obtain ⟨d, r, rfl, hd, e, r', rfl, he, rfl⟩ := hw
  obtain ⟨s, rfl, hs⟩ := wfS hd
  obtain ⟨i, rfl, hi⟩ := wfI he
  simp only [gSIbP, dS_eS, int_i, Option.ite_none_right_eq_some, Option.some.injEq, cellQ, Bool.and_eq_true] at hg
  obtain ⟨⟨hin, hy⟩, rfl⟩ := hg
  have h1 := inS_iff.1 hin
  have hl := hs.cs.1
  obtain ⟨ha, hb⟩ := symsB_ar hy (cellAt s i).n
  simp only [q1q, Tree.go, allSay, X.says, X.ev, X.evs, evl, tblS, List.getD_cons_zero, List.getD_cons_succ, List.getElem?_cons_zero, List.getElem?_cons_succ, tt_b, int_i, str_s, rs_r, Option.isSome_some, Option.getD_some, decide_eq_true_eq, decide_eq_false_iff_not, dS_eS, dC_eC, dU_eU, dW_eW, dY_eY, eC_0, eC_1, eU_0, eU_1, eW_0, eW_1, eW_2, eY_0, eY_1, eS_0, eS_1, eS_2, eS_3, eS_4, eS_5, List.length_map, i_inj, b_inj, s_inj, eC_eq, eU_eq, eW_eq, eY_eq, eS_eq, rng64, List.take_succ_cons, List.take_zero, List.nil_append, List.cons_append, decide_true, decide_false, Bool.or_true, true_and, and_true, gSIi, gSIb, gSCb, gSIbP, cell_get hin, h1.1, h1.2, hin, if_true]
  unfold fitsP
  generalize arS s (cellAt s i).n = K at ha hb ⊢
  refine ⟨fun h4 => ?_, fun h4 => ?_⟩
  · have hr : i64 (i + K) := ⟨by omega, by omega⟩
    have hr1 : i64 (i + 1) := ⟨by omega, by omega⟩
    simp only [h4, hr, hr1, if_true]
    refine ⟨fun hx => ?_, fun hx => ⟨⟨trivial, trivial⟩, ?_⟩⟩
    · have : ¬ (1 ≤ K) := by omega
      simp [this]
    · have hk : 1 ≤ K := by omega
      simp only [hk]
      refine ⟨fun st => ∃ (j : Nat), (j : Int) ≤ K ∧ st = [.b false, .i (i + ((j : Int) + 1))] ∧ ∀ m : Nat, m < j → (decide (0 ≤ tagS s (i + ((m : Int) + 1))) && !decide (tagS s (i + ((m : Int) + 1)) = 4)) = true, fun st => (i + K + 1 - (st.getD 1 .u).int).toNat, ⟨0, by omega, by simp, fun m hm => absurd hm (Nat.not_lt_zero _)⟩, ?_⟩
      rintro st - ⟨j, hj, rfl, hP⟩
      simp only [Tree.go, allSay, X.says, X.ev, X.evs, evl, tblS, List.getD_cons_zero, List.getD_cons_succ, List.getElem?_cons_zero, List.getElem?_cons_succ, tt_b, int_i, str_s, rs_r, Option.isSome_some, Option.getD_some, decide_eq_true_eq, decide_eq_false_iff_not, dS_eS, dC_eC, dU_eU, dW_eW, dY_eY, eC_0, eC_1, eU_0, eU_1, eW_0, eW_1, eW_2, eY_0, eY_1, eS_0, eS_1, eS_2, eS_3, eS_4, eS_5, List.length_map, i_inj, b_inj, s_inj, eC_eq, eU_eq, eW_eq, eY_eq, eS_eq, rng64, List.take_succ_cons, List.take_zero, List.nil_append, List.cons_append, decide_true, decide_false, Bool.or_true, true_and, and_true, gSIi]
      refine ⟨fun hlt => ?_, fun hlt => ?_⟩
      · have hr3 : i64 ((i + ((j : Int) + 1)) + 1) := ⟨by omega, by omega⟩
        refine ⟨fun hx => ?_, fun hx => ⟨hr3, ?_⟩⟩
        · have hx' : tagS s (i + ((j : Int) + 1)) < 0 ∨ tagS s (i + ((j : Int) + 1)) = 4 := by simpa using hx
          rw [all_not (k := j) (by omega)]
          · simp
          · rcases hx' with h | h
            · have : ¬ (0 ≤ tagS s (i + ((j : Int) + 1))) := by omega
              simp [this]
            · simp [h]
        · have hx' : ¬ tagS s (i + ((j : Int) + 1)) < 0 ∧ ¬ tagS s (i + ((j : Int) + 1)) = 4 := by simpa using hx
          rw [updB, if_pos rfl]
          refine ⟨⟨j + 1, by omega, by simp; omega, upto_succ hP (by simp [hx'.2]; omega)⟩, ?_⟩
          simp [D.int]
          omega
      · have : j = K.toNat := by omega
        subst this
        rw [all_yes hP]
        simp
  · simp only [h4, if_false]
    refine ⟨fun hx => ?_, fun hx => ?_⟩
    · simp [hx]
    · simp [hx]

def oldB (vc : So → Ce → Bool) (rg : So → Int → Bool) (s : So) (u : Un) : Bool :=
  rg s u.at' && if u.old.t = 0 then decide (u.old.n = u.at') else if u.old.t = 5 then decide (u.old.n = u.at') && (groupS s u.at' && !decide (tagS s (u.at' - 1) = 5)) else if u.old.t = 1 ∨ u.old.t = 2 ∨ u.old.t = 3 then vc s u.old else false
def oldR : So → Un → Bool := oldB vcR inS
def oldP : So → Un → Bool := oldB vcP fun s i => decide (0 ≤ tagS s i)
theorem ok_cells_validUndo : FOk q0f (gSUb oldP) := q2r q2q ok_cells_group q1k fun ds outs hw hg => by
  obtain ⟨d, r, rfl, hd, e, r', rfl, he, rfl⟩ := hw
  obtain ⟨s, rfl, hs⟩ := wfS hd
  obtain ⟨u, rfl, hu⟩ := wfU he
  simp only [gSUb, dS_eS, dU_eU, Option.some.injEq] at hg
  subst hg
  have hl := hs.cs.1
  simp only [q1h, Tree.go, allSay, X.says, X.ev, X.evs, evl, tblS, List.getD_cons_zero, List.getD_cons_succ, List.getElem?_cons_zero, List.getElem?_cons_succ, tt_b, int_i, str_s, rs_r, Option.isSome_some, Option.getD_some, decide_eq_true_eq, decide_eq_false_iff_not, dS_eS, dC_eC, dU_eU, dW_eW, dY_eY, eC_0, eC_1, eU_0, eU_1, eW_0, eW_1, eW_2, eY_0, eY_1, eS_0, eS_1, eS_2, eS_3, eS_4, eS_5, List.length_map, i_inj, b_inj, s_inj, eC_eq, eU_eq, eW_eq, eY_eq, eS_eq, rng64, List.take_succ_cons, List.take_zero, List.nil_append, List.cons_append, decide_true, decide_false, Bool.or_true, true_and, and_true, gSIi, gSIb, gSCb, gSIbP, oldP, oldB]
  by_cases ht : 0 ≤ tagS s u.at'
  · have ht' : ¬ (tagS s u.at' < 0) := by omega
    have hin : inS s u.at' = true := by
      cases hin : inS s u.at' with
      | true => rfl
      | false => rw [tagS_out hin] at ht; omega
    have h1 := inS_iff.1 hin
    have hr : i64 (u.at' - 1) := ⟨by omega, by omega⟩
    simp only [hr, hin, ht, ht', if_true]
    by_cases h0 : u.old.t = 0
    · simp [h0]
    · by_cases h5 : u.old.t = 5
      · simp [h5, Bool.and_assoc, tt_b, rng64, hr.1, hr.2]
      · by_cases h2 : u.old.t = 1
        · simp [h2]
        · by_cases h3 : u.old.t = 2
          · simp [h3]
          · by_cases h4 : u.old.t = 3
            · simp [h4]
            · simp [h0, h5, h2, h3, h4]
  · have ht' : tagS s u.at' < 0 := by omega
    simp [ht, ht']
end Go.Proofs.Ytmebmpgffhajbaa


namespace Go.Proofs.Ytmebmpgffhajbaa
open Go.RowKit
set_option linter.unusedVariables false
set_option linter.unusedSimpArgs false

section
variable {s : So}

def Ns (s : So) (n : Int) : Prop := tagS s n = 0 ∧ ¬ (cellAt s n).n = n
abbrev nx (s : So) (n : Int) : Int := (cellAt s n).n
theorem endsN_ns {k : Nat} {n : Int} (h : Ns s n) : endsN s (k + 1) n = endsN s k (nx s n) := if_pos h
theorem endsN_st {k : Nat} {n : Int} (h : ¬ Ns s n) : endsN s (k + 1) n = true := if_neg h
theorem Ns.inS {n : Int} (h : Ns s n) : inS s n = true := tag_in' (by decide) h.1
theorem endsN_up {k : Nat} : ∀ {n : Int}, endsN s k n = true → endsN s (k + 1) n = true := by
  induction k with
  | zero => intro n h; cases h
  | succ k ih =>
    intro n h
    by_cases hn : Ns s n
    · rw [endsN_ns hn] at h ⊢
      exact ih h
    · exact endsN_st hn
theorem endsN_le {k j : Nat} (hk : k ≤ j) {n : Int} (h : endsN s k n = true) : endsN s j n = true := by
  obtain ⟨d, rfl⟩ := Nat.exists_eq_add_of_le hk
  clear hk
  induction d with
  | zero => exact h
  | succ d ih => exact endsN_up ih
def En (s : So) (n : Int) : Prop := ∃ k, endsN s k n = true
theorem En.st {n : Int} (h : ¬ Ns s n) : En s n := ⟨1, endsN_st h⟩
theorem En.ns {n : Int} (h : Ns s n) (he : En s (nx s n)) : En s n := let ⟨k, hk⟩ := he; ⟨k + 1, (endsN_ns h).trans hk⟩

theorem nodup_lt : ∀ (n : Nat) (l : List Nat), l.Nodup → (∀ x ∈ l, x < n) → l.length ≤ n
  | 0, [], _, _ => Nat.le_refl _
  | 0, x :: l, _, h => absurd (h x List.mem_cons_self) (Nat.not_lt_zero _)
  | n + 1, l, hn, h => by
    have h1 := nodup_lt n (l.erase n) (hn.erase n) fun x hx => by
      have h2 := (hn.mem_erase_iff).1 hx
      have := h x h2.2
      have := h2.1
      omega
    have h2 := List.length_erase (a := n) (l := l)
    split at h2 <;> omega

theorem rank_list : ∀ (k : Nat) (n : Int), endsN s (k + 1) n = true → endsN s k n = false → ∃ l : List Int, l.length = k ∧ l.Nodup ∧ (∀ x ∈ l, inS s x = true) ∧ ∀ x ∈ l, ∃ j, j ≤ k ∧ endsN s (j + 1) x = true
  | 0, n, _, _ => ⟨[], rfl, List.nodup_nil, (fun x hx => by cases hx), fun x hx => by cases hx⟩
  | k + 1, n, h1, h2 => by
    have hn : Ns s n := Classical.byContradiction fun hn => by rw [endsN_st hn] at h2; cases h2
    rw [endsN_ns hn] at h1 h2
    obtain ⟨l, e1, e2, e3, e4⟩ := rank_list k _ h1 h2
    refine ⟨n :: l, by simp [e1], ?_, fun x hx => ?_, fun x hx => ?_⟩
    · refine List.nodup_cons.2 ⟨fun hm => ?_, e2⟩
      obtain ⟨j, hj, he⟩ := e4 n hm
      rw [endsN_ns hn] at he
      rw [endsN_le hj he] at h2
      cases h2
    · rcases List.mem_cons.1 hx with rfl | hx
      · exact hn.inS
      · exact e3 x hx
    · rcases List.mem_cons.1 hx with rfl | hx
      · exact ⟨k + 1, Nat.le_refl _, by rw [endsN_ns hn]; exact h1⟩
      · obtain ⟨j, hj, he⟩ := e4 x hx
        exact ⟨j, by omega, he⟩
theorem En.ends {n : Int} (h : En s n) : endsB s n = true := by
  obtain ⟨k, hk⟩ := h
  induction k with
  | zero => cases hk
  | succ k ih =>
    cases hk' : endsN s k n with
    | true => exact ih hk'
    | false =>
      obtain ⟨l, e1, e2, e3, -⟩ := rank_list k n hk hk'
      have h1 := nodup_lt s.cs.length (l.map Int.toNat) ?_ ?_
      · rw [List.length_map, e1] at h1
        exact endsN_le (by omega) hk
      · refine List.Pairwise.map _ (fun a b h => h) ?_
        refine List.Pairwise.imp_of_mem (R := fun a b => a ≠ b) (fun {a b} ha hb hab e => hab ?_) e2
        have h1 := inS_iff.1 (e3 a ha)
        have h2 := inS_iff.1 (e3 b hb)
        omega
      · intro x hx
        obtain ⟨a, ha, rfl⟩ := List.mem_map.1 hx
        have h1 := inS_iff.1 (e3 a ha)
        omega

def Ch (s : So) : List Int → Int → Prop
  | [], _ => True
  | q :: l, a => Ns s q ∧ nx s q = l.headD a ∧ Ch s l a
theorem Ch.snoc : ∀ {l : List Int} {a b : Int}, Ch s l a → Ns s a → nx s a = b → Ch s (l ++ [a]) b
  | [], a, b, _, h1, h2 => ⟨h1, h2, trivial⟩
  | q :: l, a, b, ⟨g1, g2, g3⟩, h1, h2 => ⟨g1, by cases l <;> exact g2, Ch.snoc g3 h1 h2⟩
theorem Ch.en : ∀ {l : List Int} {a : Int}, Ch s l a → En s a → ∀ q ∈ l, En s q
  | [], a, _, _, q, hq => by cases hq
  | q :: l, a, ⟨g1, g2, g3⟩, he, x, hx => by
    have ih := Ch.en g3 he
    rcases List.mem_cons.1 hx with rfl | hx
    · refine En.ns g1 ?_
      rw [g2]
      cases l with
      | nil => exact he
      | cons y l => exact ih y List.mem_cons_self
    · exact ih x hx
theorem Ch.next : ∀ {l : List Int} {a : Int}, Ch s l a → ∀ q ∈ l, Ns s q ∧ (nx s q ∈ l ∨ nx s q = a)
  | [], a, _, q, hq => by cases hq
  | q :: l, a, ⟨g1, g2, g3⟩, x, hx => by
    rcases List.mem_cons.1 hx with rfl | hx
    · refine ⟨g1, ?_⟩
      rw [g2]
      cases l with
      | nil => exact .inr rfl
      | cons y l => exact .inl (by simp)
    · obtain ⟨h1, h2⟩ := Ch.next g3 x hx
      exact ⟨h1, h2.imp (List.mem_cons_of_mem _) id⟩
theorem closed_no {Q : List Int} (h : ∀ q ∈ Q, Ns s q ∧ nx s q ∈ Q) : ∀ (k : Nat) (q : Int), q ∈ Q → endsN s k q = false
  | 0, q, _ => rfl
  | k + 1, q, hq => by
    rw [endsN_ns (h q hq).1]
    exact closed_no h k _ (h q hq).2

def acyP (s : So) : Bool := (List.range s.cs.length).all fun i => endsB s (i : Nat)
def acyQ (s : So) : Bool := decide (s.cs.length ≤ 16777216) && (List.range s.cs.length).all fun i => !decide ((cellAt s (i : Nat)).t = 0) || inS s (cellAt s (i : Nat)).n

structure Mk0 (s : So) (m : List Int) : Prop where
  len : m.length = s.cs.length
  en : ∀ j : Nat, m.getD j 0 = 2 → En s j
theorem marks_get {m : List Int} {i : Int} (h0 : 0 ≤ i) (h : i < m.length) : (D.r (m.map D.i)).get i = .i (m.getD i.toNat 0) := by
  have : i.toNat < m.length := by omega
  simp [D.get, D.rs, List.getD_eq_getElem?_getD, this]
theorem marks_set {m : List Int} {k : Nat} {x : Int} : (m.map D.i).set k (.i x) = (m.set k x).map D.i := by simp
theorem getD_set {m : List Int} {k j : Nat} {x : Int} (hk : k < m.length) : (m.set k x).getD j 0 = if k = j then x else m.getD j 0 := by
  simp only [List.getD_eq_getElem?_getD, List.getElem?_set, hk]
  split <;> simp_all
end
end Go.Proofs.Ytmebmpgffhajbaa


namespace Go.Proofs.Ytmebmpgffhajbaa
open Go.RowKit
set_option linter.unusedVariables false
set_option linter.unusedSimpArgs false

def markT (P M : X) : Tree := .loop 16 8 [(.lit (.i 0)), M] (.br (.lt (.tok 8) (.len P)) (.need [(.le (.lit (.i 0)) (.tok 8)), (.lt (.tok 8) (.len P))] (.need [(.le (.lit (.i 0)) (.get P (.tok 8))), (.lt (.get P (.tok 8)) (.len (.tok 9)))] (.need [(.rng .i64 (.add (.tok 8) (.lit (.i 1))))] (.back 16 [(.add (.tok 8) (.lit (.i 1))), (.put (.tok 9) (.get P (.tok 8)) (.lit (.i 2)))])))) (.need [(.rng .i64 (.add (.tok 2) (.lit (.i 1))))] (.back 3 [(.tok 6), (.add (.tok 2) (.lit (.i 1))), (.tok 9)])))

theorem take_mem_snoc {l : List Int} {k : Nat} (h : k < l.length) (x : Int) : x ∈ l.take (k + 1) ↔ x ∈ l.take k ∨ x = l.getD k default := by
  rw [take_snoc h]
  simp

theorem mark_ok {S : Nat → List D → Option (List D)} {R : List D → Prop} {L : List D} {B : Nat → List D → Prop} {P M : X} {l m : List Int} {i : Nat} (hL : L.length = 8) (hP : ∀ e, P.ev (evl S (L ++ e)) = .r (l.map D.i)) (hM : M.ev (evl S L) = .r (m.map D.i))
    (h2 : L.getD 2 .u = .i i) (hi : i64 ((i : Int) + 1)) (hl : ∀ x ∈ l, 0 ≤ x ∧ x < m.length) (hll : l.length ≤ 16777216)
    (hB : ∀ f : List Int, f.length = m.length → (∀ j : Nat, j < m.length → f.getD j 0 = if (j : Int) ∈ l then 2 else m.getD j 0) → B 3 [L.getD 6 .u, .i ((i : Int) + 1), .r (f.map D.i)]) : (markT P M).go S R L B := by
  unfold markT
  rw [go_loop]
  have hM' : (evl S L) = ⟨fun k => L.getD k .u, S⟩ := rfl
  refine ⟨fun st => ∃ (k : Nat) (f : List Int), k ≤ l.length ∧ st = [.i k, .r (f.map D.i)] ∧ f.length = m.length ∧ ∀ j : Nat, j < m.length → f.getD j 0 = if (j : Int) ∈ l.take k then 2 else m.getD j 0, fun st => l.length - (st.getD 0 .u).int.toNat, ⟨0, m, Nat.zero_le _, by simp [X.evs, X.ev, hM], rfl, fun j _ => by simp⟩, ?_⟩
  rintro st - ⟨k, f, hk, rfl, hfl, hf⟩
  rw [List.take_of_length_le (by omega)]
  have t : ∀ j, j < 8 → (L ++ [D.i k, D.r (f.map D.i)]).getD j .u = L.getD j .u := fun j hj => by
    simp only [List.getD_eq_getElem?_getD]
    rw [List.getElem?_append_left (by omega)]
  have t8 : (L ++ [D.i k, D.r (f.map D.i)]).getD 8 .u = .i k := by
    simp only [List.getD_eq_getElem?_getD]
    rw [List.getElem?_append_right (by omega), hL]
    rfl
  have t9 : (L ++ [D.i k, D.r (f.map D.i)]).getD 9 .u = .r (f.map D.i) := by
    simp only [List.getD_eq_getElem?_getD]
    rw [List.getElem?_append_right (by omega), hL]
    rfl
  have hP' := hP [D.i k, D.r (f.map D.i)]
  have e2 : (L ++ [D.i k, D.r (f.map D.i)]).getD 2 .u = .i i := (t 2 (by omega)).trans h2
  have e6 := t 6 (by omega)
  generalize hg : evl S (L ++ [D.i k, D.r (f.map D.i)]) = g at hP'
  have hE : ∀ n, g.E n = (L ++ [D.i k, D.r (f.map D.i)]).getD n .u := fun n => by rw [← hg]; rfl
  simp only [q00, go_br, q04, allSay, X.says, hg, X.evs, X.ev, hP', hE, t8, t9, e2, e6, int_i, rs_r, tt_b, List.length_map, decide_eq_true_eq, decide_eq_false_iff_not, and_true]
  refine ⟨fun hlt => ?_, fun hlt => ?_⟩
  · have hkl : k < l.length := by omega
    have hm := getD_mem hkl
    have hr := hl _ hm
    have hget : (D.r (l.map D.i)).get (k : Int) = .i (l.getD k default) := get_n D.i hkl
    rw [hget]
    generalize hx : l.getD k default = x at hm hr
    simp only [int_i]
    refine ⟨⟨by omega, hlt⟩, ⟨hr.1, by omega⟩, rng64.2 ⟨by omega, by omega⟩, ?_⟩
    rw [updB, if_pos rfl]
    refine ⟨⟨k + 1, f.set x.toNat 2, hkl, by simp, by simp [hfl], fun j hj => ?_⟩, ?_⟩
    · rw [getD_set (by omega), hf j hj]
      by_cases hjx : x.toNat = j
      · have : (j : Int) ∈ l.take (k + 1) := (take_mem_snoc hkl _).2 (.inr (by omega))
        rw [if_pos hjx, if_pos this]
      · rw [if_neg hjx]
        by_cases hm2 : (j : Int) ∈ l.take k
        · rw [if_pos hm2, if_pos ((take_mem_snoc hkl _).2 (.inl hm2))]
        · rw [if_neg hm2, if_neg fun h => ?_]
          rcases (take_mem_snoc hkl _).1 h with h | h
          · exact hm2 h
          · omega
    · simp [D.int]
      omega
  · have : k = l.length := by omega
    subst this
    refine ⟨rng64.2 hi, ?_⟩
    rw [updB, if_neg (by decide)]
    rw [List.take_length] at hf
    exact hB f hfl hf

instance {s : So} {n : Int} : Decidable (Ns s n) := inferInstanceAs (Decidable (_ ∧ _))

theorem ok_cells_acyclic : FOk q0n (gSbP acyQ acyP) := fok_cells_acyclic fun ds outs hw hg => by
  obtain ⟨d, r, rfl, hd, rfl⟩ := hw
  obtain ⟨s, rfl, hs⟩ := wfS hd
  simp only [gSbP, dS_eS, Option.ite_none_right_eq_some, Option.some.injEq, acyQ, Bool.and_eq_true, decide_eq_true_eq] at hg
  obtain ⟨⟨hlen, hrf⟩, rfl⟩ := hg
  have hrange : ∀ n : Int, Ns s n → inS s (nx s n) = true := fun n hn => by
    have h1 := inS_iff.1 hn.inS
    have h2 := all_of hrf (k := n.toNat) (by omega)
    have e : ((n.toNat : Nat) : Int) = n := by omega
    have h0 : (cellAt s n).t = 0 := by rw [← tagS_in hn.inS]; exact hn.1
    rw [e] at h2
    simpa [h0] using h2
  rw [q1j, q00]
  refine ⟨by simp only [q00, go_br, q02, q04, allSay, X.says, X.ev, X.evs, evl, tblS, List.getD_cons_zero, List.getD_cons_succ, List.getElem?_cons_zero, List.getElem?_cons_succ, tt_b, int_i, str_s, rs_r, Option.isSome_some, Option.getD_some, decide_eq_true_eq, decide_eq_false_iff_not, dS_eS, dC_eC, dU_eU, dW_eW, dY_eY, eC_0, eC_1, eU_0, eU_1, eW_0, eW_1, eW_2, eY_0, eY_1, eS_0, eS_1, eS_2, eS_3, eS_4, eS_5, List.length_map, i_inj, b_inj, s_inj, eC_eq, eU_eq, eW_eq, eY_eq, eS_eq, rng64, List.take_succ_cons, List.take_zero, List.nil_append, List.cons_append, decide_true, decide_false, Bool.or_true, true_and, and_true]; omega, ?_⟩
  rw [go_loop]
  refine ⟨fun st => ∃ (i : Nat) (m : List Int), i ≤ s.cs.length ∧ st = [.b false, .i i, .r (m.map D.i)] ∧ Mk0 s m ∧ (∀ j : Nat, j < s.cs.length → m.getD j 0 = 0 ∨ m.getD j 0 = 2) ∧ ∀ j : Nat, j < i → En s j, fun st => s.cs.length - (st.getD 1 .u).int.toNat,
    ⟨0, List.replicate s.cs.length 0, Nat.zero_le _, by simp [X.evs, X.ev, evl, eS_0, D.int, D.rs], ⟨by simp, fun j hj => ?_⟩, fun j hj => ?_, fun j hj => absurd hj (Nat.not_lt_zero _)⟩, ?_⟩
  · exfalso
    simp only [List.getD_eq_getElem?_getD, List.getElem?_replicate] at hj
    split at hj <;> simp at hj
  · left
    simp [List.getD_eq_getElem?_getD, List.getElem?_replicate, hj]
  rintro st - ⟨i, m, hi, rfl, hm, hm02, hdone⟩
  rw [go_br]
  refine ⟨fun hlt => ?_, fun hlt => ?_⟩
  · have hil : i < s.cs.length := by simpa [X.ev, evl, eS_0, D.int, D.rs, D.tt] using hlt
    rw [go_loop]
    refine ⟨fun st => ∃ (l : List Int) (a : Int) (f : List Int), st = [.r (l.map D.i), .i a, .b false, .r (f.map D.i)] ∧ inS s a = true ∧ f.length = s.cs.length ∧ Ch s l a ∧ l.headD a = (i : Int) ∧ (∀ x ∈ l, inS s x = true) ∧ l.length ≤ s.cs.length - f.count 0 ∧ ¬ f.getD a.toNat 0 = 1 ∧
      ∀ j : Nat, j < s.cs.length → f.getD j 0 = if (j : Int) ∈ l then 1 else m.getD j 0, fun st => ((st.getD 3 .u).rs.map D.int).count 0, ⟨[], i, m, by simp [X.evs, X.ev, evl], inS_iff.2 ⟨by omega, by omega⟩, hm.len, trivial, rfl, (fun x hx => by cases hx), Nat.zero_le _, ?_, fun j hj => by simp⟩, ?_⟩
    · have := hm02 i hil
      simp only [Int.toNat_natCast]
      omega
    rintro st - ⟨l, a, f, rfl, hin, hfl, hch, hhd, hl, hll, hna, hf⟩
    have ha := inS_iff.1 hin
    have hfa : (f.getD a.toNat 0) = if a ∈ l then 1 else m.getD a.toNat 0 := by
      have := hf a.toNat (by omega)
      rwa [show ((a.toNat : Nat) : Int) = a by omega] at this
    have hal : a ∉ l := fun h => hna (by rw [hfa, if_pos h])
    rw [if_neg hal] at hfa
    have hmark : (D.r (f.map D.i)).get a = .i (f.getD a.toNat 0) := marks_get ha.1 (by omega)
    rw [q00]
    refine ⟨by simp only [q00, go_br, q02, q04, allSay, X.says, X.ev, X.evs, evl, tblS, List.getD_cons_zero, List.getD_cons_succ, List.getElem?_cons_zero, List.getElem?_cons_succ, tt_b, int_i, str_s, rs_r, Option.isSome_some, Option.getD_some, decide_eq_true_eq, decide_eq_false_iff_not, dS_eS, dC_eC, dU_eU, dW_eW, dY_eY, eC_0, eC_1, eU_0, eU_1, eW_0, eW_1, eW_2, eY_0, eY_1, eS_0, eS_1, eS_2, eS_3, eS_4, eS_5, List.length_map, i_inj, b_inj, s_inj, eC_eq, eU_eq, eW_eq, eY_eq, eS_eq, rng64, List.take_succ_cons, List.take_zero, List.nil_append, List.cons_append, decide_true, decide_false, Bool.or_true, true_and, and_true]; omega, ?_⟩
    rw [go_br]
    -- what the marks are when a path is done
    have finish : ∀ (p : List Int), (∀ x ∈ p, inS s x = true) → (∀ x ∈ p, En s x) → En s i → (∀ x ∈ l, x ∈ p) → ∀ (f' : List Int), f'.length = s.cs.length → (∀ j : Nat, j < s.cs.length → f'.getD j 0 = if (j : Int) ∈ p then 2 else m.getD j 0) →
        updB (fun x x_1 => False) 3 (fun st' => (∃ (i : Nat) (m : List Int), i ≤ s.cs.length ∧ st' = [.b false, .i i, .r (m.map D.i)] ∧ Mk0 s m ∧ (∀ j : Nat, j < s.cs.length → m.getD j 0 = 0 ∨ m.getD j 0 = 2) ∧ ∀ j : Nat, j < i → En s j) ∧ s.cs.length - (st'.getD 1 .u).int.toNat < s.cs.length - (([D.b false, D.i i, D.r (m.map D.i)] : List D).getD 1 .u).int.toNat) 3 [.b false, .i ((i : Int) + 1), .r (f'.map D.i)] := by
      intro p hp1 hp2 hei hlp f' hf1 hf2
      rw [updB, if_pos rfl]
      refine ⟨⟨i + 1, f', hil, by simp, ⟨hf1, fun j hj => ?_⟩, fun j hj => ?_, fun j hj => ?_⟩, ?_⟩
      · by_cases hjl : j < s.cs.length
        · rw [hf2 j hjl] at hj
          split at hj
          · rename_i hjp; exact hp2 _ hjp
          · exact hm.en j hj
        · rw [List.getD_eq_getElem?_getD, List.getElem?_eq_none (by omega)] at hj
          cases hj
      · rw [hf2 j hj]
        split
        · exact .inr rfl
        · exact hm02 j hj
      · rcases Nat.lt_succ_iff_lt_or_eq.1 hj with h | h
        · exact hdone j h
        · rw [h]; exact hei
      · simp [D.int]
        omega
    have hend : En s a → En s i := fun he => by
      cases l with
      | nil => rw [← hhd]; exact he
      | cons y l => rw [← hhd]; exact hch.en he y List.mem_cons_self
    refine ⟨fun hz => ?_, fun hz => ?_⟩
    · -- an unknown cell
      have hz' : f.getD a.toNat 0 = 0 := by
        simp only [q00, go_br, q02, q04, allSay, X.says, X.ev, X.evs, evl, tblS, List.getD_cons_zero, List.getD_cons_succ, List.getElem?_cons_zero, List.getElem?_cons_succ, tt_b, int_i, str_s, rs_r, Option.isSome_some, Option.getD_some, decide_eq_true_eq, decide_eq_false_iff_not, dS_eS, dC_eC, dU_eU, dW_eW, dY_eY, eC_0, eC_1, eU_0, eU_1, eW_0, eW_1, eW_2, eY_0, eY_1, eS_0, eS_1, eS_2, eS_3, eS_4, eS_5, List.length_map, i_inj, b_inj, s_inj, eC_eq, eU_eq, eW_eq, eY_eq, eS_eq, rng64, List.take_succ_cons, List.take_zero, List.nil_append, List.cons_append, decide_true, decide_false, Bool.or_true, true_and, and_true, hmark] at hz
        exact hz
      have hc0 : 0 < f.count 0 := List.count_pos_iff.2 (by
        rw [List.getD_eq_getElem?_getD, List.getElem?_eq_getElem (by omega)] at hz'
        have : f[a.toNat] = 0 := hz'
        exact List.mem_iff_getElem.2 ⟨a.toNat, by omega, this⟩)
      have hcl : f.count 0 ≤ f.length := List.count_le_length
      have hset : (f.set a.toNat 1).count 0 = f.count 0 - 1 := by
        rw [List.count_set (by omega)]
        have : f[a.toNat]'(by omega) = 0 := by
          rw [List.getD_eq_getElem?_getD, List.getElem?_eq_getElem (by omega)] at hz'
          exact hz'
        simp [this]
      rw [q00, q00, q00]
      refine ⟨by simp only [q00, go_br, q02, q04, allSay, X.says, X.ev, X.evs, evl, tblS, List.getD_cons_zero, List.getD_cons_succ, List.getElem?_cons_zero, List.getElem?_cons_succ, tt_b, int_i, str_s, rs_r, Option.isSome_some, Option.getD_some, decide_eq_true_eq, decide_eq_false_iff_not, dS_eS, dC_eC, dU_eU, dW_eW, dY_eY, eC_0, eC_1, eU_0, eU_1, eW_0, eW_1, eW_2, eY_0, eY_1, eS_0, eS_1, eS_2, eS_3, eS_4, eS_5, List.length_map, i_inj, b_inj, s_inj, eC_eq, eU_eq, eW_eq, eY_eq, eS_eq, rng64, List.take_succ_cons, List.take_zero, List.nil_append, List.cons_append, decide_true, decide_false, Bool.or_true, true_and, and_true]; omega, by simp only [q00, go_br, q02, q04, allSay, X.says, X.ev, X.evs, evl, tblS, List.getD_cons_zero, List.getD_cons_succ, List.getElem?_cons_zero, List.getElem?_cons_succ, tt_b, int_i, str_s, rs_r, Option.isSome_some, Option.getD_some, decide_eq_true_eq, decide_eq_false_iff_not, dS_eS, dC_eC, dU_eU, dW_eW, dY_eY, eC_0, eC_1, eU_0, eU_1, eW_0, eW_1, eW_2, eY_0, eY_1, eS_0, eS_1, eS_2, eS_3, eS_4, eS_5, List.length_map, i_inj, b_inj, s_inj, eC_eq, eU_eq, eW_eq, eY_eq, eS_eq, rng64, List.take_succ_cons, List.take_zero, List.nil_append, List.cons_append, decide_true, decide_false, Bool.or_true, true_and, and_true]; omega, by simp only [q00, go_br, q02, q04, allSay, X.says, X.ev, X.evs, evl, tblS, List.getD_cons_zero, List.getD_cons_succ, List.getElem?_cons_zero, List.getElem?_cons_succ, tt_b, int_i, str_s, rs_r, Option.isSome_some, Option.getD_some, decide_eq_true_eq, decide_eq_false_iff_not, dS_eS, dC_eC, dU_eU, dW_eW, dY_eY, eC_0, eC_1, eU_0, eU_1, eW_0, eW_1, eW_2, eY_0, eY_1, eS_0, eS_1, eS_2, eS_3, eS_4, eS_5, List.length_map, i_inj, b_inj, s_inj, eC_eq, eU_eq, eW_eq, eY_eq, eS_eq, rng64, List.take_succ_cons, List.take_zero, List.nil_append, List.cons_append, decide_true, decide_false, Bool.or_true, true_and, and_true]; omega, ?_⟩
      rw [go_br]
      have hcond : (X.ev (evl (tblS []) ([eS s, D.b false, D.i i, D.r (m.map D.i)] ++ [D.r (l.map D.i), D.i a, D.b false, D.r (f.map D.i)])) ((.or (.not (.eq (.fld (.get (.fld (.tok 0) 0) (.tok 5)) 0) (.lit (.i 0)))) (.eq (.fld (.get (.fld (.tok 0) 0) (.tok 5)) 1) (.tok 5))))).tt = !decide (Ns s a) := by
        simp only [q00, go_br, q02, q04, allSay, X.says, X.ev, X.evs, evl, tblS, List.getD_cons_zero, List.getD_cons_succ, List.getElem?_cons_zero, List.getElem?_cons_succ, tt_b, int_i, str_s, rs_r, Option.isSome_some, Option.getD_some, decide_eq_true_eq, decide_eq_false_iff_not, dS_eS, dC_eC, dU_eU, dW_eW, dY_eY, eC_0, eC_1, eU_0, eU_1, eW_0, eW_1, eW_2, eY_0, eY_1, eS_0, eS_1, eS_2, eS_3, eS_4, eS_5, List.length_map, i_inj, b_inj, s_inj, eC_eq, eU_eq, eW_eq, eY_eq, eS_eq, rng64, List.take_succ_cons, List.take_zero, List.nil_append, List.cons_append, decide_true, decide_false, Bool.or_true, true_and, and_true, cell_get hin, Ns, tagS_in hin]
        by_cases h0 : (cellAt s a).t = 0 <;> simp [h0]
      refine ⟨fun hst => ?_, fun hst => ?_⟩
      · have hns : ¬ Ns s a := by
          have := hcond.symm.trans hst
          simpa using this
        have hea := En.st hns
        refine mark_ok (P := .app (.tok 4) (.row [.tok 5])) (l := l ++ [a]) (m := f.set a.toNat 1) (i := i) rfl (fun e => by simp [X.ev, X.evs, evl, D.rs]) (by simp [X.ev, evl, D.rs, D.int]) rfl ⟨by omega, by omega⟩ (fun x hx => ?_) (by simp; omega) fun f' hf1 hf2 => ?_
        · rcases List.mem_append.1 hx with hx | hx
          · have := inS_iff.1 (hl x hx); simp; omega
          · obtain rfl : x = a := by simpa using hx
            simp; omega
        · refine finish (l ++ [a]) (fun x hx => ?_) (fun x hx => ?_) (hend hea) (fun x hx => List.mem_append_left _ hx) f' (by simpa [hfl] using hf1) fun j hj => ?_
          · rcases List.mem_append.1 hx with hx | hx
            · exact hl x hx
            · obtain rfl : x = a := by simpa using hx
              exact hin
          · rcases List.mem_append.1 hx with hx | hx
            · exact hch.en hea x hx
            · obtain rfl : x = a := by simpa using hx
              exact hea
          · rw [hf2 j (by simp; omega)]
            by_cases hjm : (j : Int) ∈ l ++ [a]
            · rw [if_pos hjm, if_pos hjm]
            · rw [if_neg hjm, if_neg hjm, getD_set (by omega), if_neg, hf j hj, if_neg fun h => hjm (List.mem_append_left _ h)]
              intro e
              exact hjm (List.mem_append_right _ (by simp; omega))
      · have hns : Ns s a := by
          have := hcond.symm.trans hst
          simpa using this
        have hin2 : inS s (cellAt s a).n = true := hrange a hns
        have hb := inS_iff.1 hin2
        have hgb : (D.r ((f.set a.toNat 1).map D.i)).get ((cellAt s a).n) = .i ((f.set a.toNat 1).getD ((cellAt s a).n).toNat 0) := marks_get hb.1 (by simp; omega)
        have hput : D.r ((f.map D.i).set a.toNat (.i 1)) = D.r ((f.set a.toNat 1).map D.i) := by rw [marks_set]
        rw [q00]
        refine ⟨by simp only [q00, go_br, q02, q04, allSay, X.says, X.ev, X.evs, evl, tblS, List.getD_cons_zero, List.getD_cons_succ, List.getElem?_cons_zero, List.getElem?_cons_succ, tt_b, int_i, str_s, rs_r, Option.isSome_some, Option.getD_some, decide_eq_true_eq, decide_eq_false_iff_not, dS_eS, dC_eC, dU_eU, dW_eW, dY_eY, eC_0, eC_1, eU_0, eU_1, eW_0, eW_1, eW_2, eY_0, eY_1, eS_0, eS_1, eS_2, eS_3, eS_4, eS_5, List.length_map, i_inj, b_inj, s_inj, eC_eq, eU_eq, eW_eq, eY_eq, eS_eq, rng64, List.take_succ_cons, List.take_zero, List.nil_append, List.cons_append, decide_true, decide_false, Bool.or_true, true_and, and_true, cell_get hin, List.length_set]; omega, ?_⟩
        rw [go_br]
        simp only [q00, go_br, q02, q04, allSay, X.says, X.ev, X.evs, evl, tblS, List.getD_cons_zero, List.getD_cons_succ, List.getElem?_cons_zero, List.getElem?_cons_succ, tt_b, int_i, str_s, rs_r, Option.isSome_some, Option.getD_some, decide_eq_true_eq, decide_eq_false_iff_not, dS_eS, dC_eC, dU_eU, dW_eW, dY_eY, eC_0, eC_1, eU_0, eU_1, eW_0, eW_1, eW_2, eY_0, eY_1, eS_0, eS_1, eS_2, eS_3, eS_4, eS_5, List.length_map, i_inj, b_inj, s_inj, eC_eq, eU_eq, eW_eq, eY_eq, eS_eq, rng64, List.take_succ_cons, List.take_zero, List.nil_append, List.cons_append, decide_true, decide_false, Bool.or_true, true_and, and_true, cell_get hin, hput, hgb]
        have hf' : ∀ j : Nat, j < s.cs.length → (f.set a.toNat 1).getD j 0 = if (j : Int) ∈ l ++ [a] then 1 else m.getD j 0 := fun j hj => by
          rw [getD_set (by omega), hf j hj]
          by_cases hja : a.toNat = j
          · rw [if_pos hja, if_pos (List.mem_append_right _ (by simp; omega))]
          · rw [if_neg hja]
            by_cases hjl : (j : Int) ∈ l
            · rw [if_pos hjl, if_pos (List.mem_append_left _ hjl)]
            · rw [if_neg hjl, if_neg fun h => ?_]
              rcases List.mem_append.1 h with h | h
              · exact hjl h
              · simp at h; omega
        refine ⟨fun hact => ?_, fun hact => ?_⟩
        · have hmem : (cellAt s a).n ∈ l ++ [a] := by
            rw [hf' _ (by omega), show ((((cellAt s a).n).toNat : Nat) : Int) = (cellAt s a).n by omega] at hact
            split at hact
            · assumption
            · have := hm02 ((cellAt s a).n).toNat (by omega)
              omega
          have hcl := closed_no (s := s) (Q := l ++ [a]) fun q hq => by
            rcases List.mem_append.1 hq with hq | hq
            · obtain ⟨g1, g2⟩ := hch.next q hq
              refine ⟨g1, g2.elim (List.mem_append_left _) fun e => List.mem_append_right _ (by simp [e])⟩
            · obtain rfl : q = a := by simpa using hq
              exact ⟨hns, hmem⟩
          have : acyP s = false := all_not hil (hcl _ _ (by
            rw [← hhd]
            cases l <;> simp))
          rw [this]
        · rw [updB, if_pos rfl]
          refine ⟨⟨l ++ [a], (cellAt s a).n, f.set a.toNat 1, by simp, hin2, by simp [hfl], hch.snoc hns rfl, by cases l <;> simpa using hhd, fun x hx => ?_, ?_, hact, hf'⟩, ?_⟩
          · rcases List.mem_append.1 hx with hx | hx
            · exact hl x hx
            · obtain rfl : x = a := by simpa using hx
              exact hin
          · rw [hset]
            simp
            omega
          · show List.count 0 (((f.set a.toNat 1).map D.i).map D.int) < List.count 0 ((f.map D.i).map D.int)
            rw [map_id' int_i, map_id' int_i, hset]
            omega
    · -- a cell that is done
      have hz' : ¬ f.getD a.toNat 0 = 0 := by
        simp only [q00, go_br, q02, q04, allSay, X.says, X.ev, X.evs, evl, tblS, List.getD_cons_zero, List.getD_cons_succ, List.getElem?_cons_zero, List.getElem?_cons_succ, tt_b, int_i, str_s, rs_r, Option.isSome_some, Option.getD_some, decide_eq_true_eq, decide_eq_false_iff_not, dS_eS, dC_eC, dU_eU, dW_eW, dY_eY, eC_0, eC_1, eU_0, eU_1, eW_0, eW_1, eW_2, eY_0, eY_1, eS_0, eS_1, eS_2, eS_3, eS_4, eS_5, List.length_map, i_inj, b_inj, s_inj, eC_eq, eU_eq, eW_eq, eY_eq, eS_eq, rng64, List.take_succ_cons, List.take_zero, List.nil_append, List.cons_append, decide_true, decide_false, Bool.or_true, true_and, and_true, hmark] at hz
        exact hz
      have hea : En s a := by
        have h2 : m.getD a.toNat 0 = 2 := by
          have := hm02 a.toNat (by omega)
          omega
        have := hm.en _ h2
        rwa [show ((a.toNat : Nat) : Int) = a by omega] at this
      refine mark_ok (P := .tok 4) (l := l) (m := f) (i := i) rfl (fun e => by simp [X.ev, evl]) (by simp [X.ev, evl]) rfl ⟨by omega, by omega⟩ (fun x hx => ?_) (by omega) fun f' hf1 hf2 => ?_
      · have := inS_iff.1 (hl x hx); omega
      · refine finish l hl (hch.en hea) (hend hea) (fun x hx => hx) f' (by omega) fun j hj => ?_
        rw [hf2 j (by omega)]
        by_cases hjm : (j : Int) ∈ l
        · rw [if_pos hjm, if_pos hjm]
        · rw [if_neg hjm, if_neg hjm, hf j hj, if_neg hjm]
  · have : i = s.cs.length := by
      have : ¬ (i < s.cs.length) := by simpa [X.ev, evl, eS_0, D.int, D.rs, D.tt] using hlt
      omega
    subst this
    have : acyP s = true := all_yes fun j hj => (hdone j hj).ends
    rw [this]
    rfl
end Go.Proofs.Ytmebmpgffhajbaa


namespace Go.Proofs.Ytmebmpgffhajbaa
open Go.RowKit
set_option linter.unusedVariables false
set_option linter.unusedSimpArgs false

theorem scan_ok {S : Nat → List D → Option (List D)} {R : List D → Prop} {id n : Nat} {x0 : X} {body : Tree} {l : List D} {B : Nat → List D → Prop} {v0 : D} (N : Nat) (P : Nat → Bool) (h0 : x0.ev (evl S l) = v0)
    (h : ∀ (k : Nat) (B' : Nat → List D → Prop), k ≤ N → (∀ j, j < k → P j = true) → (k < N → P k = true → B' id [v0, .i ((k : Int) + 1)]) → (∀ j, j ≠ id → B' j = B j) → body.go S R (l.take n ++ [v0, .i k]) B') : (Tree.loop id n [x0, .lit (.i 0)] body).go S R l B := by
  rw [go_loop]
  refine ⟨fun st => ∃ k : Nat, k ≤ N ∧ st = [v0, .i k] ∧ ∀ j, j < k → P j = true, fun st => N - (st.getD 1 .u).int.toNat, ⟨0, Nat.zero_le _, by simp [X.evs, X.ev, h0], fun j hj => absurd hj (Nat.not_lt_zero _)⟩, ?_⟩
  rintro st - ⟨k, hk, rfl, hP⟩
  refine h k _ hk hP (fun hlt hp => ?_) fun j hj => by rw [updB, if_neg hj]
  rw [updB, if_pos rfl]
  refine ⟨⟨k + 1, hlt, by simp, upto_succ hP hp⟩, ?_⟩
  simp [D.int]
  omega

def wkB (vc : So → Ce → Bool) (s : So) (w : Wk) : Bool := decide (1 ≤ w.ser) && (decide (w.ser ≤ s.ser) && (vc s w.att && vc s w.val))
def headB (s : So) : Bool := decide (1 ≤ s.mx) && (decide (s.mx ≤ 1048576) && (decide ((s.cs.length : Int) ≤ s.mx) && (decide (0 ≤ s.ser) && symsB s.ys)))
def validR (s : So) : Bool := headB s && ((List.range s.cs.length).all (fun i => cellR s (i : Nat)) && ((List.range s.tr.length).all (fun i => oldR s (s.tr.getD i default)) && (List.range s.wk.length).all fun i => wkB vcR s (s.wk.getD i default)))
def validP (s : So) : Bool := headB s && ((List.range s.cs.length).all (fun i => fitsP s (i : Nat)) && (acyP s && ((List.range s.tr.length).all (fun i => oldP s (s.tr.getD i default)) && (List.range s.wk.length).all fun i => wkB vcP s (s.wk.getD i default))))

theorem tag_nn {s : So} {n : Int} (h : 0 ≤ tagS s n) : inS s n = true := by
  cases hi : inS s n with
  | true => rfl
  | false => rw [tagS_out hi] at h; omega
theorem fits_acyQ {s : So} (hh : headB s = true) (h : ∀ j, j < s.cs.length → fitsP s (j : Nat) = true) : acyQ s = true := by
  simp only [headB, Bool.and_eq_true, decide_eq_true_eq] at hh
  simp only [acyQ, Bool.and_eq_true, decide_eq_true_eq]
  refine ⟨by omega, all_yes fun j hj => ?_⟩
  have := h j hj
  by_cases h0 : (cellAt s (j : Nat)).t = 0
  · simp only [fitsP, h0, vcP] at this
    have h1 : 0 ≤ tagS s (cellAt s (j : Nat)).n := by
      simp at this
      exact this.1
    simp [tag_nn h1]
  · simp [h0]

theorem ok_cells_Valid : FOk q0k (gSb validP) := fok_cells_Valid ok_cells_validSymbols ok_cells_fits ok_cells_acyclic ok_cells_validUndo q1k fun ds outs hw hg => by
  obtain ⟨d, r, rfl, hd, rfl⟩ := hw
  obtain ⟨s, rfl, hs⟩ := wfS hd
  simp only [gSb, dS_eS, Option.some.injEq] at hg
  subst hg
  have hl := hs.cs.1
  have hl2 := hs.tr.1
  have hl3 := hs.wk.1
  have hsy : gYsb symsB [D.r (s.ys.map eY)] = some [.b (symsB s.ys)] := by simp [gYsb, rs_r, map_id' dY_eY]
  rw [q1p, q00]
  refine ⟨by simp only [q00, go_br, q02, q04, allSay, X.says, X.ev, X.evs, evl, tblS, List.getD_cons_zero, List.getD_cons_succ, List.getElem?_cons_zero, List.getElem?_cons_succ, tt_b, int_i, str_s, rs_r, Option.isSome_some, Option.getD_some, decide_eq_true_eq, decide_eq_false_iff_not, dS_eS, dC_eC, dU_eU, dW_eW, dY_eY, eC_0, eC_1, eU_0, eU_1, eW_0, eW_1, eW_2, eY_0, eY_1, eS_0, eS_1, eS_2, eS_3, eS_4, eS_5, List.length_map, i_inj, b_inj, s_inj, eC_eq, eU_eq, eW_eq, eY_eq, eS_eq, rng64, List.take_succ_cons, List.take_zero, List.nil_append, List.cons_append, decide_true, decide_false, Bool.or_true, true_and, and_true, hsy], ?_⟩
  rw [go_br]
  have hcond : (X.ev (evl (tblS [(q0d, gYsb symsB), (q0z, gSIbP cellQ fitsP), (q0n, gSbP acyQ acyP), (q0f, gSUb oldP), (q06, gSCb vcP)]) [eS s]) (.or (.or (.or (.or (.lt (.fld (.tok 0) 5) (.lit (.i 1))) (.lt (.lit (.i 1048576)) (.fld (.tok 0) 5))) (.lt (.fld (.tok 0) 5) (.len (.fld (.tok 0) 0)))) (.lt (.fld (.tok 0) 4) (.lit (.i 0)))) (.not (.call 0 0 [(.fld (.tok 0) 1)])))).tt = !headB s := by
    simp only [q00, go_br, q02, q04, allSay, X.says, X.ev, X.evs, evl, tblS, List.getD_cons_zero, List.getD_cons_succ, List.getElem?_cons_zero, List.getElem?_cons_succ, tt_b, int_i, str_s, rs_r, Option.isSome_some, Option.getD_some, decide_eq_true_eq, decide_eq_false_iff_not, dS_eS, dC_eC, dU_eU, dW_eW, dY_eY, eC_0, eC_1, eU_0, eU_1, eW_0, eW_1, eW_2, eY_0, eY_1, eS_0, eS_1, eS_2, eS_3, eS_4, eS_5, List.length_map, i_inj, b_inj, s_inj, eC_eq, eU_eq, eW_eq, eY_eq, eS_eq, rng64, List.take_succ_cons, List.take_zero, List.nil_append, List.cons_append, decide_true, decide_false, Bool.or_true, true_and, and_true, hsy, headB]
    by_cases h1 : s.mx < 1
    · have : ¬ 1 ≤ s.mx := by omega
      simp [h1, this]
    · by_cases h2 : 1048576 < s.mx
      · have : ¬ s.mx ≤ 1048576 := by omega
        simp [h2, this]
      · by_cases h3 : s.mx < s.cs.length
        · have : ¬ (s.cs.length : Int) ≤ s.mx := by omega
          simp [h3, this]
        · by_cases h4 : s.ser < 0
          · have : ¬ 0 ≤ s.ser := by omega
            simp [h4, this]
          · have a1 : 1 ≤ s.mx := by omega
            have a2 : s.mx ≤ 1048576 := by omega
            have a3 : (s.cs.length : Int) ≤ s.mx := by omega
            have a4 : 0 ≤ s.ser := by omega
            simp [h1, h2, h3, h4, a1, a2, a3, a4]
  refine ⟨fun hx => ?_, fun hx => ?_⟩
  · have hh : headB s = false := by
      have := hcond.symm.trans hx
      simpa using this
    simp [q02, X.evs, X.ev, validP, hh]
  have hh : headB s = true := by
    have := hcond.symm.trans hx
    simpa using this
  have hsy2 : symsB s.ys = true := by
    simp only [headB, Bool.and_eq_true] at hh
    exact hh.2.2.2.2
  refine scan_ok s.cs.length (fun i => fitsP s (i : Nat)) (v0 := .b false) rfl fun k B' hk hP hB _ => ?_
  rw [go_br]
  refine ⟨fun hlt => ?_, fun hlt => ?_⟩
  · have hkl : k < s.cs.length := by simpa [X.ev, evl, eS_0, D.int, D.rs, D.tt] using hlt
    have hin : inS s (k : Nat) = true := inS_iff.2 ⟨by omega, by omega⟩
    have hQ : cellQ s (k : Nat) = true := by simp [cellQ, hin, hsy2]
    simp only [q00, go_br, q02, q04, allSay, X.says, X.ev, X.evs, evl, tblS, List.getD_cons_zero, List.getD_cons_succ, List.getElem?_cons_zero, List.getElem?_cons_succ, tt_b, int_i, str_s, rs_r, Option.isSome_some, Option.getD_some, decide_eq_true_eq, decide_eq_false_iff_not, dS_eS, dC_eC, dU_eU, dW_eW, dY_eY, eC_0, eC_1, eU_0, eU_1, eW_0, eW_1, eW_2, eY_0, eY_1, eS_0, eS_1, eS_2, eS_3, eS_4, eS_5, List.length_map, i_inj, b_inj, s_inj, eC_eq, eU_eq, eW_eq, eY_eq, eS_eq, rng64, List.take_succ_cons, List.take_zero, List.nil_append, List.cons_append, decide_true, decide_false, Bool.or_true, true_and, and_true, gSIbP, hQ, if_true]
    refine ⟨fun hb => ?_, fun hb => ⟨⟨by omega, by omega⟩, ?_⟩⟩
    · have : fitsP s (k : Nat) = false := by simpa using hb
      have := all_not (P := fun i => fitsP s (i : Nat)) hkl this
      simp [validP, this]
    · exact hB hkl (by simpa using hb)
  have hc : (List.range s.cs.length).all (fun i => fitsP s (i : Nat)) = true := by
    have : k = s.cs.length := by
      have : ¬ (k < s.cs.length) := by simpa [X.ev, evl, eS_0, D.int, D.rs, D.tt] using hlt
      omega
    subst this
    exact all_yes hP
  have hq : acyQ s = true := fits_acyQ hh fun j hj => all_of (P := fun i => fitsP s (i : Nat)) hc hj
  rw [q00]
  refine ⟨by simp only [q00, go_br, q02, q04, allSay, X.says, X.ev, X.evs, evl, tblS, List.getD_cons_zero, List.getD_cons_succ, List.getElem?_cons_zero, List.getElem?_cons_succ, tt_b, int_i, str_s, rs_r, Option.isSome_some, Option.getD_some, decide_eq_true_eq, decide_eq_false_iff_not, dS_eS, dC_eC, dU_eU, dW_eW, dY_eY, eC_0, eC_1, eU_0, eU_1, eW_0, eW_1, eW_2, eY_0, eY_1, eS_0, eS_1, eS_2, eS_3, eS_4, eS_5, List.length_map, i_inj, b_inj, s_inj, eC_eq, eU_eq, eW_eq, eY_eq, eS_eq, rng64, List.take_succ_cons, List.take_zero, List.nil_append, List.cons_append, decide_true, decide_false, Bool.or_true, true_and, and_true, gSbP, hq, if_true], ?_⟩
  rw [go_br]
  refine ⟨fun hb => ?_, fun hb => ?_⟩
  · have : acyP s = false := by
      simp only [q00, go_br, q02, q04, allSay, X.says, X.ev, X.evs, evl, tblS, List.getD_cons_zero, List.getD_cons_succ, List.getElem?_cons_zero, List.getElem?_cons_succ, tt_b, int_i, str_s, rs_r, Option.isSome_some, Option.getD_some, decide_eq_true_eq, decide_eq_false_iff_not, dS_eS, dC_eC, dU_eU, dW_eW, dY_eY, eC_0, eC_1, eU_0, eU_1, eW_0, eW_1, eW_2, eY_0, eY_1, eS_0, eS_1, eS_2, eS_3, eS_4, eS_5, List.length_map, i_inj, b_inj, s_inj, eC_eq, eU_eq, eW_eq, eY_eq, eS_eq, rng64, List.take_succ_cons, List.take_zero, List.nil_append, List.cons_append, decide_true, decide_false, Bool.or_true, true_and, and_true, gSbP, hq, if_true] at hb
      simpa only [Bool.not_eq_true'] using hb
    simp only [q02, X.evs, X.ev, validP, this, Bool.false_and, Bool.and_false]
  have ha : acyP s = true := by
    simp only [q00, go_br, q02, q04, allSay, X.says, X.ev, X.evs, evl, tblS, List.getD_cons_zero, List.getD_cons_succ, List.getElem?_cons_zero, List.getElem?_cons_succ, tt_b, int_i, str_s, rs_r, Option.isSome_some, Option.getD_some, decide_eq_true_eq, decide_eq_false_iff_not, dS_eS, dC_eC, dU_eU, dW_eW, dY_eY, eC_0, eC_1, eU_0, eU_1, eW_0, eW_1, eW_2, eY_0, eY_1, eS_0, eS_1, eS_2, eS_3, eS_4, eS_5, List.length_map, i_inj, b_inj, s_inj, eC_eq, eU_eq, eW_eq, eY_eq, eS_eq, rng64, List.take_succ_cons, List.take_zero, List.nil_append, List.cons_append, decide_true, decide_false, Bool.or_true, true_and, and_true, gSbP, hq, if_true] at hb
    simpa only [Bool.not_eq_false'] using hb
  refine scan_ok s.tr.length (fun i => oldP s (s.tr.getD i default)) (v0 := .b false) rfl fun k B' hk hP hB _ => ?_
  rw [go_br]
  refine ⟨fun hlt => ?_, fun hlt => ?_⟩
  · have hkl : k < s.tr.length := by simpa [X.ev, evl, eS_2, D.int, D.rs, D.tt] using hlt
    simp only [q00, go_br, q02, q04, allSay, X.says, X.ev, X.evs, evl, tblS, List.getD_cons_zero, List.getD_cons_succ, List.getElem?_cons_zero, List.getElem?_cons_succ, tt_b, int_i, str_s, rs_r, Option.isSome_some, Option.getD_some, decide_eq_true_eq, decide_eq_false_iff_not, dS_eS, dC_eC, dU_eU, dW_eW, dY_eY, eC_0, eC_1, eU_0, eU_1, eW_0, eW_1, eW_2, eY_0, eY_1, eS_0, eS_1, eS_2, eS_3, eS_4, eS_5, List.length_map, i_inj, b_inj, s_inj, eC_eq, eU_eq, eW_eq, eY_eq, eS_eq, rng64, List.take_succ_cons, List.take_zero, List.nil_append, List.cons_append, decide_true, decide_false, Bool.or_true, true_and, and_true, gSUb, get_n eU hkl]
    refine ⟨⟨by omega, by omega⟩, fun hb => ?_, fun hb => ⟨⟨by omega, by omega⟩, ?_⟩⟩
    · have : oldP s (s.tr.getD k default) = false := by simpa only [Bool.not_eq_true'] using hb
      have := all_not (P := fun i => oldP s (s.tr.getD i default)) hkl this
      simp only [validP, this, Bool.false_and, Bool.and_false]
    · exact hB hkl (by simpa only [Bool.not_eq_false'] using hb)
  have hc2 : (List.range s.tr.length).all (fun i => oldP s (s.tr.getD i default)) = true := by
    have : k = s.tr.length := by
      have : ¬ (k < s.tr.length) := by simpa [X.ev, evl, eS_2, D.int, D.rs, D.tt] using hlt
      omega
    subst this
    exact all_yes hP
  refine scan_ok s.wk.length (fun i => wkB vcP s (s.wk.getD i default)) (v0 := .b false) rfl fun k B' hk hP hB _ => ?_
  rw [go_br]
  refine ⟨fun hlt => ?_, fun hlt => ?_⟩
  · have hkl : k < s.wk.length := by simpa [X.ev, evl, eS_3, D.int, D.rs, D.tt] using hlt
    simp only [q00, go_br, q02, q04, allSay, X.says, X.ev, X.evs, evl, tblS, List.getD_cons_zero, List.getD_cons_succ, List.getElem?_cons_zero, List.getElem?_cons_succ, tt_b, int_i, str_s, rs_r, Option.isSome_some, Option.getD_some, decide_eq_true_eq, decide_eq_false_iff_not, dS_eS, dC_eC, dU_eU, dW_eW, dY_eY, eC_0, eC_1, eU_0, eU_1, eW_0, eW_1, eW_2, eY_0, eY_1, eS_0, eS_1, eS_2, eS_3, eS_4, eS_5, List.length_map, i_inj, b_inj, s_inj, eC_eq, eU_eq, eW_eq, eY_eq, eS_eq, rng64, List.take_succ_cons, List.take_zero, List.nil_append, List.cons_append, decide_true, decide_false, Bool.or_true, true_and, and_true, gSCb, get_n eW hkl]
    have hw : ((decide ((s.wk.getD k default).ser < 1) || decide (s.ser < (s.wk.getD k default).ser) || !vcP s (s.wk.getD k default).att || !vcP s (s.wk.getD k default).val)) = !wkB vcP s (s.wk.getD k default) := by
      generalize s.wk.getD k default = w
      simp only [wkB]
      by_cases h1 : w.ser < 1
      · have : ¬ 1 ≤ w.ser := by omega
        simp [h1, this]
      · by_cases h2 : s.ser < w.ser
        · have : ¬ w.ser ≤ s.ser := by omega
          simp [h2, this]
        · have a1 : 1 ≤ w.ser := by omega
          have a2 : w.ser ≤ s.ser := by omega
          simp [h1, h2, a1, a2]
    refine ⟨⟨by omega, by omega⟩, fun hb => ?_, fun hb => ⟨⟨by omega, by omega⟩, ?_⟩⟩
    · rw [hw] at hb
      have := all_not (P := fun i => wkB vcP s (s.wk.getD i default)) hkl (by simpa only [Bool.not_eq_true'] using hb)
      simp only [validP, this, Bool.and_false]
    · rw [hw] at hb
      exact hB hkl (by simpa only [Bool.not_eq_false'] using hb)
  have hc3 : (List.range s.wk.length).all (fun i => wkB vcP s (s.wk.getD i default)) = true := by
    have : k = s.wk.length := by
      have : ¬ (k < s.wk.length) := by simpa [X.ev, evl, eS_3, D.int, D.rs, D.tt] using hlt
      omega
    subst this
    exact all_yes hP
  simp only [q02, X.evs, X.ev, validP, hh, hc, ha, hc2, hc3, Bool.and_true]
end Go.Proofs.Ytmebmpgffhajbaa

