/-
  The operations on what is known of the values: sound. No condition.
-/
import Derived.Test.YtgedgmdbpembiaaAb
namespace Go.Proofs.Ytgedgmdbpembiaa
open Go.RowKit
set_option linter.unusedVariables false
variable [Env]

section
variable {Q : Exit → Act → World → Prop}

def Evs (ρ : Tmp → Option Ab) (a : Act) (p : Nat → Option Nat) (w : World) (l : List Operand) : Prop := ∀ y z, y ∈ l → ev ρ y = some z → z.pd p w (a.eval y)

theorem build_ok {ρ : Tmp → Option Ab} {o : Oper} {a : Act} {p : Nat → Option Nat} {w : World} {t : TypeId} {ps : Array (Nat × Operand)} {x : Ab} (heq : o.op = .build t ps) (hev : Evs ρ a p w o.op.operands.toList)
    (h : absBuild ρ t ps.toList = some x) : o.wp Try.prog a w (Leaves x.pd o a p w) Q := by
  obtain ⟨l⟩ := ps
  unfold absBuild at h
  split at h
  · rename_i i y j z hl
    obtain rfl : l = [(i, y), (j, z)] := hl
    split at h
    · rename_i k s hk hs
      have h1 : a.eval y = .int .i64 k := hev y _ (by simp [heq, Op.operands]) hk
      have h2 : a.eval z = .string s := hev z _ (by simp [heq, Op.operands]) hs
      split at h
      · rename_i hok
        simp only [Bool.and_eq_true, decide_eq_true_eq, isTerm, beq_iff_eq] at hok
        obtain ⟨⟨⟨⟨⟨rfl, rfl⟩, rfl⟩, h3⟩, h4⟩, h5⟩ := hok
        injection h with h
        subst h
        refine wp_value (v := .agg #[.int .i64 k, .int .i64 0, .string s, .slice none 0 0]) (w' := w) (by generalize a.eval = r at *; simp [execOp, heq, h1, h2, go_sem]) (leaves_same ?_)
        exact TmIn.keeps (fun k o hk hd => ⟨hk, by have := hd.1; have := lt_of_heap hk; omega⟩) _ (flat_new (w := w) (B := w.heap.size) ⟨h3, h4⟩ (by unfold wf64; omega) h5)
      · cases h
    · cases h
  · rename_i hl
    obtain rfl : l = [] := hl
    split at h
    · rename_i hok
      simp only [isTerm, beq_iff_eq] at hok
      subst hok
      injection h with h
      subst h
      refine wp_value (v := .agg #[.int .i64 0, .int .i64 0, .string ⟨#[]⟩, .slice none 0 0]) (w' := w) (by generalize a.eval = r at *; simp [execOp, heq, go_sem]) (leaves_same ?_)
      exact TmIn.keeps (fun k o hk hd => ⟨hk, by have := hd.1; have := lt_of_heap hk; omega⟩) _ (zero_new w w.heap.size)
    · cases h
  · cases h

theorem row_pins {p : Nat → Option Nat} {w : World} {ts : List Tm} {cs : Array Value} (h : ArgsIn (w.alloc (.cells cs 24)) (Fr (pin0 p w)) ts (some ⟨w.heap.size, 0, none⟩) 0) (hl : ts.length ≤ 1000) {n : Nat} (hn : n = ts.length) :
    (Ab.row ts).pd (pin0 p w) (w.alloc (.cells cs 24)) (.slice (some ⟨w.heap.size, 0, none⟩) n n) := by
  subst hn
  exact ⟨_, _, rfl, Nat.le_refl _, by omega, by unfold maxLen; omega, h⟩

theorem slice_ok {ρ : Tmp → Option Ab} {o : Oper} {a : Act} {p : Nat → Option Nat} {w : World} {t : TypeId} {n : Nat} {ps : Array (Nat × Operand)} {x : Ab} (heq : o.op = .buildSlice t n ps) (hev : Evs ρ a p w o.op.operands.toList)
    (h : absSlice ρ t n ps.toList = some x) : o.wp Try.prog a w (Leaves x.pd o a p w) Q := by
  obtain ⟨l⟩ := ps
  unfold absSlice at h
  split at h
  · rename_i i y hl
    obtain rfl : l = [(i, y)] := hl
    split at h
    · rename_i u hu
      have h1 : TmIn w (Fr p) u (a.eval y) := hev y _ (by simp [heq, Op.operands]) hu
      split at h
      · rename_i hok
        simp only [Bool.and_eq_true, isTerms, beq_iff_eq] at hok
        obtain ⟨⟨rfl, rfl⟩, rfl⟩ := hok
        injection h with h
        subst h
        obtain ⟨A, cap, he, -⟩ := h1.form
        refine wp_value (v := .slice (some ⟨w.heap.size, 0, none⟩) 1 1) (w' := w.alloc (.cells (C4 u A cap).toArray 24)) (by generalize a.eval = r at *; simp [execOp, heq, he, go_sem]) ?_
        refine ⟨_, pin0 p w, rfl, Ext.plain ((But.refl _ _).alloc _), row_pins ?_ (by simp) rfl⟩
        unfold ArgsIn ArgsIn
        rw [he] at h1
        have hb := heap_new (w := w) (o := .cells (C4 u A cap).toArray 24) rfl
        exact ⟨⟨w.heap.size, 0, _, _, _, _, rfl, Fr.new, cell_of_row _ _ 0 _ _ _ hb, cell_of_row _ _ 1 _ _ _ hb, cell_of_row _ _ 2 _ _ _ hb, cell_of_row _ _ 3 _ _ _ hb, h1.alloc _⟩, trivial⟩
      · cases h
    · cases h
  · rename_i i y j z hl
    obtain rfl : l = [(i, y), (j, z)] := hl
    split at h
    · rename_i u v hu hv
      have h1 : TmIn w (Fr p) u (a.eval y) := hev y _ (by simp [heq, Op.operands]) hu
      have h2 : TmIn w (Fr p) v (a.eval z) := hev z _ (by simp [heq, Op.operands]) hv
      split at h
      · rename_i hok
        simp only [Bool.and_eq_true, isTerms, beq_iff_eq] at hok
        obtain ⟨⟨⟨rfl, rfl⟩, rfl⟩, rfl⟩ := hok
        injection h with h
        subst h
        obtain ⟨A, cap, he, -⟩ := h1.form
        obtain ⟨A', cap', he', -⟩ := h2.form
        refine wp_value (v := .slice (some ⟨w.heap.size, 0, none⟩) 2 2) (w' := w.alloc (.cells (C4 u A cap ++ C4 v A' cap').toArray 24)) (by generalize a.eval = r at *; simp [execOp, heq, he, he', go_sem]) ?_
        refine ⟨_, pin0 p w, rfl, Ext.plain ((But.refl _ _).alloc _), row_pins ?_ (by simp) rfl⟩
        unfold ArgsIn ArgsIn ArgsIn
        rw [he] at h1
        rw [he'] at h2
        have hb := heap_new (w := w) (o := .cells (C4 u A cap ++ C4 v A' cap').toArray 24) rfl
        exact ⟨⟨w.heap.size, 0, _, _, _, _, rfl, Fr.new, cell_of_row _ _ 0 _ _ _ hb, cell_of_row _ _ 1 _ _ _ hb, cell_of_row _ _ 2 _ _ _ hb, cell_of_row _ _ 3 _ _ _ hb, h1.alloc _⟩,
          ⟨w.heap.size, 0, _, _, _, _, rfl, Fr.new, cell_of_row _ _ 4 _ _ _ hb, cell_of_row _ _ 5 _ _ _ hb, cell_of_row _ _ 6 _ _ _ hb, cell_of_row _ _ 7 _ _ _ hb, h2.alloc _⟩, trivial⟩
      · cases h
    · cases h
  · rename_i i y j z k r hl
    obtain rfl : l = [(i, y), (j, z), (k, r)] := hl
    split at h
    · rename_i u v s hu hv hs
      have h1 : TmIn w (Fr p) u (a.eval y) := hev y _ (by simp [heq, Op.operands]) hu
      have h2 : TmIn w (Fr p) v (a.eval z) := hev z _ (by simp [heq, Op.operands]) hv
      have h3 : TmIn w (Fr p) s (a.eval r) := hev r _ (by simp [heq, Op.operands]) hs
      split at h
      · rename_i hok
        simp only [Bool.and_eq_true, isTerms, beq_iff_eq] at hok
        obtain ⟨⟨⟨⟨rfl, rfl⟩, rfl⟩, rfl⟩, rfl⟩ := hok
        injection h with h
        subst h
        obtain ⟨A, cap, he, -⟩ := h1.form
        obtain ⟨A', cap', he', -⟩ := h2.form
        obtain ⟨A'', cap'', he'', -⟩ := h3.form
        refine wp_value (v := .slice (some ⟨w.heap.size, 0, none⟩) 3 3) (w' := w.alloc (.cells (C4 u A cap ++ C4 v A' cap' ++ C4 s A'' cap'').toArray 24)) (by generalize a.eval = r at *; simp [execOp, heq, he, he', he'', go_sem]) ?_
        refine ⟨_, pin0 p w, rfl, Ext.plain ((But.refl _ _).alloc _), row_pins ?_ (by simp) rfl⟩
        unfold ArgsIn ArgsIn ArgsIn ArgsIn
        rw [he] at h1
        rw [he'] at h2
        rw [he''] at h3
        have hb := heap_new (w := w) (o := .cells (C4 u A cap ++ C4 v A' cap' ++ C4 s A'' cap'').toArray 24) rfl
        exact ⟨⟨w.heap.size, 0, _, _, _, _, rfl, Fr.new, cell_of_row _ _ 0 _ _ _ hb, cell_of_row _ _ 1 _ _ _ hb, cell_of_row _ _ 2 _ _ _ hb, cell_of_row _ _ 3 _ _ _ hb, h1.alloc _⟩,
          ⟨w.heap.size, 0, _, _, _, _, rfl, Fr.new, cell_of_row _ _ 4 _ _ _ hb, cell_of_row _ _ 5 _ _ _ hb, cell_of_row _ _ 6 _ _ _ hb, cell_of_row _ _ 7 _ _ _ hb, h2.alloc _⟩,
          ⟨w.heap.size, 0, _, _, _, _, rfl, Fr.new, cell_of_row _ _ 8 _ _ _ hb, cell_of_row _ _ 9 _ _ _ hb, cell_of_row _ _ 10 _ _ _ hb, cell_of_row _ _ 11 _ _ _ hb, h3.alloc _⟩, trivial⟩
      · cases h
    · cases h
  · cases h

theorem len_ok {ρ : Tmp → Option Ab} {o : Oper} {c : Call} {a : Act} {p : Nat → Option Nat} {w : World} {x : Ab} (heq : o.op = .call c) (hb : c.callee = .builtin .len) (hev : Evs ρ a p w o.op.operands.toList)
    (h : absLen ρ c.args.toList c.argTypes.toList = some x) : o.wp Try.prog a w (Leaves x.pd o a p w) Q := by
  obtain ⟨callee, ⟨args⟩, ⟨tys⟩⟩ := c
  obtain rfl : callee = .builtin .len := hb
  unfold absLen at h
  split at h
  · rename_i y t hl ht
    obtain rfl : args = [y] := hl
    obtain rfl : tys = [t] := ht
    split at h
    · rename_i l hy
      obtain ⟨A, cap, he, -⟩ : (Ab.ints l).pd p w (a.eval y) := hev y _ (by simp [heq, Op.operands, Call.operands]) hy
      split at h
      · rename_i hok
        simp only [isInts, beq_iff_eq] at hok
        subst hok
        injection h with h
        subst h
        exact wp_value (v := .int .i64 l.length) (w' := w) (by generalize a.eval = r at *; simp [execOp, heq, he, go_sem]) (leaves_same rfl)
      · cases h
    · rename_i l hy
      obtain ⟨A, cap, he, -⟩ : (Ab.row l).pd p w (a.eval y) := hev y _ (by simp [heq, Op.operands, Call.operands]) hy
      split at h
      · rename_i hok
        simp only [isTerms, beq_iff_eq] at hok
        subst hok
        injection h with h
        subst h
        exact wp_value (v := .int .i64 l.length) (w' := w) (by generalize a.eval = r at *; simp [execOp, heq, he, go_sem]) (leaves_same rfl)
      · cases h
    · cases h
  · cases h

set_option maxHeartbeats 2000000 in
theorem absOp_ok {C : FuncId → List Ab → Option Ab} (hC : CallsOk C) {ρ : Tmp → Option Ab} {F : Tmp → Pd} (hF : ∀ t x, ρ t = some x → F t = x.pd) {o : Oper} {x : Ab} (h : absOp C ρ o = some x) :
    Runs Try.prog Q F o x.pd := by
  intro a p w hf
  have hev : ∀ y z, y ∈ o.op.operands.toList → ev ρ y = some z → z.pd p w (a.eval y) := fun y z hy hz => ev_ok hF hz fun t ht => hf t (by
    unfold opTmps
    exact List.mem_filterMap.2 ⟨y, hy, by rw [ht]⟩)
  unfold absOp at h
  split at h
  · rename_i y heq
    exact wp_value (v := a.eval y) (by simp only [execOp, heq]; rfl) (leaves_same (hev y x (by simp [heq, Op.operands]) h))
  · rename_i y heq
    exact wp_value (v := a.eval y) (by simp only [execOp, heq]; rfl) (leaves_same (hev y x (by simp [heq, Op.operands]) h))
  · rename_i c y z heq
    split at h
    · rename_i hc
      have h1 := hev c _ (by simp [heq, Op.operands]) hc
      have h1' : a.eval c = .bool true := h1
      exact wp_value (v := a.eval y) (by simp only [execOp, heq, h1']; rfl) (leaves_same (hev y x (by simp [heq, Op.operands]) h))
    · rename_i hc
      have h1 := hev c _ (by simp [heq, Op.operands]) hc
      have h1' : a.eval c = .bool false := h1
      exact wp_value (v := a.eval z) (by simp only [execOp, heq, h1']; rfl) (leaves_same (hev z x (by simp [heq, Op.operands]) h))
    · cases h
  · rename_i t y heq
    split at h
    · rename_i b hb
      have h1 : a.eval y = .bool b := hev y _ (by simp [heq, Op.operands]) hb
      injection h with h
      subst h
      exact wp_value (v := .bool !b) (by simp only [execOp, heq, h1]; rfl) (leaves_same rfl)
    · cases h
  · rename_i t y z t' heq
    split at h
    · rename_i m n hm hn
      have h1 : a.eval y = .int .i64 m := hev y _ (by simp [heq, Op.operands]) hm
      have h2 : a.eval z = .int .i64 n := hev z _ (by simp [heq, Op.operands]) hn
      injection h with h
      subst h
      exact wp_value (v := .bool (m == n)) (by generalize a.eval = r at *; simp [execOp, heq, h1, h2, go_sem]) (leaves_same rfl)
    · rename_i m n hm hn
      have h1 : a.eval y = .bool m := hev y _ (by simp [heq, Op.operands]) hm
      have h2 : a.eval z = .bool n := hev z _ (by simp [heq, Op.operands]) hn
      split at h
      · rename_i hok
        simp only [beq_iff_eq] at hok
        subst hok
        injection h with h
        subst h
        exact wp_value (v := .bool (m == n)) (by generalize a.eval = r at *; simp [execOp, heq, h1, h2, go_sem]) (leaves_same rfl)
      · cases h
    · rename_i m n hm hn
      split at h
      · rename_i hok
        simp only [beq_iff_eq] at hok
        subst hok
        have h1 : a.eval y = .int .i64 (Env.I m) := hev y _ (by simp [heq, Op.operands]) hm
        have h2 : a.eval z = .int .i64 (Env.I m) := hev z _ (by simp [heq, Op.operands]) hn
        injection h with h
        subst h
        exact wp_value (v := .bool true) (by generalize a.eval = r at *; simp [execOp, heq, h1, h2, go_sem]) (leaves_same rfl)
      · cases h
    · cases h
  · rename_i t ps heq
    exact build_ok heq hev h
  · rename_i t n ps heq
    exact slice_ok heq hev h
  · rename_i t y heq
    split at h
    · rename_i u hu
      obtain ⟨tt, htt, g, A, cap, he, hp, hb, ht⟩ : (Ab.var u).pd p w (a.eval y) := hev y _ (by simp [heq, Op.operands]) hu
      split at h
      · rename_i hok
        simp only [isTerm, beq_iff_eq] at hok
        subst hok
        injection h with h
        subst h
        obtain ⟨c0, c1, c2, c3⟩ := blk4 hb
        exact wp_value (v := VT tt A cap) (w' := w) (by generalize a.eval = r at *; simp [execOp, heq, he, go_sem, c0, c1, c2, c3]) (leaves_same ((tm_pd htt).2 ht))
      · cases h
    · rename_i u hu
      obtain ⟨b, s, A, cap, he, -, c0, c1, c2, c3, ht⟩ : (Ab.termAt u).pd p w (a.eval y) := hev y _ (by simp [heq, Op.operands]) hu
      split at h
      · rename_i hok
        simp only [isTerm, beq_iff_eq] at hok
        subst hok
        injection h with h
        subst h
        exact wp_value (v := VT u A cap) (w' := w) (by generalize a.eval = r at *; simp [execOp, heq, he, go_sem, c0, c1, c2, c3]) (leaves_same ht)
      · cases h
    · rename_i n hn
      obtain ⟨b, s, he, -, c0⟩ : (Ab.intAt n).pd p w (a.eval y) := hev y _ (by simp [heq, Op.operands]) hn
      split at h
      · rename_i hok
        simp only [beq_iff_eq] at hok
        subst hok
        injection h with h
        subst h
        exact wp_value (v := .int .i64 n) (w' := w) (by generalize a.eval = r at *; simp [execOp, heq, he, go_sem, c0]) (leaves_same rfl)
      · cases h
    · cases h
  · rename_i t y z heq
    split at h
    · rename_i l i hl hi
      obtain ⟨A, cap, he, h1, h2, h3, hin⟩ : (Ab.ints l).pd p w (a.eval y) := hev y _ (by simp [heq, Op.operands]) hl
      have hiv : a.eval z = .int .i64 i := hev z _ (by simp [heq, Op.operands]) hi
      split at h
      · rename_i n hn
        split at h
        · rename_i hok
          simp only [isInts, Bool.and_eq_true, decide_eq_true_eq, beq_iff_eq] at hok
          obtain ⟨rfl, h0⟩ := hok
          injection h with h
          subst h
          obtain ⟨m, rfl⟩ := Int.eq_ofNat_of_zero_le h0
          have hm : m < l.length := (List.getElem?_eq_some_iff.1 hn).1
          have hml : l[m] = n := (List.getElem?_eq_some_iff.1 hn).2
          obtain ⟨b, s, rfl, hp, hc⟩ := hin m hm
          rw [hml] at hc
          exact wp_value (v := .pointer (some ⟨b, s + m, none⟩)) (w' := w) (by generalize a.eval = r at *; simp [execOp, heq, he, hiv, go_sem, hm]) (leaves_same ⟨b, s + m, rfl, hp, hc⟩)
        · cases h
      · cases h
    · rename_i l i hl hi
      obtain ⟨A, cap, he, h1, h2, h3, hin⟩ : (Ab.row l).pd p w (a.eval y) := hev y _ (by simp [heq, Op.operands]) hl
      have hiv : a.eval z = .int .i64 i := hev z _ (by simp [heq, Op.operands]) hi
      split at h
      · rename_i n hn
        split at h
        · rename_i hok
          simp only [isTerms, Bool.and_eq_true, decide_eq_true_eq, beq_iff_eq] at hok
          obtain ⟨rfl, h0⟩ := hok
          injection h with h
          subst h
          obtain ⟨m, rfl⟩ := Int.eq_ofNat_of_zero_le h0
          have hm : m < l.length := (List.getElem?_eq_some_iff.1 hn).1
          have hml : l[m] = n := (List.getElem?_eq_some_iff.1 hn).2
          obtain ⟨b, s, A0, cap0, rfl, hp, e0, e1, e2, e3, ht⟩ := hin.get hm
          rw [hml] at e0 e1 e2 e3 ht
          exact wp_value (v := .pointer (some ⟨b, s + m * 4, none⟩)) (w' := w) (by generalize a.eval = r at *; simp [execOp, heq, he, hiv, go_sem, hm]) (leaves_same ⟨b, s + m * 4, A0, cap0, rfl, hp, e0, e1, e2, e3, ht⟩)
        · cases h
      · cases h
    · cases h
  · rename_i y i heq
    split at h
    · rename_i z1 z2 hz
      obtain ⟨v1, v2, he, h1, h2⟩ : (Ab.pair z1 z2).pd p w (a.eval y) := hev y _ (by simp [heq, Op.operands]) hz
      split at h
      · rename_i hi
        simp only [beq_iff_eq] at hi
        subst hi
        injection h with h
        subst h
        exact wp_value (v := v1) (w' := w) (by generalize a.eval = r at *; simp [execOp, heq, he, go_sem]) (leaves_same h1)
      · split at h
        · rename_i hi
          simp only [beq_iff_eq] at hi
          subst hi
          injection h with h
          subst h
          exact wp_value (v := v2) (w' := w) (by generalize a.eval = r at *; simp [execOp, heq, he, go_sem]) (leaves_same h2)
        · cases h
    · cases h
  · rename_i t y heq
    split at h
    · rename_i z hz
      split at h
      · rename_i hok
        simp only [isTerm, Bool.and_eq_true, beq_iff_eq] at hok
        obtain ⟨rfl, hok⟩ := hok
        injection h with h
        subst h
        obtain ⟨tt, htt⟩ := isTm_of hok
        have h1 : TmIn w (Fr p) tt (a.eval y) := (tm_pd htt).1 (hev y _ (by simp [heq, Op.operands]) hz)
        obtain ⟨A, cap, he, -⟩ := h1.form
        refine wp_value (v := .pointer (some ⟨w.heap.size, 0, none⟩)) (w' := w.alloc (TB tt A cap)) (by generalize a.eval = r at *; simp [execOp, heq, he, go_sem]) ?_
        rw [he] at h1
        exact ⟨_, pin0 p w, rfl, Ext.plain ((But.refl _ _).alloc _), tt, htt, w.heap.size, A, cap, rfl, Fr.new, heap_new rfl, h1.alloc _⟩
      · cases h
    · cases h
  · rename_i t heq
    split at h
    · rename_i hok
      simp only [isTerm, beq_iff_eq] at hok
      subst hok
      cases hd : o.dst with
      | none => rw [hd] at h; cases h
      | some s =>
        rw [hd] at h
        simp only [Option.map_some, Option.some.injEq] at h
        subst h
        refine wp_value (v := .pointer (some ⟨w.heap.size, 0, none⟩)) (w' := w.alloc (TB zeroT none 0)) (by generalize a.eval = r at *; simp [execOp, heq, go_sem, zeroT, TB, Tm.kind, Tm.num, Tm.name, Tm.args]) ?_
        refine ⟨_, fun b => if b = w.heap.size then some (s + 1) else p b, rfl, ⟨(But.refl _ _).alloc _, fun b hb => if_neg (by omega)⟩, ⟨w.heap.size, rfl, if_pos rfl, heap_new rfl⟩⟩
    · cases h
  · rename_i c heq
    split at h
    · rename_i f hcal
      split at h
      · rename_i l hl
        obtain ⟨callee, ⟨args⟩, tys⟩ := c
        obtain rfl : callee = .value (.func f) := hcal
        have hargs := evs_ok (p := p) (w := w) hF hl (fun y hy t ht => hf t (by
          unfold opTmps
          exact List.mem_filterMap.2 ⟨y, by simp [heq, Op.operands, Call.operands]; exact .inr hy, by rw [ht]⟩))
        refine wp_calls (f := f) (args := (args.map a.eval).toArray) ?_ (((hC f l x h).2 p w _ hargs).mono ?_)
        · have hen := (hC f l x h).1
          have hfv : a.eval (.func f) = .func (.func f) #[] #[] := rfl
          generalize a.eval = r at *
          simp [execOp, heq, go_sem, hfv, hen, resolve]
        · rintro e w' ⟨v, p', rfl, hx, hv⟩
          exact ⟨v, rfl, v, p', rfl, hx, hv⟩
      · cases h
    · rename_i hcal
      exact len_ok heq hcal hev h
    · cases h
  · cases h
end
end Go.Proofs.Ytgedgmdbpembiaa
