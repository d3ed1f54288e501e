/-
  The operations on what is known of the values: sound. No condition.
-/
import Derived.Test.YtloekfnlidclcaaAb
namespace Go.Proofs.Ytloekfnlidclcaa
open Go.RowKit
set_option linter.unusedVariables false
variable [Env]

section
variable {Q : Exit → Act → World → Prop}

def Evs (ρ : Tmp → Option Ab) (a : Act) (p : Nat → Option Nat) (w : World) (l : List Operand) : Prop := ∀ y z, y ∈ l → ev ρ y = some z → z.pd p w (a.eval y)

theorem len_ok {ρ : Tmp → Option Ab} {o : Oper} {c : Call} {a : Act} {p : Nat → Option Nat} {w : World} {x : Ab} (heq : o.op = .call c) (hb : c.callee = .builtin .len) (hev : Evs ρ a p w o.op.operands.toList)
    (h : absLen ρ c.args.toList c.argTypes.toList = some x) : o.wp Try.prog a w (Leaves x.pd o a p w) Q := by
  obtain ⟨callee, ⟨args⟩, ⟨tys⟩⟩ := c
  obtain rfl : callee = .builtin .len := hb
  unfold absLen at h
  split at h
  · rename_i y t hl ht
    obtain rfl : args = [y] := hl
    obtain rfl : tys = [t] := ht
    split at h
    · rename_i l hy
      obtain ⟨A, cap, he, -⟩ : (Ab.ints l).pd p w (a.eval y) := hev y _ (by simp [heq, Op.operands, Call.operands]) hy
      split at h
      · rename_i hok
        simp [isInts] at hok
      · cases h
    · rename_i l hy
      obtain ⟨A, cap, he, -⟩ : (Ab.row l).pd p w (a.eval y) := hev y _ (by simp [heq, Op.operands, Call.operands]) hy
      split at h
      · rename_i hok
        simp only [isTerms, beq_iff_eq] at hok
        subst hok
        injection h with h
        subst h
        exact wp_value (v := .int .i64 l.length) (w' := w) (by generalize a.eval = r at *; simp [execOp, heq, he, go_sem]) (leaves_same rfl)
      · cases h
    · rename_i n hy
      obtain ⟨A, cap, he, -⟩ : (Ab.itok n).pd p w (a.eval y) := hev y _ (by simp [heq, Op.operands, Call.operands]) hy
      split at h
      · rename_i hok
        simp [isInts] at hok
      · cases h
    · rename_i n hy
      obtain ⟨A, cap, he, -⟩ : (Ab.rtok n).pd p w (a.eval y) := hev y _ (by simp [heq, Op.operands, Call.operands]) hy
      split at h
      · rename_i hok
        simp only [isTerms, beq_iff_eq] at hok
        subst hok
        obtain ⟨g, hg, hgx⟩ := env_find h
        split at hgx
        · rename_i n' k
          split at hgx
          · rename_i hn
            simp only [beq_iff_eq] at hn
            subst hn
            injection hgx with hgx
            subst hgx
            exact wp_value (v := .int .i64 (Env.R n').length) (w' := w) (by generalize a.eval = r at *; simp [execOp, heq, he, go_sem]) (leaves_same (by show Value.int .i64 _ = .int .i64 (Env.I k); rw [show (((Env.R n').length : Nat) : Int) = Env.I k from hg]))
          · cases hgx
        · cases hgx
      · cases h
    · rename_i l hy
      obtain ⟨A, cap, he, -⟩ : (Ab.srow l).pd p w (a.eval y) := hev y _ (by simp [heq, Op.operands, Call.operands]) hy
      split at h
      · rename_i hok
        simp only [isStrs, beq_iff_eq] at hok
        subst hok
        injection h with h
        subst h
        exact wp_value (v := .int .i64 l.length) (w' := w) (by generalize a.eval = r at *; simp [execOp, heq, he, go_sem]) (leaves_same rfl)
      · cases h
    · rename_i s hy
      have he : a.eval y = .string s := hev y _ (by simp [heq, Op.operands, Call.operands]) hy
      split at h
      · rename_i hok
        simp only [beq_iff_eq] at hok
        subst hok
        injection h with h
        subst h
        exact wp_value (v := .int .i64 s.size) (w' := w) (by generalize a.eval = r at *; simp [execOp, heq, he, go_sem]) (leaves_same rfl)
      · cases h
    · rename_i n hy
      have he : a.eval y = .string (Env.S n) := hev y _ (by simp [heq, Op.operands, Call.operands]) hy
      split at h
      · rename_i hok
        simp only [beq_iff_eq] at hok
        subst hok
        obtain ⟨g, hg, hgx⟩ := env_find h
        split at hgx
        · rename_i n' k
          split at hgx
          · rename_i hn
            simp only [beq_iff_eq] at hn
            subst hn
            injection hgx with hgx
            subst hgx
            exact wp_value (v := .int .i64 (Env.S n').size) (w' := w) (by generalize a.eval = r at *; simp [execOp, heq, he, go_sem]) (leaves_same (by show Value.int .i64 _ = .int .i64 (Env.I k); rw [show (((Env.S n').size : Nat) : Int) = Env.I k from hg]))
          · cases hgx
        · cases hgx
      · cases h
    · cases h
  · cases h

theorem irOf_ok {x : Ab} {i : IR} (h : irOf x = some i) {p : Nat → Option Nat} {w : World} {v : Value} (hv : x.pd p w v) : v = .int .i64 (i.at Env.I) := by
  unfold irOf at h
  split at h
  · injection h with h; subst h; exact hv
  · injection h with h; subst h; exact hv
  · cases h

theorem srOf_ok {x : Ab} {i : SR} (h : srOf x = some i) {p : Nat → Option Nat} {w : World} {v : Value} (hv : x.pd p w v) : v = .string (i.at Env.S) := by
  unfold srOf at h
  split at h
  · injection h with h; subst h; exact hv
  · injection h with h; subst h; exact hv
  · cases h

theorem row_pins {p : Nat → Option Nat} {w : World} {ts : List Tm} {cs : Array Value} (h : ArgsIn (w.alloc (.cells cs 24)) (Fr (pin0 p w)) ts (some ⟨w.heap.size, 0, none⟩) 0) (hl : ts.length ≤ 1000) {n : Nat} (hn : n = ts.length) :
    (Ab.row ts).pd (pin0 p w) (w.alloc (.cells cs 24)) (.slice (some ⟨w.heap.size, 0, none⟩) n n) := by
  subst hn
  exact ⟨_, _, rfl, Nat.le_refl _, by omega, by unfold maxLen; omega, h⟩

theorem slice_ok {ρ : Tmp → Option Ab} {o : Oper} {a : Act} {p : Nat → Option Nat} {w : World} {t : TypeId} {n : Nat} {ps : Array (Nat × Operand)} {x : Ab} (heq : o.op = .buildSlice t n ps) (hev : Evs ρ a p w o.op.operands.toList)
    (h : absSlice ρ t n ps.toList = some x) : o.wp Try.prog a w (Leaves x.pd o a p w) Q := by
  obtain ⟨l⟩ := ps
  unfold absSlice at h
  split at h
  · rename_i i y hl
    obtain rfl : l = [(i, y)] := hl
    split at h
    · rename_i u hu
      have h1 : TmIn w (Fr p) u (a.eval y) := hev y _ (by simp [heq, Op.operands]) hu
      split at h
      · rename_i hok
        simp only [Bool.and_eq_true, isTerms, beq_iff_eq] at hok
        obtain ⟨⟨rfl, rfl⟩, rfl⟩ := hok
        injection h with h
        subst h
        obtain ⟨A, cap, he, -⟩ := h1.form
        refine wp_value (v := .slice (some ⟨w.heap.size, 0, none⟩) 1 1) (w' := w.alloc (.cells (C4 u A cap).toArray 24)) (by generalize a.eval = r at *; simp [execOp, heq, he, go_sem]) ?_
        refine ⟨_, pin0 p w, rfl, Ext.plain ((But.refl _ _).alloc _), row_pins ?_ (by simp) rfl⟩
        unfold ArgsIn ArgsIn
        rw [he] at h1
        have hb := heap_new (w := w) (o := .cells (C4 u A cap).toArray 24) rfl
        exact ⟨⟨w.heap.size, 0, _, _, _, _, rfl, Fr.new, cell_of_row _ _ 0 _ _ _ hb, cell_of_row _ _ 1 _ _ _ hb, cell_of_row _ _ 2 _ _ _ hb, cell_of_row _ _ 3 _ _ _ hb, h1.alloc _⟩, trivial⟩
      · cases h
    · rename_i u hu
      have h1 : TmIn w (Fr p) (Env.T u) (a.eval y) := hev y _ (by simp [heq, Op.operands]) hu
      split at h
      · rename_i hok
        simp only [Bool.and_eq_true, isTerms, beq_iff_eq] at hok
        obtain ⟨⟨rfl, rfl⟩, rfl⟩ := hok
        injection h with h
        subst h
        obtain ⟨A, cap, he, -⟩ := h1.form
        refine wp_value (v := .slice (some ⟨w.heap.size, 0, none⟩) 1 1) (w' := w.alloc (.cells (C4 (Env.T u) A cap).toArray 24)) (by generalize a.eval = r at *; simp [execOp, heq, he, go_sem]) ?_
        refine ⟨_, pin0 p w, rfl, Ext.plain ((But.refl _ _).alloc _), row_pins (ts := [Env.T u]) ?_ (by simp) rfl⟩
        unfold ArgsIn ArgsIn
        rw [he] at h1
        have hb := heap_new (w := w) (o := .cells (C4 (Env.T u) A cap).toArray 24) rfl
        exact ⟨⟨w.heap.size, 0, _, _, _, _, rfl, Fr.new, cell_of_row _ _ 0 _ _ _ hb, cell_of_row _ _ 1 _ _ _ hb, cell_of_row _ _ 2 _ _ _ hb, cell_of_row _ _ 3 _ _ _ hb, h1.alloc _⟩, trivial⟩
      · cases h
    · rename_i y0 _ _ hy0
      split at h
      · rename_i sa hsa
        have h1 : a.eval y = .string (sa.at Env.S) := srOf_ok hsa (hev y _ (by simp [heq, Op.operands]) hy0)
        split at h
        · rename_i hok
          simp only [Bool.and_eq_true, isStrs, beq_iff_eq] at hok
          obtain ⟨⟨rfl, rfl⟩, rfl⟩ := hok
          injection h with h
          subst h
          refine wp_value (v := .slice (some ⟨w.heap.size, 0, none⟩) 1 1) (w' := w.alloc (.cells #[.string (sa.at Env.S)] 9)) (by generalize a.eval = r at *; simp [execOp, heq, h1, go_sem]) ?_
          have hb := heap_new (w := w) (o := .cells #[.string (sa.at Env.S)] 9) rfl
          refine ⟨_, pin0 p w, rfl, Ext.plain ((But.refl _ _).alloc _), some ⟨w.heap.size, 0, none⟩, 1, rfl, Nat.le_refl _, by unfold maxLen; omega, fun j hj => ?_⟩
          obtain rfl : j = 0 := by simpa using hj
          exact ⟨w.heap.size, 0, rfl, Fr.new, cell_of_row _ _ 0 _ _ _ hb⟩
        · cases h
      · cases h
    · cases h
  · rename_i i y j z hl
    obtain rfl : l = [(i, y), (j, z)] := hl
    split at h
    · rename_i u v hu hv
      have h1 : TmIn w (Fr p) u (a.eval y) := hev y _ (by simp [heq, Op.operands]) hu
      have h2 : TmIn w (Fr p) v (a.eval z) := hev z _ (by simp [heq, Op.operands]) hv
      split at h
      · rename_i hok
        simp only [Bool.and_eq_true, isTerms, beq_iff_eq] at hok
        obtain ⟨⟨⟨rfl, rfl⟩, rfl⟩, rfl⟩ := hok
        injection h with h
        subst h
        obtain ⟨A, cap, he, -⟩ := h1.form
        obtain ⟨A', cap', he', -⟩ := h2.form
        refine wp_value (v := .slice (some ⟨w.heap.size, 0, none⟩) 2 2) (w' := w.alloc (.cells (C4 u A cap ++ C4 v A' cap').toArray 24)) (by generalize a.eval = r at *; simp [execOp, heq, he, he', go_sem]) ?_
        refine ⟨_, pin0 p w, rfl, Ext.plain ((But.refl _ _).alloc _), row_pins ?_ (by simp) rfl⟩
        unfold ArgsIn ArgsIn ArgsIn
        rw [he] at h1
        rw [he'] at h2
        have hb := heap_new (w := w) (o := .cells (C4 u A cap ++ C4 v A' cap').toArray 24) rfl
        exact ⟨⟨w.heap.size, 0, _, _, _, _, rfl, Fr.new, cell_of_row _ _ 0 _ _ _ hb, cell_of_row _ _ 1 _ _ _ hb, cell_of_row _ _ 2 _ _ _ hb, cell_of_row _ _ 3 _ _ _ hb, h1.alloc _⟩,
          ⟨w.heap.size, 0, _, _, _, _, rfl, Fr.new, cell_of_row _ _ 4 _ _ _ hb, cell_of_row _ _ 5 _ _ _ hb, cell_of_row _ _ 6 _ _ _ hb, cell_of_row _ _ 7 _ _ _ hb, h2.alloc _⟩, trivial⟩
      · cases h
    · rename_i u v hu hv
      have h1 : TmIn w (Fr p) (Env.T u) (a.eval y) := hev y _ (by simp [heq, Op.operands]) hu
      have h2 : TmIn w (Fr p) (Env.T v) (a.eval z) := hev z _ (by simp [heq, Op.operands]) hv
      split at h
      · rename_i hok
        simp only [Bool.and_eq_true, isTerms, beq_iff_eq] at hok
        obtain ⟨⟨⟨rfl, rfl⟩, rfl⟩, rfl⟩ := hok
        injection h with h
        subst h
        obtain ⟨A, cap, he, -⟩ := h1.form
        obtain ⟨A', cap', he', -⟩ := h2.form
        refine wp_value (v := .slice (some ⟨w.heap.size, 0, none⟩) 2 2) (w' := w.alloc (.cells (C4 (Env.T u) A cap ++ C4 (Env.T v) A' cap').toArray 24)) (by generalize a.eval = r at *; simp [execOp, heq, he, he', go_sem]) ?_
        refine ⟨_, pin0 p w, rfl, Ext.plain ((But.refl _ _).alloc _), row_pins (ts := [Env.T u, Env.T v]) ?_ (by simp) rfl⟩
        unfold ArgsIn ArgsIn ArgsIn
        rw [he] at h1
        rw [he'] at h2
        have hb := heap_new (w := w) (o := .cells (C4 (Env.T u) A cap ++ C4 (Env.T v) A' cap').toArray 24) rfl
        exact ⟨⟨w.heap.size, 0, _, _, _, _, rfl, Fr.new, cell_of_row _ _ 0 _ _ _ hb, cell_of_row _ _ 1 _ _ _ hb, cell_of_row _ _ 2 _ _ _ hb, cell_of_row _ _ 3 _ _ _ hb, h1.alloc _⟩,
          ⟨w.heap.size, 0, _, _, _, _, rfl, Fr.new, cell_of_row _ _ 4 _ _ _ hb, cell_of_row _ _ 5 _ _ _ hb, cell_of_row _ _ 6 _ _ _ hb, cell_of_row _ _ 7 _ _ _ hb, h2.alloc _⟩, trivial⟩
      · cases h
    · rename_i y0 z0 _ _ hy0 hz0
      split at h
      · rename_i sa sb hsa hsb
        have h1 : a.eval y = .string (sa.at Env.S) := srOf_ok hsa (hev y _ (by simp [heq, Op.operands]) hy0)
        have h2 : a.eval z = .string (sb.at Env.S) := srOf_ok hsb (hev z _ (by simp [heq, Op.operands]) hz0)
        split at h
        · rename_i hok
          simp only [Bool.and_eq_true, isStrs, beq_iff_eq] at hok
          obtain ⟨⟨⟨rfl, rfl⟩, rfl⟩, rfl⟩ := hok
          injection h with h
          subst h
          refine wp_value (v := .slice (some ⟨w.heap.size, 0, none⟩) 2 2) (w' := w.alloc (.cells #[.string (sa.at Env.S), .string (sb.at Env.S)] 9)) (by generalize a.eval = r at *; simp [execOp, heq, h1, h2, go_sem]) ?_
          have hb := heap_new (w := w) (o := .cells #[.string (sa.at Env.S), .string (sb.at Env.S)] 9) rfl
          refine ⟨_, pin0 p w, rfl, Ext.plain ((But.refl _ _).alloc _), some ⟨w.heap.size, 0, none⟩, 2, rfl, Nat.le_refl _, by unfold maxLen; omega, fun j hj => ?_⟩
          have hj2 : j < 2 := by simpa using hj
          match j, hj2 with
          | 0, _ => exact ⟨w.heap.size, 0, rfl, Fr.new, cell_of_row _ _ 0 _ _ _ hb⟩
          | 1, _ => exact ⟨w.heap.size, 0, rfl, Fr.new, cell_of_row _ _ 1 _ _ _ hb⟩
        · cases h
      · cases h
    · cases h
  · rename_i i y j z k r hl
    obtain rfl : l = [(i, y), (j, z), (k, r)] := hl
    split at h
    · rename_i u v s hu hv hs
      have h1 : TmIn w (Fr p) u (a.eval y) := hev y _ (by simp [heq, Op.operands]) hu
      have h2 : TmIn w (Fr p) v (a.eval z) := hev z _ (by simp [heq, Op.operands]) hv
      have h3 : TmIn w (Fr p) s (a.eval r) := hev r _ (by simp [heq, Op.operands]) hs
      split at h
      · rename_i hok
        simp only [Bool.and_eq_true, isTerms, beq_iff_eq] at hok
        obtain ⟨⟨⟨⟨rfl, rfl⟩, rfl⟩, rfl⟩, rfl⟩ := hok
        injection h with h
        subst h
        obtain ⟨A, cap, he, -⟩ := h1.form
        obtain ⟨A', cap', he', -⟩ := h2.form
        obtain ⟨A'', cap'', he'', -⟩ := h3.form
        refine wp_value (v := .slice (some ⟨w.heap.size, 0, none⟩) 3 3) (w' := w.alloc (.cells (C4 u A cap ++ C4 v A' cap' ++ C4 s A'' cap'').toArray 24)) (by generalize a.eval = r at *; simp [execOp, heq, he, he', he'', go_sem]) ?_
        refine ⟨_, pin0 p w, rfl, Ext.plain ((But.refl _ _).alloc _), row_pins ?_ (by simp) rfl⟩
        unfold ArgsIn ArgsIn ArgsIn ArgsIn
        rw [he] at h1
        rw [he'] at h2
        rw [he''] at h3
        have hb := heap_new (w := w) (o := .cells (C4 u A cap ++ C4 v A' cap' ++ C4 s A'' cap'').toArray 24) rfl
        exact ⟨⟨w.heap.size, 0, _, _, _, _, rfl, Fr.new, cell_of_row _ _ 0 _ _ _ hb, cell_of_row _ _ 1 _ _ _ hb, cell_of_row _ _ 2 _ _ _ hb, cell_of_row _ _ 3 _ _ _ hb, h1.alloc _⟩,
          ⟨w.heap.size, 0, _, _, _, _, rfl, Fr.new, cell_of_row _ _ 4 _ _ _ hb, cell_of_row _ _ 5 _ _ _ hb, cell_of_row _ _ 6 _ _ _ hb, cell_of_row _ _ 7 _ _ _ hb, h2.alloc _⟩,
          ⟨w.heap.size, 0, _, _, _, _, rfl, Fr.new, cell_of_row _ _ 8 _ _ _ hb, cell_of_row _ _ 9 _ _ _ hb, cell_of_row _ _ 10 _ _ _ hb, cell_of_row _ _ 11 _ _ _ hb, h3.alloc _⟩, trivial⟩
      · cases h
    · rename_i u v s hu hv hs
      have h1 : TmIn w (Fr p) (Env.T u) (a.eval y) := hev y _ (by simp [heq, Op.operands]) hu
      have h2 : TmIn w (Fr p) (Env.T v) (a.eval z) := hev z _ (by simp [heq, Op.operands]) hv
      have h3 : TmIn w (Fr p) (Env.T s) (a.eval r) := hev r _ (by simp [heq, Op.operands]) hs
      split at h
      · rename_i hok
        simp only [Bool.and_eq_true, isTerms, beq_iff_eq] at hok
        obtain ⟨⟨⟨⟨rfl, rfl⟩, rfl⟩, rfl⟩, rfl⟩ := hok
        injection h with h
        subst h
        obtain ⟨A, cap, he, -⟩ := h1.form
        obtain ⟨A', cap', he', -⟩ := h2.form
        obtain ⟨A'', cap'', he'', -⟩ := h3.form
        refine wp_value (v := .slice (some ⟨w.heap.size, 0, none⟩) 3 3) (w' := w.alloc (.cells (C4 (Env.T u) A cap ++ C4 (Env.T v) A' cap' ++ C4 (Env.T s) A'' cap'').toArray 24)) (by generalize a.eval = r at *; simp [execOp, heq, he, he', he'', go_sem]) ?_
        refine ⟨_, pin0 p w, rfl, Ext.plain ((But.refl _ _).alloc _), row_pins (ts := [Env.T u, Env.T v, Env.T s]) ?_ (by simp) rfl⟩
        unfold ArgsIn ArgsIn ArgsIn ArgsIn
        rw [he] at h1
        rw [he'] at h2
        rw [he''] at h3
        have hb := heap_new (w := w) (o := .cells (C4 (Env.T u) A cap ++ C4 (Env.T v) A' cap' ++ C4 (Env.T s) A'' cap'').toArray 24) rfl
        exact ⟨⟨w.heap.size, 0, _, _, _, _, rfl, Fr.new, cell_of_row _ _ 0 _ _ _ hb, cell_of_row _ _ 1 _ _ _ hb, cell_of_row _ _ 2 _ _ _ hb, cell_of_row _ _ 3 _ _ _ hb, h1.alloc _⟩,
          ⟨w.heap.size, 0, _, _, _, _, rfl, Fr.new, cell_of_row _ _ 4 _ _ _ hb, cell_of_row _ _ 5 _ _ _ hb, cell_of_row _ _ 6 _ _ _ hb, cell_of_row _ _ 7 _ _ _ hb, h2.alloc _⟩,
          ⟨w.heap.size, 0, _, _, _, _, rfl, Fr.new, cell_of_row _ _ 8 _ _ _ hb, cell_of_row _ _ 9 _ _ _ hb, cell_of_row _ _ 10 _ _ _ hb, cell_of_row _ _ 11 _ _ _ hb, h3.alloc _⟩, trivial⟩
      · cases h
    · cases h
  · cases h

theorem relOf_ok {r : Rel} {a b : IR} {c : Bool} (h : relOf r a b = some c) : r.says (a.at Env.I) (b.at Env.I) = c := by
  unfold relOf at h
  split at h
  · injection h
  · obtain ⟨g, hg, hx⟩ := env_find h
    split at hx
    · split at hx
      · rename_i hok
        simp only [Bool.and_eq_true] at hok
        obtain ⟨⟨h1, h2⟩, h3⟩ := hok
        injection hx with hx
        subst hx
        rw [← Rel.beq_ok h1, ← IR.beq_ok h2, ← IR.beq_ok h3]
        exact hg
      · cases hx
    · cases hx

theorem ariOf_ok {o : Ari} {a b : IR} {k : Nat} (h : ariOf o a b = some k) : o.says (a.at Env.I) (b.at Env.I) = Env.I k ∧ wf64 (Env.I k) := by
  unfold ariOf at h
  obtain ⟨g, hg, hx⟩ := env_find h
  split at hx
  · split at hx
    · rename_i hok
      simp only [Bool.and_eq_true] at hok
      obtain ⟨⟨h1, h2⟩, h3⟩ := hok
      injection hx with hx
      subst hx
      rw [← Ari.beq_ok h1, ← IR.beq_ok h2, ← IR.beq_ok h3]
      exact hg
    · cases hx
  · cases hx

theorem ariAb_ok {o : Ari} {a b : IR} {x : Ab} (h : ariAb o a b = some x) : ∃ n, (∀ p w, x.pd p w (.int .i64 n)) ∧ o.says (a.at Env.I) (b.at Env.I) = n ∧ wf64 n := by
  unfold ariAb at h
  split at h
  · split at h
    · rename_i hok
      simp only [Bool.and_eq_true, decide_eq_true_eq] at hok
      injection h with h
      subst h
      exact ⟨_, fun _ _ => rfl, rfl, hok⟩
    · cases h
  · simp only [Option.map_eq_some_iff] at h
    obtain ⟨k, hk, rfl⟩ := h
    obtain ⟨h3, h4⟩ := ariOf_ok hk
    exact ⟨Env.I k, fun _ _ => rfl, h3, h4⟩

theorem seqOf_ok {a b : SR} {c : Bool} (h : seqOf a b = some c) : decide (a.at Env.S = b.at Env.S) = c := by
  unfold seqOf at h
  obtain ⟨g, hg, hx⟩ := env_find h
  split at hx
  · split at hx
    · rename_i hok
      simp only [Bool.and_eq_true] at hok
      obtain ⟨h1, h2⟩ := hok
      injection hx with hx
      subst hx
      rw [← SR.beq_ok h1, ← SR.beq_ok h2]
      exact hg
    · cases hx
  · cases hx

omit [Env] in
theorem flat_in {k n : Int} {s : ByteArray} (h1 : wf64 k) (h2 : wf64 n) (h3 : s.size ≤ 140737488351232) (w : World) (D : Nat → Prop) : TmIn w D (.mk k n s []) (.agg #[.int .i64 k, .int .i64 n, .string s, .slice none 0 0]) :=
  TmIn.keeps (fun k o hk hd => absurd hd.1 (by have := lt_of_heap hk; omega)) _ (flat_new (w := w) (B := w.heap.size) h1 h2 h3)

theorem mkOf_ok {k n : IR} {s : SR} {l : List Nat} {x : Ab} (h : mkOf k n s l = some x) : ∃ m, x = .tok m ∧ Env.T m = .mk (k.at Env.I) (n.at Env.I) (s.at Env.S) (l.map Env.T) ∧ wf64 (k.at Env.I) ∧ wf64 (n.at Env.I) ∧ (s.at Env.S).size ≤ 140737488351232 := by
  unfold mkOf at h
  obtain ⟨g, hg, hx⟩ := env_find h
  split at hx
  · rename_i m k' n' s' l'
    split at hx
    · rename_i hok
      simp only [Bool.and_eq_true, beq_iff_eq] at hok
      obtain ⟨⟨⟨h1, h2⟩, h3⟩, h4⟩ := hok
      injection hx with hx
      rw [← IR.beq_ok h1, ← IR.beq_ok h2, ← SR.beq_ok h3, ← h4]
      exact ⟨m, hx.symm, hg⟩
    · cases hx
  · cases hx

theorem mkrOf_ok {k n : IR} {s : SR} {r : Nat} {x : Ab} (h : mkrOf k n s r = some x) : ∃ m, x = .tok m ∧ Env.T m = .mk (k.at Env.I) (n.at Env.I) (s.at Env.S) (Env.R r) ∧ wf64 (k.at Env.I) ∧ wf64 (n.at Env.I) ∧ (s.at Env.S).size ≤ 140737488351232 := by
  unfold mkrOf at h
  obtain ⟨g, hg, hx⟩ := env_find h
  split at hx
  · rename_i m k' n' s' r'
    split at hx
    · rename_i hok
      simp only [Bool.and_eq_true, beq_iff_eq] at hok
      obtain ⟨⟨⟨h1, h2⟩, h3⟩, h4⟩ := hok
      injection hx with hx
      rw [← IR.beq_ok h1, ← IR.beq_ok h2, ← SR.beq_ok h3, ← h4]
      exact ⟨m, hx.symm, hg⟩
    · cases hx
  · cases hx

theorem tok_flat {m : Nat} {k n : Int} {s : ByteArray} (h : Env.T m = .mk k n s []) (h1 : wf64 k) (h2 : wf64 n) (h3 : s.size ≤ 140737488351232) (p : Nat → Option Nat) (w : World) : (Ab.tok m).pd p w (.agg #[.int .i64 k, .int .i64 n, .string s, .slice none 0 0]) := by
  show TmIn w (Fr p) (Env.T m) _
  rw [h]
  exact flat_in h1 h2 h3 _ _

theorem tok_args {m : Nat} {k n : Int} {s : ByteArray} {l : List Tm} {A : Option Addr} {cap : Nat} (h : Env.T m = .mk k n s l) (h1 : wf64 k) (h2 : wf64 n) (h3 : s.size ≤ 140737488351232) {p : Nat → Option Nat} {w : World} (h4 : l.length ≤ cap) (h5 : l.length ≤ 140737488351232) (h6 : cap ≤ maxLen)
    (h7 : ArgsIn w (Fr p) l A 0) : (Ab.tok m).pd p w (.agg #[.int .i64 k, .int .i64 n, .string s, .slice A l.length cap]) := by
  show TmIn w (Fr p) (Env.T m) _
  rw [h]
  unfold TmIn
  exact ⟨A, l.length, cap, rfl, h1, h2, h3, rfl, h4, h5, h6, h7⟩

theorem build_ok {ρ : Tmp → Option Ab} {o : Oper} {a : Act} {p : Nat → Option Nat} {w : World} {t : TypeId} {ps : Array (Nat × Operand)} {x : Ab} (heq : o.op = .build t ps) (hev : Evs ρ a p w o.op.operands.toList)
    (h : absBuild ρ t ps.toList = some x) : o.wp Try.prog a w (Leaves x.pd o a p w) Q := by
  obtain ⟨l⟩ := ps
  unfold absBuild at h
  split at h
  · rename_i i y j z hl
    obtain rfl : l = [(i, y), (j, z)] := hl
    split at h
    · rename_i k s hk hs
      have h1 : a.eval y = .int .i64 k := hev y _ (by simp [heq, Op.operands]) hk
      have h2 : a.eval z = .string s := hev z _ (by simp [heq, Op.operands]) hs
      split at h
      · rename_i hok
        simp only [Bool.and_eq_true, decide_eq_true_eq, isTerm, beq_iff_eq] at hok
        obtain ⟨⟨⟨⟨⟨rfl, rfl⟩, rfl⟩, h3⟩, h4⟩, h5⟩ := hok
        injection h with h
        subst h
        refine wp_value (v := .agg #[.int .i64 k, .int .i64 0, .string s, .slice none 0 0]) (w' := w) (by generalize a.eval = r at *; simp [execOp, heq, h1, h2, go_sem]) (leaves_same ?_)
        exact TmIn.keeps (fun k o hk hd => ⟨hk, by have := hd.1; have := lt_of_heap hk; omega⟩) _ (flat_new (w := w) (B := w.heap.size) ⟨h3, h4⟩ (by unfold wf64; omega) h5)
      · cases h
    · rename_i x1 x2 _ hx1 hx2
      have h1 := hev y _ (by simp [heq, Op.operands]) hx1
      have h2 := hev z _ (by simp [heq, Op.operands]) hx2
      split at h
      · rename_i hok
        simp only [Bool.and_eq_true, isTerm, beq_iff_eq] at hok
        obtain ⟨⟨rfl, rfl⟩, rfl⟩ := hok
        split at h
        · rename_i k s hk hs
          have e1 := irOf_ok hk h1
          have e2 := srOf_ok hs h2
          obtain ⟨m, rfl, hm, h3, h4, h5⟩ := mkOf_ok h
          exact wp_value (v := .agg #[.int .i64 (k.at Env.I), .int .i64 0, .string (s.at Env.S), .slice none 0 0]) (w' := w) (by generalize a.eval = r at *; simp [execOp, heq, e1, e2, go_sem]) (leaves_same (tok_flat hm h3 h4 h5 _ _))
        · cases h
      · split at h
        · rename_i hok
          simp only [Bool.and_eq_true, isTerm, beq_iff_eq] at hok
          obtain ⟨⟨rfl, rfl⟩, rfl⟩ := hok
          split at h
          · rename_i k n hk hn
            have e1 := irOf_ok hk h1
            have e2 := irOf_ok hn h2
            obtain ⟨m, rfl, hm, h3, h4, h5⟩ := mkOf_ok h
            exact wp_value (v := .agg #[.int .i64 (k.at Env.I), .int .i64 (n.at Env.I), .string ⟨#[]⟩, .slice none 0 0]) (w' := w) (by generalize a.eval = r at *; simp [execOp, heq, e1, e2, go_sem]) (leaves_same (tok_flat hm h3 h4 h5 _ _))
          · cases h
        · cases h
    · cases h
  · rename_i i y hl
    obtain rfl : l = [(i, y)] := hl
    split at h
    · rename_i x1 hx1
      have h1 := hev y _ (by simp [heq, Op.operands]) hx1
      split at h
      · rename_i hok
        simp only [Bool.and_eq_true, isTerm, beq_iff_eq] at hok
        obtain ⟨rfl, rfl⟩ := hok
        split at h
        · rename_i n hn
          have e1 := irOf_ok hn h1
          obtain ⟨m, rfl, hm, h3, h4, h5⟩ := mkOf_ok h
          exact wp_value (v := .agg #[.int .i64 0, .int .i64 (n.at Env.I), .string ⟨#[]⟩, .slice none 0 0]) (w' := w) (by generalize a.eval = r at *; simp [execOp, heq, e1, go_sem]) (leaves_same (tok_flat hm h3 h4 h5 _ _))
        · cases h
      · cases h
    · cases h
  · rename_i i y j z k u hl
    obtain rfl : l = [(i, y), (j, z), (k, u)] := hl
    split at h
    · rename_i x1 x2 x3 hx1 hx2 hx3
      have h1 := hev y _ (by simp [heq, Op.operands]) hx1
      have h2 := hev z _ (by simp [heq, Op.operands]) hx2
      have h3 := hev u _ (by simp [heq, Op.operands]) hx3
      split at h
      · rename_i hok
        simp only [Bool.and_eq_true, isTerm, beq_iff_eq] at hok
        obtain ⟨⟨⟨rfl, rfl⟩, rfl⟩, rfl⟩ := hok
        split at h
        · rename_i kk ss ll hk hs
          have e1 := irOf_ok hk h1
          have e2 := srOf_ok hs h2
          obtain ⟨A, cap, e3, g1, g2, g3, g4⟩ := h3
          obtain ⟨m, rfl, hm, h3, h4, h5⟩ := mkOf_ok h
          refine wp_value (v := .agg #[.int .i64 (kk.at Env.I), .int .i64 0, .string (ss.at Env.S), .slice A ll.length cap]) (w' := w) (by generalize a.eval = r at *; simp [execOp, heq, e1, e2, e3, go_sem]) (leaves_same ?_)
          have := tok_args (cap := cap) (A := A) hm h3 h4 h5 (p := p) (w := w) (by simpa using g1) (by simpa using g2) g3 g4
          rw [List.length_map] at this
          exact this
        · rename_i kk ss rr hk hs
          have e1 := irOf_ok hk h1
          have e2 := srOf_ok hs h2
          obtain ⟨A, cap, e3, g1, g2, g3, g4⟩ := h3
          obtain ⟨m, rfl, hm, h3, h4, h5⟩ := mkrOf_ok h
          exact wp_value (v := .agg #[.int .i64 (kk.at Env.I), .int .i64 0, .string (ss.at Env.S), .slice A (Env.R rr).length cap]) (w' := w) (by generalize a.eval = r at *; simp [execOp, heq, e1, e2, e3, go_sem]) (leaves_same (tok_args hm h3 h4 h5 g1 g2 g3 g4))
        · cases h
      · cases h
    · cases h
  · rename_i hl
    obtain rfl : l = [] := hl
    split at h
    · rename_i hok
      simp only [isTerm, beq_iff_eq] at hok
      subst hok
      injection h with h
      subst h
      refine wp_value (v := .agg #[.int .i64 0, .int .i64 0, .string ⟨#[]⟩, .slice none 0 0]) (w' := w) (by generalize a.eval = r at *; simp [execOp, heq, go_sem]) (leaves_same ?_)
      exact TmIn.keeps (fun k o hk hd => ⟨hk, by have := hd.1; have := lt_of_heap hk; omega⟩) _ (zero_new w w.heap.size)
    · cases h
  · cases h

omit [Env] in
theorem i64_in {n : Int} (h1 : -9223372036854775808 ≤ n) (h2 : n ≤ 9223372036854775807) : IntKind.i64.wrap n = n := by
  have : IntKind.i64.wrap n = if 2 ^ 63 ≤ n % 2 ^ 64 then n % 2 ^ 64 - 2 ^ 64 else n % 2 ^ 64 := by
    simp [IntKind.wrap, IntKind.bits, IntKind.signed]
  rw [this]
  split <;> omega

omit [Env] in
theorem str_eq (m n : ByteArray) : (m.toList == n.toList) = decide (m = n) := by
  rw [Bool.eq_iff_iff]
  simp only [beq_iff_eq, decide_eq_true_eq, ByteArray.toList_eq]
  constructor
  · intro h
    cases m
    cases n
    simpa using Array.toList_inj.1 h
  · intro h
    rw [h]

set_option maxHeartbeats 1000000 in
theorem bin_ok {o : Oper} {a : Act} {p : Nat → Option Nat} {w : World} {op : BinOp} {t t' : TypeId} {y z : Operand} {x1 x2 x : Ab} (heq : o.op = .binOp op t y z t') (h1 : x1.pd p w (a.eval y)) (h2 : x2.pd p w (a.eval z))
    (h : absBin op t x1 x2 = some x) : o.wp Try.prog a w (Leaves x.pd o a p w) Q := by
  unfold absBin at h
  split at h
  · rename_i r sw ng hc
    split at h
    · rename_i i j hi hj
      have e1 := irOf_ok hi h1
      have e2 := irOf_ok hj h2
      simp only [Option.map_eq_some_iff] at h
      obtain ⟨c, hcc, rfl⟩ := h
      have hrel : (if sw then r.says (j.at Env.I) (i.at Env.I) else r.says (i.at Env.I) (j.at Env.I)) = c := by
        split at hcc
        · rename_i hs; rw [if_pos hs]; exact relOf_ok hcc
        · rename_i hs; rw [if_neg hs]; exact relOf_ok hcc
      clear hcc
      refine wp_value (v := .bool (if ng then !c else c)) (w' := w) ?_ (leaves_same rfl)
      generalize a.eval = r at *
      generalize i.at Env.I = m at *
      generalize j.at Env.I = n at *
      unfold cmpOf at hc
      split at hc <;> simp only [Option.some.injEq, Cmp.rel.injEq, reduceCtorEq] at hc
      all_goals
        obtain ⟨rfl, rfl, rfl⟩ := hc
        simp only [if_true, if_false, Rel.says, Bool.false_eq_true] at hrel
        subst hrel
        simp [execOp, heq, e1, e2, go_sem]
        try first | rfl | (rw [Bool.eq_iff_iff]; simp)
    · split at h
      · rename_i i j hi hj
        have e1 := srOf_ok hi h1
        have e2 := srOf_ok hj h2
        split at h
        · split at h
          · rename_i hok
            simp only [beq_iff_eq] at hok
            subst hok
            simp only [Option.map_eq_some_iff] at h
            obtain ⟨c, hcc, rfl⟩ := h
            have hrel := seqOf_ok hcc
            refine wp_value (v := .bool (if ng then !c else c)) (w' := w) ?_ (leaves_same rfl)
            generalize a.eval = r at *
            generalize i.at Env.S = m at *
            generalize j.at Env.S = n at *
            subst hrel
            unfold cmpOf at hc
            split at hc <;> simp only [Option.some.injEq, Cmp.rel.injEq, reduceCtorEq, false_and] at hc
            all_goals
              obtain ⟨-, rfl, rfl⟩ := hc
              simp [execOp, heq, e1, e2, go_sem, str_eq]
          · cases h
        · cases h
      · cases h
  · rename_i ar hc
    split at h
    · rename_i i j hi hj
      have e1 := irOf_ok hi h1
      have e2 := irOf_ok hj h2
      split at h
      · rename_i hok
        obtain ⟨n, hx, hn, hw⟩ := ariAb_ok h
        refine wp_value (v := .int .i64 n) (w' := w) ?_ (leaves_same (hx _ _))
        generalize a.eval = r at *
        generalize i.at Env.I = m at *
        generalize j.at Env.I = m' at *
        subst hn
        unfold wf64 at hw
        simp only [isInt, Bool.or_eq_true, beq_iff_eq] at hok
        unfold cmpOf at hc
        split at hc <;> simp only [Option.some.injEq, Cmp.ari.injEq, reduceCtorEq] at hc
        all_goals
          subst hc
          simp only [Ari.says] at hw ⊢
          rcases hok with rfl | rfl <;> simp [execOp, heq, e1, e2, go_sem] <;> exact i64_in hw.1 hw.2
      · cases h
    · cases h
  · cases h

theorem fld_ok {n j : Nat} {t : TypeId} {x : Ab} (h : absFld n j t = some x) {o : Oper} {a : Act} {p : Nat → Option Nat} {w : World} {y : Operand} (heq : o.op = .load t y) (h1 : FieldAt (Env.T n) j p w (a.eval y)) : o.wp Try.prog a w (Leaves x.pd o a p w) Q := by
  obtain ⟨b, s, A, cap, he, c0, c1, c2, c3, ht⟩ := h1
  obtain ⟨_, _, _, -, -, -, f1, f2, f3, f4⟩ := ht.form
  rename_i A' cap' hf
  simp only [Value.agg.injEq, Array.mk.injEq, List.cons.injEq, Value.slice.injEq, and_true, true_and] at hf
  obtain ⟨rfl, rfl⟩ := hf
  unfold absFld at h
  obtain ⟨g, hg, hx⟩ := env_find h
  split at hx
  · rename_i n' i0 i1 i2 i3
    split at hx
    · rename_i hn
      simp only [beq_iff_eq] at hn
      subst hn
      obtain ⟨g0, g1, g2, g3⟩ := hg
      split at hx
      · rename_i hok
        simp only [Bool.and_eq_true, beq_iff_eq] at hok
        obtain ⟨rfl, rfl⟩ := hok
        injection hx with hx
        subst hx
        rw [g0] at c0
        exact wp_value (v := .int .i64 (Env.I i0)) (w' := w) (by generalize a.eval = r at *; simp [execOp, heq, he, go_sem, c0]) (leaves_same rfl)
      · split at hx
        · rename_i hok
          simp only [Bool.and_eq_true, beq_iff_eq] at hok
          obtain ⟨rfl, rfl⟩ := hok
          injection hx with hx
          subst hx
          rw [g1] at c1
          exact wp_value (v := .int .i64 (Env.I i1)) (w' := w) (by generalize a.eval = r at *; simp [execOp, heq, he, go_sem, c1]) (leaves_same rfl)
        · split at hx
          · rename_i hok
            simp only [Bool.and_eq_true, beq_iff_eq] at hok
            obtain ⟨rfl, rfl⟩ := hok
            injection hx with hx
            subst hx
            rw [g2] at c2
            exact wp_value (v := .string (Env.S i2)) (w' := w) (by generalize a.eval = r at *; simp [execOp, heq, he, go_sem, c2]) (leaves_same rfl)
          · split at hx
            · rename_i hok
              simp only [Bool.and_eq_true, beq_iff_eq, isTerms] at hok
              obtain ⟨rfl, rfl⟩ := hok
              injection hx with hx
              subst hx
              rw [g3] at c3 f1 f2 f4
              exact wp_value (v := .slice A (Env.R i3).length cap) (w' := w) (by generalize a.eval = r at *; simp [execOp, heq, he, go_sem, c3]) (leaves_same ⟨A, cap, rfl, f1, f2, f3, f4⟩)
            · cases hx
    · cases hx
  · cases hx

/-- The pins with a new variable. -/
def pinNew (p : Nat → Option Nat) (w : World) (s : Tmp) : Nat → Option Nat := fun b => if b = w.heap.size then some (s + 1) else p b

set_option maxHeartbeats 4000000 in
theorem absOp_ok {C : FuncId → List Ab → Option Ab} (hC : CallsOk C) {ρ : Tmp → Option Ab} {F : Tmp → Pd} (hF : ∀ t x, ρ t = some x → F t = x.pd) {o : Oper} {x : Ab} (h : absOp C ρ o = some x) :
    Runs Try.prog Q F o x.pd := by
  intro a p w hf
  have hev : ∀ y z, y ∈ o.op.operands.toList → ev ρ y = some z → z.pd p w (a.eval y) := fun y z hy hz => ev_ok hF hz fun t ht => hf t (by
    unfold opTmps
    exact List.mem_filterMap.2 ⟨y, hy, by rw [ht]⟩)
  unfold absOp at h
  split at h
  · rename_i y heq
    exact wp_value (v := a.eval y) (by simp only [execOp, heq]; rfl) (leaves_same (hev y x (by simp [heq, Op.operands]) h))
  · rename_i y heq
    exact wp_value (v := a.eval y) (by simp only [execOp, heq]; rfl) (leaves_same (hev y x (by simp [heq, Op.operands]) h))
  · rename_i c y z heq
    split at h
    · rename_i hc
      have h1 := hev c _ (by simp [heq, Op.operands]) hc
      have h1' : a.eval c = .bool true := h1
      exact wp_value (v := a.eval y) (by simp only [execOp, heq, h1']; rfl) (leaves_same (hev y x (by simp [heq, Op.operands]) h))
    · rename_i hc
      have h1 := hev c _ (by simp [heq, Op.operands]) hc
      have h1' : a.eval c = .bool false := h1
      exact wp_value (v := a.eval z) (by simp only [execOp, heq, h1']; rfl) (leaves_same (hev z x (by simp [heq, Op.operands]) h))
    · cases h
  · rename_i t y heq
    split at h
    · rename_i b hb
      have h1 : a.eval y = .bool b := hev y _ (by simp [heq, Op.operands]) hb
      injection h with h
      subst h
      exact wp_value (v := .bool !b) (by simp only [execOp, heq, h1]; rfl) (leaves_same rfl)
    · cases h
  · rename_i t y z t' heq
    split at h
    · rename_i m n hm hn
      have h1 : a.eval y = .int .i64 m := hev y _ (by simp [heq, Op.operands]) hm
      have h2 : a.eval z = .int .i64 n := hev z _ (by simp [heq, Op.operands]) hn
      injection h with h
      subst h
      exact wp_value (v := .bool (m == n)) (by generalize a.eval = r at *; simp [execOp, heq, h1, h2, go_sem]) (leaves_same rfl)
    · rename_i m n hm hn
      have h1 : a.eval y = .bool m := hev y _ (by simp [heq, Op.operands]) hm
      have h2 : a.eval z = .bool n := hev z _ (by simp [heq, Op.operands]) hn
      split at h
      · rename_i hok
        simp only [beq_iff_eq] at hok
        subst hok
        injection h with h
        subst h
        exact wp_value (v := .bool (m == n)) (by generalize a.eval = r at *; simp [execOp, heq, h1, h2, go_sem]) (leaves_same rfl)
      · cases h
    · rename_i m n hm hn
      split at h
      · rename_i hok
        simp only [beq_iff_eq] at hok
        subst hok
        have h1 : a.eval y = .int .i64 (Env.I m) := hev y _ (by simp [heq, Op.operands]) hm
        have h2 : a.eval z = .int .i64 (Env.I m) := hev z _ (by simp [heq, Op.operands]) hn
        injection h with h
        subst h
        exact wp_value (v := .bool true) (by generalize a.eval = r at *; simp [execOp, heq, h1, h2, go_sem]) (leaves_same rfl)
      · have h1 : a.eval y = .int .i64 (Env.I m) := hev y _ (by simp [heq, Op.operands]) hm
        have h2 : a.eval z = .int .i64 (Env.I n) := hev z _ (by simp [heq, Op.operands]) hn
        simp only [Option.map_eq_some_iff] at h
        obtain ⟨c, hc, rfl⟩ := h
        have h3 : (Env.I m == Env.I n) = c := relOf_ok hc
        subst h3
        exact wp_value (v := .bool (Env.I m == Env.I n)) (by generalize a.eval = r at *; simp [execOp, heq, h1, h2, go_sem]) (leaves_same rfl)
    · rename_i x1 x2 _ _ _ hx1 hx2
      exact bin_ok heq (hev y _ (by simp [heq, Op.operands]) hx1) (hev z _ (by simp [heq, Op.operands]) hx2) h
    · cases h
  · rename_i t y z t' heq
    split at h
    · rename_i m n hm hn
      have h1 : a.eval y = .bool m := hev y _ (by simp [heq, Op.operands]) hm
      have h2 : a.eval z = .bool n := hev z _ (by simp [heq, Op.operands]) hn
      split at h
      · rename_i hok
        simp only [beq_iff_eq] at hok
        subst hok
        injection h with h
        subst h
        refine wp_value (v := .bool (m != n)) ?_ (leaves_same rfl)
        generalize a.eval = r at *
        simp [execOp, heq, h1, h2, go_sem, bne]
      · cases h
    · rename_i x1 x2 _ hx1 hx2
      exact bin_ok heq (hev y _ (by simp [heq, Op.operands]) hx1) (hev z _ (by simp [heq, Op.operands]) hx2) h
    · cases h
  · rename_i op t y z t' _ _ heq
    split at h
    · rename_i x1 x2 hx1 hx2
      exact bin_ok heq (hev y _ (by simp [heq, Op.operands]) hx1) (hev z _ (by simp [heq, Op.operands]) hx2) h
    · cases h
  · rename_i t y j heq
    split at h
    · rename_i s n hn
      obtain ⟨tt, htt, g, A, cap, he, hp, hb, ht⟩ : (Ab.vcell s (.tok n)).pd p w (a.eval y) := hev y _ (by simp [heq, Op.operands]) hn
      split at h
      · rename_i hok
        simp only [isTerm, Bool.and_eq_true, beq_iff_eq, decide_eq_true_eq] at hok
        obtain ⟨rfl, hj⟩ := hok
        injection h with h
        subst h
        obtain ⟨c0, c1, c2, c3⟩ := blk4 hb
        obtain rfl : Env.T n = tt := by simpa [tmAny] using htt
        refine wp_value (v := .pointer (some ⟨g, 0 + j, none⟩)) (w' := w) ?_ (leaves_same ⟨g, A, cap, rfl, hp, hb, ht⟩)
        generalize a.eval = r at *
        match j, hj with
        | 0, _ => simp [execOp, heq, he, go_sem]
        | 1, _ => simp [execOp, heq, he, go_sem]
        | 2, _ => simp [execOp, heq, he, go_sem]
        | 3, _ => simp [execOp, heq, he, go_sem]
      · cases h
    · rename_i n hn
      obtain ⟨b, s, A, cap, he, hp, c0, c1, c2, c3, ht⟩ : (Ab.elm n).pd p w (a.eval y) := hev y _ (by simp [heq, Op.operands]) hn
      split at h
      · rename_i hok
        simp only [isTerm, Bool.and_eq_true, beq_iff_eq, decide_eq_true_eq] at hok
        obtain ⟨rfl, hj⟩ := hok
        injection h with h
        subst h
        refine wp_value (v := .pointer (some ⟨b, s + j, none⟩)) (w' := w) ?_ (leaves_same ⟨b, s, A, cap, rfl, hp, c0, c1, c2, c3, ht⟩)
        generalize a.eval = r at *
        match j, hj with
        | 0, _ => simp [execOp, heq, he, go_sem]
        | 1, _ => simp [execOp, heq, he, go_sem]
        | 2, _ => simp [execOp, heq, he, go_sem]
        | 3, _ => simp [execOp, heq, he, go_sem]
      · cases h
    · cases h
  · rename_i t ps heq
    exact build_ok heq hev h
  · rename_i t n ps heq
    exact slice_ok heq hev h
  · rename_i t y heq
    split at h
    · rename_i s u hu
      obtain ⟨tt, htt, g, A, cap, he, hp, hb, ht⟩ : (Ab.vcell s u).pd p w (a.eval y) := hev y _ (by simp [heq, Op.operands]) hu
      split at h
      · rename_i hok
        simp only [isTerm, beq_iff_eq] at hok
        subst hok
        injection h with h
        subst h
        obtain ⟨c0, c1, c2, c3⟩ := blk4 hb
        exact wp_value (v := VT tt A cap) (w' := w) (by generalize a.eval = r at *; simp [execOp, heq, he, go_sem, c0, c1, c2, c3]) (leaves_same ht)
      · cases h
    · rename_i u hu
      obtain ⟨b, s, A, cap, he, -, c0, c1, c2, c3, ht⟩ : (Ab.termAt u).pd p w (a.eval y) := hev y _ (by simp [heq, Op.operands]) hu
      split at h
      · rename_i hok
        simp only [isTerm, beq_iff_eq] at hok
        subst hok
        injection h with h
        subst h
        exact wp_value (v := VT u A cap) (w' := w) (by generalize a.eval = r at *; simp [execOp, heq, he, go_sem, c0, c1, c2, c3]) (leaves_same ht)
      · cases h
    · rename_i n hn
      obtain ⟨b, s, he, -, c0⟩ : (Ab.intAt n).pd p w (a.eval y) := hev y _ (by simp [heq, Op.operands]) hn
      split at h
      · rename_i hok
        simp only [beq_iff_eq] at hok
        subst hok
        injection h with h
        subst h
        exact wp_value (v := .int .i64 n) (w' := w) (by generalize a.eval = r at *; simp [execOp, heq, he, go_sem, c0]) (leaves_same rfl)
      · cases h
    · rename_i k hk
      obtain ⟨b, s, he, -, c0⟩ : (Ab.iat k).pd p w (a.eval y) := hev y _ (by simp [heq, Op.operands]) hk
      split at h
      · rename_i hok
        simp only [beq_iff_eq] at hok
        subst hok
        injection h with h
        subst h
        exact wp_value (v := .int .i64 (Env.I k)) (w' := w) (by generalize a.eval = r at *; simp [execOp, heq, he, go_sem, c0]) (leaves_same rfl)
      · cases h
    · rename_i n hn
      obtain ⟨b, s, A, cap, he, -, c0, c1, c2, c3, ht⟩ : (Ab.elm n).pd p w (a.eval y) := hev y _ (by simp [heq, Op.operands]) hn
      split at h
      · rename_i hok
        simp only [isTerm, beq_iff_eq] at hok
        subst hok
        injection h with h
        subst h
        exact wp_value (v := VT (Env.T n) A cap) (w' := w) (by generalize a.eval = r at *; simp [execOp, heq, he, go_sem, c0, c1, c2, c3]) (leaves_same ht)
      · cases h
    · rename_i sr hsr
      obtain ⟨b, s, he, -, c0⟩ : (Ab.sat sr).pd p w (a.eval y) := hev y _ (by simp [heq, Op.operands]) hsr
      split at h
      · rename_i hok
        simp only [beq_iff_eq] at hok
        subst hok
        injection h with h
        subst h
        refine wp_value (v := .string (sr.at Env.S)) (w' := w) (by generalize a.eval = r at *; simp [execOp, heq, he, go_sem, c0]) (leaves_same ?_)
        cases sr <;> rfl
      · cases h
    · rename_i n j hn
      obtain ⟨b, s, A, cap, he, -, hc⟩ : (Ab.fld n j).pd p w (a.eval y) := hev y _ (by simp [heq, Op.operands]) hn
      exact fld_ok h heq ⟨b, s, A, cap, he, hc⟩
    · rename_i s n j hn
      obtain ⟨g, A, cap, he, -, hb, ht⟩ : (Ab.mfld s n j).pd p w (a.eval y) := hev y _ (by simp [heq, Op.operands]) hn
      obtain ⟨c0, c1, c2, c3⟩ := blk4 hb
      exact fld_ok h heq ⟨g, 0, A, cap, he, c0, c1, c2, c3, ht⟩
    · cases h
  · rename_i t y z heq
    split at h
    · rename_i l i hl hi
      obtain ⟨A, cap, he, h1, h2, h3, hin⟩ : (Ab.ints l).pd p w (a.eval y) := hev y _ (by simp [heq, Op.operands]) hl
      have hiv : a.eval z = .int .i64 i := hev z _ (by simp [heq, Op.operands]) hi
      split at h
      · rename_i n hn
        split at h
        · rename_i hok
          simp [isInts] at hok
        · cases h
      · cases h
    · rename_i l i hl hi
      obtain ⟨A, cap, he, h1, h2, h3, hin⟩ : (Ab.row l).pd p w (a.eval y) := hev y _ (by simp [heq, Op.operands]) hl
      have hiv : a.eval z = .int .i64 i := hev z _ (by simp [heq, Op.operands]) hi
      split at h
      · rename_i n hn
        split at h
        · rename_i hok
          simp only [isTerms, Bool.and_eq_true, decide_eq_true_eq, beq_iff_eq] at hok
          obtain ⟨rfl, h0⟩ := hok
          injection h with h
          subst h
          obtain ⟨m, rfl⟩ := Int.eq_ofNat_of_zero_le h0
          have hm : m < l.length := (List.getElem?_eq_some_iff.1 hn).1
          have hml : l[m] = n := (List.getElem?_eq_some_iff.1 hn).2
          obtain ⟨b, s, A0, cap0, rfl, hp, e0, e1, e2, e3, ht⟩ := hin.get hm
          rw [hml] at e0 e1 e2 e3 ht
          exact wp_value (v := .pointer (some ⟨b, s + m * 4, none⟩)) (w' := w) (by generalize a.eval = r at *; simp [execOp, heq, he, hiv, go_sem, hm]) (leaves_same ⟨b, s + m * 4, A0, cap0, rfl, hp, e0, e1, e2, e3, ht⟩)
        · cases h
      · cases h
    · rename_i l i hl hi
      obtain ⟨A, cap, he, h1, h2, hin⟩ : (Ab.srow l).pd p w (a.eval y) := hev y _ (by simp [heq, Op.operands]) hl
      have hiv : a.eval z = .int .i64 i := hev z _ (by simp [heq, Op.operands]) hi
      split at h
      · rename_i sr hsr
        split at h
        · rename_i hok
          simp only [isStrs, Bool.and_eq_true, decide_eq_true_eq, beq_iff_eq] at hok
          obtain ⟨rfl, h0⟩ := hok
          injection h with h
          subst h
          obtain ⟨m, rfl⟩ := Int.eq_ofNat_of_zero_le h0
          have hm : m < l.length := (List.getElem?_eq_some_iff.1 hsr).1
          have hml : l[m] = sr := (List.getElem?_eq_some_iff.1 hsr).2
          obtain ⟨b, s, rfl, hp, hc⟩ := hin m (by simpa using hm)
          have hc' : w.cell? ⟨b, s + m, none⟩ = some (.string (sr.at Env.S)) := by rw [hc]; simp [hml]
          exact wp_value (v := .pointer (some ⟨b, s + m, none⟩)) (w' := w) (by generalize a.eval = r at *; simp [execOp, heq, he, hiv, go_sem, hm]) (leaves_same ⟨b, s + m, rfl, hp, hc'⟩)
        · cases h
      · cases h
    · rename_i n x2 hl hx2
      obtain ⟨A, cap, he, h1, h2, h3, hin⟩ : (Ab.itok n).pd p w (a.eval y) := hev y _ (by simp [heq, Op.operands]) hl
      split at h
      · rename_i i hi
        have hiv := irOf_ok hi (hev z _ (by simp [heq, Op.operands]) hx2)
        split at h
        · rename_i hok
          simp [isInts] at hok
        · cases h
      · cases h
    · rename_i n x2 hl hx2
      obtain ⟨A, cap, he, h1, h2, h3, hin⟩ : (Ab.rtok n).pd p w (a.eval y) := hev y _ (by simp [heq, Op.operands]) hl
      split at h
      · rename_i i hi
        have hiv := irOf_ok hi (hev z _ (by simp [heq, Op.operands]) hx2)
        split at h
        · rename_i hok
          simp only [isTerms, beq_iff_eq] at hok
          subst hok
          obtain ⟨g, hg, hgx⟩ := env_find h
          split at hgx
          · rename_i n' i' k
            split at hgx
            · rename_i hn
              simp only [Bool.and_eq_true, beq_iff_eq] at hn
              obtain ⟨rfl, hie⟩ := hn
              obtain rfl := IR.beq_ok hie
              injection hgx with hgx
              subst hgx
              obtain ⟨h0, hget⟩ := hg
              obtain ⟨m, hm0⟩ := Int.eq_ofNat_of_zero_le h0
              rw [hm0] at hget hiv
              have hm : m < (Env.R n').length := (List.getElem?_eq_some_iff.1 hget).1
              have hml : (Env.R n')[m] = Env.T k := (List.getElem?_eq_some_iff.1 hget).2
              obtain ⟨b, s, A0, cap0, rfl, hp, e0, e1, e2, e3, ht⟩ := hin.get hm
              rw [hml] at e0 e1 e2 e3 ht
              exact wp_value (v := .pointer (some ⟨b, s + m * 4, none⟩)) (w' := w) (by generalize a.eval = r at *; simp [execOp, heq, he, hiv, go_sem, hm]) (leaves_same ⟨b, s + m * 4, A0, cap0, rfl, hp, e0, e1, e2, e3, ht⟩)
            · cases hgx
          · cases hgx
        · cases h
      · cases h
    · cases h
  · rename_i y i heq
    split at h
    · rename_i z1 z2 hz
      obtain ⟨v1, v2, he, h1, h2⟩ : (Ab.pair z1 z2).pd p w (a.eval y) := hev y _ (by simp [heq, Op.operands]) hz
      split at h
      · rename_i hi
        simp only [beq_iff_eq] at hi
        subst hi
        injection h with h
        subst h
        exact wp_value (v := v1) (w' := w) (by generalize a.eval = r at *; simp [execOp, heq, he, go_sem]) (leaves_same h1)
      · split at h
        · rename_i hi
          simp only [beq_iff_eq] at hi
          subst hi
          injection h with h
          subst h
          exact wp_value (v := v2) (w' := w) (by generalize a.eval = r at *; simp [execOp, heq, he, go_sem]) (leaves_same h2)
        · cases h
    · rename_i z1 z2 z3 hz
      obtain ⟨v1, v2, v3, he, h1, h2, h3⟩ : (Ab.tup3 z1 z2 z3).pd p w (a.eval y) := hev y _ (by simp [heq, Op.operands]) hz
      have hin : ∃ v, (#[v1, v2, v3] : Array Value)[i]? = some v ∧ x.pd p w v := by
        split at h
        · rename_i hi; simp only [beq_iff_eq] at hi; subst hi; injection h with h; subst h; exact ⟨v1, rfl, h1⟩
        · split at h
          · rename_i hi; simp only [beq_iff_eq] at hi; subst hi; injection h with h; subst h; exact ⟨v2, rfl, h2⟩
          · split at h
            · rename_i hi; simp only [beq_iff_eq] at hi; subst hi; injection h with h; subst h; exact ⟨v3, rfl, h3⟩
            · cases h
      obtain ⟨v, hv, hx⟩ := hin
      exact wp_value (v := v) (w' := w) (by generalize a.eval = r at *; simp [execOp, heq, he, go_sem, hv]) (leaves_same hx)
    · rename_i z1 z2 z3 z4 hz
      obtain ⟨v1, v2, v3, v4, he, h1, h2, h3, h4⟩ : (Ab.tup4 z1 z2 z3 z4).pd p w (a.eval y) := hev y _ (by simp [heq, Op.operands]) hz
      have hin : ∃ v, (#[v1, v2, v3, v4] : Array Value)[i]? = some v ∧ x.pd p w v := by
        split at h
        · rename_i hi; simp only [beq_iff_eq] at hi; subst hi; injection h with h; subst h; exact ⟨v1, rfl, h1⟩
        · split at h
          · rename_i hi; simp only [beq_iff_eq] at hi; subst hi; injection h with h; subst h; exact ⟨v2, rfl, h2⟩
          · split at h
            · rename_i hi; simp only [beq_iff_eq] at hi; subst hi; injection h with h; subst h; exact ⟨v3, rfl, h3⟩
            · split at h
              · rename_i hi; simp only [beq_iff_eq] at hi; subst hi; injection h with h; subst h; exact ⟨v4, rfl, h4⟩
              · cases h
      obtain ⟨v, hv, hx⟩ := hin
      exact wp_value (v := v) (w' := w) (by generalize a.eval = r at *; simp [execOp, heq, he, go_sem, hv]) (leaves_same hx)
    · cases h
  · rename_i t y heq
    split at h
    · rename_i z hz
      split at h
      · rename_i hok
        simp only [isTerm, Bool.and_eq_true, beq_iff_eq] at hok
        obtain ⟨rfl, hok⟩ := hok
        cases hd : o.dst with
        | none => rw [hd] at h; cases h
        | some s =>
        rw [hd] at h
        simp only [Option.map_some, Option.some.injEq] at h
        subst h
        obtain ⟨tt, htt⟩ := isTm_of hok
        have h1 := hev y _ (by simp [heq, Op.operands]) hz
        obtain ⟨A, cap, he⟩ := any_form htt h1
        refine wp_value (v := .pointer (some ⟨w.heap.size, 0, none⟩)) (w' := w.alloc (TB tt A cap)) (by generalize a.eval = r at *; simp [execOp, heq, he, go_sem]) ?_
        rw [he] at h1
        have hext : Ext p w (pinNew p w s) (w.alloc (TB tt A cap)) := ⟨(But.refl _ _).alloc _, fun b hb => if_neg (by omega)⟩
        exact ⟨_, pinNew p w s, by rw [hd], hext, tt, htt, w.heap.size, A, cap, rfl, if_pos rfl, heap_new rfl, z.kept _ _ _ _ _ hext h1⟩
      · cases h
    · cases h
  · rename_i t heq
    split at h
    · rename_i hok
      simp only [isTerm, beq_iff_eq] at hok
      subst hok
      cases hd : o.dst with
      | none => rw [hd] at h; cases h
      | some s =>
        rw [hd] at h
        simp only [Option.map_some, Option.some.injEq] at h
        subst h
        refine wp_value (v := .pointer (some ⟨w.heap.size, 0, none⟩)) (w' := w.alloc (TB zeroT none 0)) (by generalize a.eval = r at *; simp [execOp, heq, go_sem, zeroT, TB, Tm.kind, Tm.num, Tm.name, Tm.args]) ?_
        exact ⟨_, pinNew p w s, rfl, ⟨(But.refl _ _).alloc _, fun b hb => if_neg (by omega)⟩, zeroT, rfl, w.heap.size, none, 0, rfl, if_pos rfl, heap_new rfl, flat_in (k := 0) (n := 0) (s := ⟨#[]⟩) (by unfold wf64; omega) (by unfold wf64; omega) (by decide) _ _⟩
    · cases h
  · rename_i c heq
    split at h
    · rename_i f hcal
      split at h
      · rename_i l hl
        obtain ⟨callee, ⟨args⟩, tys⟩ := c
        obtain rfl : callee = .value (.func f) := hcal
        have hargs := evs_ok (p := p) (w := w) hF hl (fun y hy t ht => hf t (by
          unfold opTmps
          exact List.mem_filterMap.2 ⟨y, by simp [heq, Op.operands, Call.operands]; exact .inr hy, by rw [ht]⟩))
        refine wp_calls (f := f) (args := (args.map a.eval).toArray) ?_ (((hC f l x h).2 p w _ hargs).mono ?_)
        · have hen := (hC f l x h).1
          have hfv : a.eval (.func f) = .func (.func f) #[] #[] := rfl
          generalize a.eval = r at *
          simp [execOp, heq, go_sem, hfv, hen, resolve]
        · rintro e w' ⟨v, p', rfl, hx, hv⟩
          exact ⟨v, rfl, v, p', rfl, hx, hv⟩
      · cases h
    · rename_i hcal
      exact len_ok heq hcal hev h
    · cases h
  · cases h
end
end Go.Proofs.Ytloekfnlidclcaa

