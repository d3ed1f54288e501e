/-
  'But S w w'': the world w' is w with new blocks, and with changes in the blocks of S alone. Plain laws on worlds. No condition.
-/
import Derived.WalkKit
import Derived.WalkSpells
import Derived.WalkLawsBesides
import Derived.Lib.Hide
namespace Go.Proofs.Ytloekfnlidclcaa
open Go.RowKit
set_option linter.unusedVariables false

theorem ret_int {k : IntKind} {a b : Int} (h : a = b) : Ending.returned (.int k a) = .returned (.int k b) := by rw [h]
theorem ret_bool {a b : Bool} (h : a = b) : Ending.returned (.bool a) = .returned (.bool b) := by rw [h]

theorem str_inj {a b : ByteArray} (h : a.toList = b.toList) : a = b := by
  rw [ByteArray.toList_eq, ByteArray.toList_eq] at h
  cases a; cases b
  simpa using h
theorem str_ne {a b : ByteArray} (h : ¬ a = b) : ¬ a.toList = b.toList := fun e => h (str_inj e)

theorem lt_of_cell {w : World} {p : Addr} {v : Value} (h : w.cell? p = some v) : p.block < w.heap.size := by
  rcases Nat.lt_or_ge p.block w.heap.size with hlt | hge
  · exact hlt
  · unfold World.cell? at h; rw [Array.getElem?_eq_none hge] at h; cases h

theorem lt_of_heap {w : World} {k : Nat} {o : Obj} (h : w.heap[k]? = some o) : k < w.heap.size := by
  rcases Nat.lt_or_ge k w.heap.size with hlt | hge
  · exact hlt
  · rw [Array.getElem?_eq_none hge] at h; cases h

structure But (S : Nat → Prop) (w w' : World) : Prop where
  os : w'.os = w.os
  tape : w'.tape = w.tape
  output : w'.output = w.output
  size : w.heap.size ≤ w'.heap.size
  block : ∀ k, k < w.heap.size → ¬ S k → w'.heap[k]? = w.heap[k]?

def Nil : Nat → Prop := fun _ => False

section
variable {S S' : Nat → Prop} {a b c w w' : World}

theorem But.refl (S : Nat → Prop) (w : World) : But S w w := ⟨rfl, rfl, rfl, Nat.le_refl _, fun _ _ _ => rfl⟩

theorem But.trans (h : But S a b) (k : But S' b c) (hs : ∀ i, S' i → i < b.heap.size → S i ∨ a.heap.size ≤ i) : But S a c :=
  ⟨k.os.trans h.os, k.tape.trans h.tape, k.output.trans h.output, Nat.le_trans h.size k.size, fun i hi hn =>
    (k.block i (Nat.lt_of_lt_of_le hi h.size) (fun hs' => (hs i hs' (Nat.lt_of_lt_of_le hi h.size)).elim hn (fun hge => by omega))).trans (h.block i hi hn)⟩

theorem But.trans_same (h : But S a b) (k : But S b c) : But S a c := h.trans k fun _ hs _ => .inl hs
theorem But.trans_nil (h : But S a b) (k : But Nil b c) : But S a c := h.trans k fun _ hs _ => hs.elim

theorem But.mono (h : But S a b) (hs : ∀ i, S i → i < a.heap.size → S' i) : But S' a b :=
  ⟨h.os, h.tape, h.output, h.size, fun i hi hn => h.block i hi fun hS => hn (hs i hS hi)⟩

theorem But.of_nil (h : But Nil a b) : But S a b := h.mono fun _ hs _ => hs.elim

theorem But.drew (h : But S a w) : But S a w.drew := ⟨h.os, h.tape, h.output, h.size, h.block⟩

theorem But.drewN (h : But S a w) (n : Nat) : But S a (w.drewN n) := ⟨h.os, h.tape, h.output, h.size, h.block⟩

theorem But.alloc (h : But S a w) (o : Obj) : But S a (w.alloc o) :=
  ⟨h.os, h.tape, h.output, Nat.le_trans h.size (by simp), fun k hk hn => (Below.heap_alloc _ _ _ (Nat.lt_of_lt_of_le hk h.size)).trans (h.block k hk hn)⟩

theorem But.setCell (h : But S a w) {p : Addr} (hp : S p.block ∨ a.heap.size ≤ p.block) (u : Value) : But S a (w.setCell p u) :=
  ⟨h.os, h.tape, h.output, Nat.le_trans h.size (by simp [World.setCell]), fun k hk hn =>
    (Below.heap_setCell _ _ _ _ (fun e => hp.elim (fun hS => hn (by rw [e]; exact hS)) (fun hge => by omega))).trans (h.block k hk hn)⟩

theorem But.grown {row : Option Nat} (h : But S a w) (hg : w.grownBy w' row) (hr : ∀ k, row = some k → S k ∨ a.heap.size ≤ k) : But S a w' :=
  ⟨hg.os.trans h.os, hg.tape.trans h.tape, hg.output.trans h.output, Nat.le_trans h.size hg.size, fun k hk hn =>
    (hg.block k (Nat.lt_of_lt_of_le hk h.size) (fun e => (hr k e.symm).elim hn (fun hge => by omega))).trans (h.block k hk hn)⟩

theorem But.of_below (h : Below w.heap.size w w') : But S w w' := ⟨h.os, h.tape, h.output, h.size, fun k hk _ => h.block k hk⟩
theorem But.below (h : But Nil w w') : Below w.heap.size w w' := ⟨h.os, h.tape, h.output, h.size, fun k hk => h.block k hk id⟩

theorem But.cell (h : But S w w') {p : Addr} (hs : ¬ S p.block) {v : Value} (hc : w.cell? p = some v) : w'.cell? p = some v :=
  (World.cell?_of_block (w := w) (h.block p.block (lt_of_cell hc) hs)).trans hc

theorem But.heap (h : But S w w') {k : Nat} (hs : ¬ S k) {o : Obj} (hc : w.heap[k]? = some o) : w'.heap[k]? = some o :=
  (h.block k (lt_of_heap hc) hs).trans hc

theorem But.frozen (h : But S w w') {p : Addr} (hs : ¬ S p.block) (hlt : p.block < w.heap.size) : w'.frozen? p = w.frozen? p :=
  World.frozen?_of_block (w := w) (h.block p.block hlt hs)
end

/-- The block number k behind a new block. -/
theorem hget {w : World} {o : Obj} {k : Nat} : (w.alloc o).heap[k]? = if k = w.heap.size then some o else w.heap[k]? := by
  show (w.heap.push o)[k]? = _
  rw [Array.getElem?_push]

theorem hsize {w : World} {o : Obj} : (w.alloc o).heap.size = w.heap.size + 1 := by simp

theorem heap_new {w : World} {o : Obj} {k : Nat} (h : k = w.heap.size) : (w.alloc o).heap[k]? = some o := by rw [hget, if_pos h]
theorem heap_old {w : World} {o x : Obj} {k : Nat} (h : w.heap[k]? = some x) : (w.alloc o).heap[k]? = some x := by
  have := lt_of_heap h
  rw [hget, if_neg (by omega), h]
theorem cell_old {w : World} {o : Obj} {p : Addr} {v : Value} (h : w.cell? p = some v) : (w.alloc o).cell? p = some v :=
  (World.cell?_of_block (w := w) (by have := lt_of_cell h; rw [hget, if_neg (by omega)])).trans h

/-- A new block of four cells, later. -/
theorem new4 {S : Nat → Prop} {w w1 : World} {a b c d : Value} {T : TypeId} (h : But S (w.alloc (.cells #[a, b, c, d] T)) w1) (hs : ¬ S w.heap.size) :
    w1.cell? ⟨w.heap.size, 0, none⟩ = some a ∧ w1.cell? ⟨w.heap.size, 1, none⟩ = some b ∧ w1.cell? ⟨w.heap.size, 2, none⟩ = some c ∧ w1.cell? ⟨w.heap.size, 3, none⟩ = some d :=
  ⟨h.cell hs (cell_of_row _ _ 0 _ _ (0, 0) (heap_alloc_new _ _)), h.cell hs (cell_of_row _ _ 1 _ _ (0, 0) (heap_alloc_new _ _)), h.cell hs (cell_of_row _ _ 2 _ _ (0, 0) (heap_alloc_new _ _)),
    h.cell hs (cell_of_row _ _ 3 _ _ (0, 0) (heap_alloc_new _ _))⟩

theorem blk4 {w : World} {k : Nat} {a b c d : Value} {T : TypeId} (h : w.heap[k]? = some (.cells #[a, b, c, d] T (0, 0))) :
    w.cell? ⟨k, 0, none⟩ = some a ∧ w.cell? ⟨k, 1, none⟩ = some b ∧ w.cell? ⟨k, 2, none⟩ = some c ∧ w.cell? ⟨k, 3, none⟩ = some d :=
  ⟨cell_of_row _ _ 0 _ _ _ h, cell_of_row _ _ 1 _ _ _ h, cell_of_row _ _ 2 _ _ _ h, cell_of_row _ _ 3 _ _ _ h⟩

theorem frz {w : World} {k : Nat} {cs : Array Value} {T : TypeId} (h : w.heap[k]? = some (.cells cs T (0, 0))) (i : Nat) : w.frozen? ⟨k, i, none⟩ = false := by simp [World.frozen?, h]

theorem set_blk {w : World} {k i : Nat} {cs : Array Value} {T : TypeId} {f : Nat × Nat} (h : w.heap[k]? = some (.cells cs T f)) (u : Value) : (w.setCell ⟨k, i, none⟩ u).heap[k]? = some (.cells (cs.setIfInBounds i u) T f) := by
  simp [World.setCell, Array.getElem?_modify, h]

theorem set4 {w : World} {k : Nat} {a b c d a' b' c' d' : Value} {T : TypeId} {f : Nat × Nat} (h : w.heap[k]? = some (.cells #[a, b, c, d] T f)) :
    ((((w.setCell ⟨k, 0, none⟩ a').setCell ⟨k, 1, none⟩ b').setCell ⟨k, 2, none⟩ c').setCell ⟨k, 3, none⟩ d').heap[k]? = some (.cells #[a', b', c', d'] T f) := by
  have h1 := set_blk (set_blk (set_blk (set_blk h a' (i := 0)) b' (i := 1)) c' (i := 2)) d' (i := 3)
  simpa using h1

theorem But.set4 {S : Nat → Prop} {a w : World} (h : But S a w) {k : Nat} (hk : S k ∨ a.heap.size ≤ k) (a' b' c' d' : Value) :
    But S a ((((w.setCell ⟨k, 0, none⟩ a').setCell ⟨k, 1, none⟩ b').setCell ⟨k, 2, none⟩ c').setCell ⟨k, 3, none⟩ d') :=
  (((h.setCell (p := ⟨k, 0, none⟩) hk a').setCell (p := ⟨k, 1, none⟩) hk b').setCell (p := ⟨k, 2, none⟩) hk c').setCell (p := ⟨k, 3, none⟩) hk d'

theorem bcell {W w1 : World} (hb : But Nil W w1) : (∀ b o, b < W.heap.size → w1.cell? ⟨b, o, none⟩ = W.cell? ⟨b, o, none⟩) ∧ (∀ b o, b < W.heap.size → w1.frozen? ⟨b, o, none⟩ = W.frozen? ⟨b, o, none⟩) :=
  ⟨fun b o h => World.cell?_of_block (w := W) (hb.block b h id), fun b o h => hb.frozen (p := ⟨b, o, none⟩) id h⟩

theorem set1 {w : World} {k : Nat} {a u : Value} {T : TypeId} {f : Nat × Nat} (h : w.heap[k]? = some (.cells #[a] T f)) : (w.setCell ⟨k, 0, none⟩ u).heap[k]? = some (.cells #[u] T f) := by
  have := set_blk (i := 0) h u
  simpa using this

theorem set_ne {w : World} {k j i : Nat} {o : Obj} {u : Value} (h : w.heap[k]? = some o) (hne : k ≠ j) : (w.setCell ⟨j, i, none⟩ u).heap[k]? = some o :=
  (Below.heap_setCell _ _ _ _ hne).trans h

end Go.Proofs.Ytloekfnlidclcaa

