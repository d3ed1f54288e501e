/-
  The reference's copied: the walk; and the step of a loop that appends a term to the arguments of a new term.
-/
import Derived.Test.YtloekfnlidclcaaMp
namespace Go.Proofs.Ytloekfnlidclcaa
open Go.RowKit Go.Maps
set_option linter.unusedVariables false

theorem arg_step {d w1 w2 : World} {L gc g cap2 cap1 : Nat} {a b c va : Value} {ts : List Tm} {t : Tm} {xs : List Value} {A1 : Option Addr}
    (hown : d.ownsRow L 24 4 va ts.length xs) (hx : RowE d L va ts xs) (hb1 : But Nil d w1) (hL : L ≤ d.heap.size)
    (hnew : TmNew w1 d.heap.size t (VT t A1 cap1))
    (hown2 : w2.ownsRow L 24 4 (.slice (some ⟨g, 0, none⟩) (ts.length + 1) cap2) (ts.length + 1) (xs ++ C4 t A1 cap1))
    (hgrow : (w1.alloc (TB t A1 cap1)).grownBy w2 va.ownBlock) (hat : va.ownBlock = some g ∨ g = w1.heap.size + 1)
    (h2 : w1.heap[gc]? = some (.cells #[a, b, c, va] 24 (0, 0))) (hg : gc < L) :
    (w2.setCell ⟨gc, 3, none⟩ (.slice (some ⟨g, 0, none⟩) (ts.length + 1) cap2)).heap[gc]? = some (.cells #[a, b, c, .slice (some ⟨g, 0, none⟩) (ts.length + 1) cap2] 24 (0, 0)) ∧
    RowT (w2.setCell ⟨gc, 3, none⟩ (.slice (some ⟨g, 0, none⟩) (ts.length + 1) cap2)) L (.slice (some ⟨g, 0, none⟩) (ts.length + 1) cap2) (ts ++ [t]) ∧
    But (fun k => k = gc ∨ L ≤ k) w1 (w2.setCell ⟨gc, 3, none⟩ (.slice (some ⟨g, 0, none⟩) (ts.length + 1) cap2)) := by
  have hown1 : w1.ownsRow L 24 4 va ts.length xs := own_but hown hb1 (fun _ _ => id)
  have hn2 : ∀ k, k < L → ¬ va.ownBlock = some k := fun k hk e => by have := (hown1.lt k e).1; omega
  have hba : But Nil w1 (w1.alloc (TB t A1 cap1)) := (But.refl _ _).alloc _
  have hb2 : But (fun k => va.ownBlock = some k) (w1.alloc (TB t A1 cap1)) w2 := (But.refl _ _).grown hgrow (fun k hk => .inl hk)
  have hb3 : But (· = gc) w2 (w2.setCell ⟨gc, 3, none⟩ (.slice (some ⟨g, 0, none⟩) (ts.length + 1) cap2)) := (But.refl (· = gc) w2).setCell (p := ⟨gc, 3, none⟩) (.inl rfl) _
  have hx1 : RowE (w1.alloc (TB t A1 cap1)) L va ts xs := (hx.but hb1 fun k hk => hk.elim).but hba fun k hk => hk.elim
  have hrow2 : RowT w2 L (.slice (some ⟨g, 0, none⟩) (ts.length + 1) cap2) (ts ++ [t]) :=
    RowT.push (hown1.alloc _) hx1 rfl (hnew.but hba (fun k hk => hk.elim) (Nat.le_refl _)) hL (fun k hk => (hown.lt k hk).2) hown2 hgrow (hat.imp id (fun e => by simp; omega))
  refine ⟨?_, hrow2.but hb3 (fun k hk => .inl (by subst hk; omega)), ?_⟩
  · have := set_blk (i := 3) (hb2.heap (hn2 _ hg) (heap_old h2)) (.slice (some ⟨g, 0, none⟩) (ts.length + 1) cap2)
    simpa using this
  · refine ((hba.of_nil (S := fun k => k = gc ∨ L ≤ k)).trans hb2 fun i hi _ => .inl (.inr (hown1.lt i hi).1)).trans hb3 fun i hi _ => .inl (.inl hi)

set_option maxHeartbeats 1000000 in
theorem copied_any (t : Tm) : ∀ (w : World) (v : Value), TmAt w w.heap.size t v → fitsT t = true →
    Calls Try.prog 69 #[v] w fun e w' => ∃ u, e = .returned u ∧ TmNew w' w.heap.size t u ∧ But Nil w w' := by
  induction t using Tm.ind with
  | h k n nm l ih =>
  intro w v hv hfit
  have hv' := hv
  unfold TmAt TmIn at hv
  obtain ⟨A, len, cap, rfl, h1, h2, h3, rfl, h5, h6, -, h7⟩ := hv
  have IH := Lib.hid ih
  obtain ⟨i0, hi0, hz0, hz1, hz2⟩ := info_parts Try.infoTerm
  have hfl : fitsL l = true := by
    unfold fitsT at hfit
    simp only [Bool.and_eq_true] at hfit
    exact hfit.2
  have hl8 : l.length ≤ 8 := by
    unfold fitsT at hfit
    simp only [Bool.and_eq_true] at hfit
    exact node_args hfit.1
  have hwf1 := h1
  have hwf2 := h2
  clear ih hfit h1 h2 hv'
  go_enter Try.func69, Try.ntmps69
  go_wp2_with fail
  go_loopw [4] (fun i wr => ∃ (j : Nat) (va : Value) (ts : List Tm), j ≤ l.length ∧ i = .int .i64 j ∧ wr.heap[w.heap.size]? = some (.cells #[.int .i64 k, .int .i64 n, .string nm, .slice A l.length cap] 24 (0, 0)) ∧
      wr.heap[w.heap.size + 1]? = some (TB zeroT none 0) ∧ wr.heap[w.heap.size + 1 + 1]? = some (.cells #[.int .i64 k, .int .i64 n, .string nm, va] 24 (0, 0)) ∧
      RowT wr (w.heap.size + 3) va ts ∧ ts.length = j ∧ ts ++ l.drop j = l ∧ But Nil w wr) (fun i _ => l.length - (intOf i).toNat)
  case atStart =>
    exact ⟨0, _, [], by omega, rfl, heap_old (heap_old (heap_new rfl)), heap_old (heap_new (by simp)), heap_new (by simp), RowT.nil _ _, rfl, by simp, (((But.refl _ _).alloc _).alloc _).alloc _⟩
  case round =>
    obtain ⟨j, va, ts, hj, rfl, hblk0, hblk1, hblk2, hrow, htl, hts, hbut⟩ := hrel
    have Hts := Lib.hid hts
    have Htl := Lib.hid htl
    clear hts htl
    by_cases hjl : j < l.length
    · obtain ⟨b, o, A0, cap0, rfl, hb, e0, e1, e2, e3, ht⟩ := h7.get hjl
      have g0 := hbut.cell id e0
      have g1 := hbut.cell id e1
      have g2 := hbut.cell id e2
      have g3 := hbut.cell id e3
      have Ht := Lib.hid (TmAt.keeps (Nat.le_refl _) (But.keeps_nil (B := w.heap.size) (hbut.drew)) _ ht)
      obtain ⟨-, -, -, x3⟩ := blk4 hblk0
      obtain ⟨-, -, -, q3⟩ := blk4 hblk2
      obtain ⟨xs, hown, hxs⟩ := hrow
      have hgl : ∀ g, va.ownBlock = some g → g < wr.heap.size := fun g hg => (hown.lt g hg).2
      have Hxs := Lib.hid hxs
      have Hown := Lib.hid hown
      have hlt2 := lt_of_heap hblk2
      have Hblk0 := Lib.hid hblk0
      have Hblk1 := Lib.hid hblk1
      have Hblk2 := Lib.hid hblk2
      have hts1 : ts.length + 1 ≤ 9 := by have := Htl.out; omega
      have Hfj := Lib.hid (fitsL_get hfl j hjl)
      have hwl := hbut.size
      clear e0 e1 e2 e3 ht hxs hblk0 hblk1 hblk2
      go_wp2_with fail
      go_region_law (first
          | (refine step_append_lies _ (by rfl) _ _ _ (by rfl) (w.heap.size + 3) 24 i0 _ 4 56 Try.underlying22 hi0 hz0 hz1 hz2 rfl (by omega) va ts.length xs (by rfl) (hown1.alloc _) ⟨w1.heap.size, 0, none⟩ 1 1 (C4 l[j] A1 cap1) (by rfl) (by rfl)
               (World.news_of_block (cs := (C4 l[j] A1 cap1).toArray) (t := 24) (fr := (0, 0)) (heap_alloc_new w1 _)) (by simp [Value.oneCell']) (by omega) (by unfold maxLen; omega) (by omega) (by simp; omega) (w1.heap.size + 1) (by simp) ?_
             intro gg cap2 w2 hown2 hgrow hat hlt
             have hb2 : But (fun k => va.ownBlock = some k) (w1.alloc (TB l[j] A1 cap1)) w2 := (But.refl _ _).grown hgrow (fun k hk => .inl hk)
             have hn2 : ∀ k, k < w.heap.size + 3 → ¬ va.ownBlock = some k := fun k hk e => by have := (hown1.lt k e).1; omega
             have hblk2_2 := hb2.heap (hn2 _ (by omega)) (heap_old hblk2'')
             have c3'' := (blk4 hblk2_2).2.2.2
             have hfz := frz hblk2_2)
          | (go_simp; go_at_call 69; refine (IH.out l[j] (List.getElem_mem hjl) _ _ (Ht.out.all _ (by show _ ≤ wr.heap.size; omega)) Hfj.out).mono ?_; rintro e w1 ⟨u, rfl, hnew, hb1⟩; obtain ⟨A1, cap1, rfl, -⟩ := hnew.form
             have hblk0'' := hb1.heap id Hblk0.out
             have hblk1'' := hb1.heap id Hblk1.out
             have hblk2'' := hb1.heap id Hblk2.out
             have c3' := (blk4 hblk2'').2.2.2
             have hown1 := own_but hown ((But.refl Nil wr).drew.trans_nil hb1) (fun _ _ => id)
             have hw1 : wr.heap.size ≤ w1.heap.size := hb1.size
             have hlq : w.heap.size + 1 + 1 < w1.heap.size := by omega))
      all_goals
        have R := arg_step Hown.out Hxs.out ((But.refl Nil wr).drew.trans_nil hb1) (by omega) hnew hown2 hgrow hat hblk2'' (by omega)
        have hbz := (hbut.drew.trans_nil hb1).trans R.2.2 fun i hi _ => .inr (by rcases hi with h | h <;> omega)
        have hS : ∀ k, k < w.heap.size + 2 → ¬ (k = w.heap.size + 1 + 1 ∨ w.heap.size + 3 ≤ k) := fun k hk => by omega
        have hf0 := R.2.2.heap (hS _ (by omega)) hblk0''
        have hf1 := R.2.2.heap (hS _ (by omega)) hblk1''
        have Hf0 := Lib.hid hf0
        have Hf1 := Lib.hid hf1
        have HR := Lib.hid R
        clear R hf0 hf1 hblk0'' hblk1'' hblk2'' hown2 hgrow hat hown1 hown hnew hb1 hb2
        go_wp2_with fail
        go_roundw
        case rel => exact ⟨j + 1, _, _, by omega, by go_num, Hf0.out, Hf1.out, HR.out.1, HR.out.2.1, by simp [Htl.out], by rw [List.append_assoc, List.singleton_append, ← List.drop_eq_getElem_cons hjl]; exact Hts.out, hbz⟩
        case measure => simp [intOf]; omega
    · obtain ⟨A', cap', rfl, hc1, hc2, hargs⟩ := hrow.args
      obtain ⟨-, -, -, x3⟩ := blk4 hblk0
      obtain ⟨p0, p1, p2, p3⟩ := blk4 hblk2
      obtain ⟨q0, q1, q2, q3⟩ := blk4 hblk1
      have f0 := frz hblk1
      have hlt1 := lt_of_heap hblk1
      have Hset := Lib.hid (set4 (a' := .int .i64 k) (b' := .int .i64 n) (c' := .string nm) (d' := .slice A' ts.length cap') hblk1)
      clear hblk0 hblk1 hblk2
      go_wp2_with fail
      obtain ⟨r0, r1, r2, r3⟩ := blk4 Hset.out
      refine bodyPost_ret (v := .agg #[.int .i64 k, .int .i64 n, .string nm, .slice A' ts.length cap']) (by simp [results, Try.results69, go_sem, r0, r1, r2, r3]) rfl ?_
      have hb4 := (But.refl (· = w.heap.size + 1) wr).set4 (.inl rfl) (.int .i64 k) (.int .i64 n) (.string nm) (.slice A' ts.length cap')
      have e1 := Hts.out
      rw [List.drop_eq_nil_of_le (by omega), List.append_nil] at e1
      refine ⟨_, rfl, ?_, hbut.trans hb4 fun i hi _ => .inr (by subst hi; omega)⟩
      rw [← e1]
      unfold TmNew TmIn
      exact ⟨A', ts.length, cap', rfl, hwf1, hwf2, h3, rfl, hc1, by have := Htl.out; omega, hc2, ArgsIn.keeps (fun k _ hk hd => ⟨hb4.heap (fun e => by have := hd.1; omega) hk, by have := hd.1; omega, hd.2.but hb4 (fun e => by have := hd.1; omega)⟩) hargs⟩

end Go.Proofs.Ytloekfnlidclcaa

namespace Go.Proofs.Ytloekfnlidclcaa
open Go.RowKit Go.Maps
set_option linter.unusedVariables false

theorem var_node {n : Int} {nm : ByteArray} {l : List Tm} (h : nodeB (.mk 0 n nm l) = true) : 0 ≤ n ∧ n ≤ 1099511627776 ∧ nm = ⟨#[]⟩ ∧ l = [] := by
  have h1 := var_args (t := .mk 0 n nm l) rfl h
  have h2 := var_bd (t := .mk 0 n nm l) rfl h
  simp [nodeB] at h
  refine ⟨h2.1, h2.2, ?_, h1⟩
  have h3 := h.1.2
  rw [ByteArray.toList_eq] at h3
  cases nm with
  | mk d => simp at h3; rw [h3]

end Go.Proofs.Ytloekfnlidclcaa

namespace Go.Proofs.Ytloekfnlidclcaa
open Go.RowKit Go.Maps
set_option linter.unusedVariables false

/-- The place of a number in a list, or -1. -/
def posI (l : List Int) (n : Int) : Int := if n ∈ l then (l.idxOf n : Nat) else -1

theorem posI_bd (l : List Int) (n : Int) : -1 ≤ posI l n ∧ posI l n ≤ l.length := by
  unfold posI
  have := List.idxOf_le_length (a := n) (l := l)
  split <;> omega

theorem idx_at {l : List Int} {n : Int} : ∀ {j : Nat} (hj : j < l.length), l[j] = n → (∀ q (hq : q < l.length), q < j → l[q] ≠ n) → l.idxOf n = j := by
  induction l with
  | nil => intro j hj; simp at hj
  | cons x l ih =>
    intro j hj he hno
    rcases j with _ | j
    · simp at he
      simp [he]
    · have hx : ¬ x = n := hno 0 (by simp) (by omega)
      have := ih (j := j) (by simpa using hj) (by simpa using he) (fun q hq hqj => hno (q + 1) (by simpa using hq) (by omega))
      have hxb : (x == n) = false := by simpa using hx
      rw [List.idxOf_cons, hxb, this]
      rfl

theorem pos_at {l : List Int} {n : Int} {j : Nat} (hj : j < l.length) (he : l[j] = n) (hno : ∀ q (hq : q < l.length), q < j → l[q] ≠ n) : posI l n = j := by
  unfold posI
  rw [if_pos (by rw [← he]; exact List.getElem_mem hj), idx_at hj he hno]

theorem pos_none {l : List Int} {n : Int} (hno : ∀ q (hq : q < l.length), l[q] ≠ n) : posI l n = -1 := by
  unfold posI
  rw [if_neg]
  intro h
  obtain ⟨q, hq, he⟩ := List.getElem_of_mem h
  exact hno q hq he

end Go.Proofs.Ytloekfnlidclcaa

namespace Go.Proofs.Ytloekfnlidclcaa
open Go.RowKit Go.Maps
set_option linter.unusedVariables false

def numG (vs : List Int) : Unit → Tm → Unit × Tm := fun _ t => ((), .mk 0 (posI vs t.num) ⟨#[]⟩ [])

end Go.Proofs.Ytloekfnlidclcaa
