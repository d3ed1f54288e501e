/-
  The reference's number: the walk.
-/
import Derived.Test.YtgedgmdbpembiaaPs
namespace Go.Proofs.Ytgedgmdbpembiaa
open Go.RowKit Go.Maps
set_option linter.unusedVariables false

def numG (vs : List Int) : Unit → Tm → Unit × Tm := fun _ t => ((), .mk 0 (posI vs t.num) ⟨#[]⟩ [])

set_option maxHeartbeats 1000000 in
theorem rnum_any (vs : List Int) (Av : Option Addr) (capv : Nat) (hvl : vs.length ≤ 1099511627777) (t : Tm) : ∀ (w : World) (v : Value), TmAt w w.heap.size t v → fitsT t = true → IntsIn w (fun _ => True) Av vs →
    Calls Try.prog 66 #[.slice Av vs.length capv, v] w fun e w' => ∃ u, e = .returned u ∧ TmNew w' w.heap.size (appT (numG vs) () t).2 u ∧ But Nil w w' := by
  induction t using Tm.ind with
  | h k n nm l ih =>
  intro w v hv hfit hvs
  have hv' := hv
  unfold TmAt TmIn at hv
  obtain ⟨A, len, cap, rfl, h1, h2, h3, rfl, h5, h6, -, h7⟩ := hv
  have IH := Lib.hid ih
  obtain ⟨i0, hi0, hz0, hz1, hz2⟩ := info_parts Try.infoTerm
  have hfl : fitsL l = true := by
    unfold fitsT at hfit
    simp only [Bool.and_eq_true] at hfit
    exact hfit.2
  have hnode : nodeB (.mk k n nm l) = true := by
    unfold fitsT at hfit
    simp only [Bool.and_eq_true] at hfit
    exact hfit.1
  have hl8 : l.length ≤ 8 := by
    unfold fitsT at hfit
    simp only [Bool.and_eq_true] at hfit
    exact node_args hfit.1
  have hwf1 := h1
  have hwf2 := h2
  clear ih hfit h1 h2 hv'
  by_cases hk : k = 0
  · subst hk
    obtain ⟨hn0, hn1, rfl, rfl⟩ := var_node hnode
    clear hnode hfl hl8 h7 IH
    have hk1 : But Nil w (((w.alloc (.cells #[.int .i64 0, .int .i64 n, .string ⟨#[]⟩, .slice A 0 cap] 24)).alloc (TB zeroT none 0)).alloc (.cells #[.int .i64 0, .int .i64 n, .string ⟨#[]⟩, .slice none 0 0] 24)) := (((But.refl _ _).alloc _).alloc _).alloc _
    go_enter Try.func66, Try.ntmps66
    go_wp2_with fail
    refine (pos_any vs Av capv n _ hvl (hvs.nil hk1)).mono ?_
    rintro e w1 ⟨rfl, hb1⟩
    have hx0 := hb1.heap id (heap_old (heap_old (heap_new (w := w) (o := .cells #[.int .i64 0, .int .i64 n, .string ⟨#[]⟩, .slice A 0 cap] 24) rfl)))
    have hx1 := hb1.heap id (heap_old (heap_new (w := w.alloc (.cells #[.int .i64 0, .int .i64 n, .string ⟨#[]⟩, .slice A 0 cap] 24)) (o := TB zeroT none 0) (k := w.heap.size + 1) (by simp)))
    have hx2 := hb1.heap id (heap_new (w := (w.alloc (.cells #[.int .i64 0, .int .i64 n, .string ⟨#[]⟩, .slice A 0 cap] 24)).alloc (TB zeroT none 0)) (o := .cells #[.int .i64 0, .int .i64 n, .string ⟨#[]⟩, .slice none 0 0] 24) (k := w.heap.size + 1 + 1) (by simp))
    obtain ⟨-, -, -, x3⟩ := blk4 hx0
    obtain ⟨y0, y1, y2, y3⟩ := blk4 hx2
    obtain ⟨z0, z1, z2, z3⟩ := blk4 hx1
    have f2 := frz hx2
    have f1 := frz hx1
    have hl2 := lt_of_heap hx2
    have hbs := (But.refl (· = w.heap.size + 1 + 1) w1).setCell (p := ⟨w.heap.size + 1 + 1, 1, none⟩) (.inl rfl) (.int .i64 (posI vs n))
    have hx1' := hbs.heap (k := w.heap.size + 1) (by show ¬ (_ = _); omega) hx1
    have Hset := Lib.hid (set4 (a' := .int .i64 0) (b' := .int .i64 (posI vs n)) (c' := .string ⟨#[]⟩) (d' := .slice none 0 0) hx1')
    clear hx0 hx1 hx2 hx1'
    go_wp2_with fail
    refine wp_loop_rounds 1 ?_
    rw [rounds_succ]
    go_wp2_with fail
    obtain ⟨r0, r1, r2, r3⟩ := blk4 Hset.out
    have hb4 := (But.refl (· = w.heap.size + 1) (w1.setCell ⟨w.heap.size + 1 + 1, 1, none⟩ (.int .i64 (posI vs n)))).set4 (.inl rfl) (.int .i64 0) (.int .i64 (posI vs n)) (.string ⟨#[]⟩) (.slice none 0 0)
    refine bodyPost_ret (v := .agg #[.int .i64 0, .int .i64 (posI vs n), .string ⟨#[]⟩, .slice none 0 0]) (by simp [results, Try.results66, go_sem, r0, r1, r2, r3]) rfl ⟨_, rfl, ?_, ((hk1.trans_nil hb1).trans hbs fun i hi _ => .inr (by subst hi; omega)).trans hb4 fun i hi _ => .inr (by subst hi; omega)⟩
    simp only [appT, if_pos, numG]
    exact flat_new (by unfold wf64; omega) (by have := posI_bd vs n; unfold wf64; simp only [Tm.num]; omega) (by decide)
  · have hk' : (k == 0) = false := by simpa using hk
    have Hk := Lib.hid hk
    clear hk
    go_enter Try.func66, Try.ntmps66
    go_wp2_with fail
    go_loopw [6] (fun i wr => ∃ (j : Nat) (va : Value) (ts : List Tm), j ≤ l.length ∧ i = .int .i64 j ∧ wr.heap[w.heap.size]? = some (.cells #[.int .i64 k, .int .i64 n, .string nm, .slice A l.length cap] 24 (0, 0)) ∧
        wr.heap[w.heap.size + 1]? = some (TB zeroT none 0) ∧ wr.heap[w.heap.size + 1 + 1]? = some (.cells #[.int .i64 k, .int .i64 n, .string nm, va] 24 (0, 0)) ∧
        RowT wr (w.heap.size + 3) va ts ∧ ts.length = j ∧ ts ++ (appL (numG vs) () (l.drop j)).2 = (appL (numG vs) () l).2 ∧ But Nil w wr) (fun i _ => l.length - (intOf i).toNat)
    case atStart =>
      exact ⟨0, _, [], by omega, rfl, heap_old (heap_old (heap_new rfl)), heap_old (heap_new (by simp)), heap_new (by simp), RowT.nil _ _, rfl, by simp, (((But.refl _ _).alloc _).alloc _).alloc _⟩
    case round =>
      obtain ⟨j, va, ts, hj, rfl, hblk0, hblk1, hblk2, hrow, htl, hts, hbut⟩ := hrel
      have Hts := Lib.hid hts
      have Htl := Lib.hid htl
      clear hts htl
      by_cases hjl : j < l.length
      · obtain ⟨b, o, A0, cap0, rfl, hb, e0, e1, e2, e3, ht⟩ := h7.get hjl
        have g0 := hbut.cell id e0
        have g1 := hbut.cell id e1
        have g2 := hbut.cell id e2
        have g3 := hbut.cell id e3
        have Ht := Lib.hid (TmAt.keeps (Nat.le_refl _) (But.keeps_nil (B := w.heap.size) (hbut.drew)) _ ht)
        obtain ⟨-, -, -, x3⟩ := blk4 hblk0
        obtain ⟨-, -, -, q3⟩ := blk4 hblk2
        obtain ⟨xs, hown, hxs⟩ := hrow
        have hgl : ∀ g, va.ownBlock = some g → g < wr.heap.size := fun g hg => (hown.lt g hg).2
        have Hxs := Lib.hid hxs
        have Hown := Lib.hid hown
        have hlt2 := lt_of_heap hblk2
        have Hblk0 := Lib.hid hblk0
        have Hblk1 := Lib.hid hblk1
        have Hblk2 := Lib.hid hblk2
        have hts1 : ts.length + 1 ≤ 9 := by have := Htl.out; omega
        have Hfj := Lib.hid (fitsL_get hfl j hjl)
        have hwl := hbut.size
        clear e0 e1 e2 e3 ht hxs hblk0 hblk1 hblk2
        go_wp2_with fail
        go_region_law (first
            | (refine step_append_lies _ (by rfl) _ _ _ (by rfl) (w.heap.size + 3) 24 i0 _ 4 56 Try.underlying22 hi0 hz0 hz1 hz2 rfl (by omega) va ts.length xs (by rfl) (hown1.alloc _) ⟨w1.heap.size, 0, none⟩ 1 1 (C4 (appT (numG vs) () l[j]).2 A1 cap1) (by rfl) (by rfl)
                 (World.news_of_block (cs := (C4 (appT (numG vs) () l[j]).2 A1 cap1).toArray) (t := 24) (fr := (0, 0)) (heap_alloc_new w1 _)) (by simp [Value.oneCell']) (by omega) (by unfold maxLen; omega) (by omega) (by simp; omega) (w1.heap.size + 1) (by simp) ?_
               intro gg cap2 w2 hown2 hgrow hat hlt
               have hb2 : But (fun k => va.ownBlock = some k) (w1.alloc (TB (appT (numG vs) () l[j]).2 A1 cap1)) w2 := (But.refl _ _).grown hgrow (fun k hk => .inl hk)
               have hn2 : ∀ k, k < w.heap.size + 3 → ¬ va.ownBlock = some k := fun k hk e => by have := (hown1.lt k e).1; omega
               have hblk2_2 := hb2.heap (hn2 _ (by omega)) (heap_old hblk2'')
               have c3'' := (blk4 hblk2_2).2.2.2
               have hfz := frz hblk2_2)
            | (go_simp; go_at_call 66; refine (IH.out l[j] (List.getElem_mem hjl) _ _ (Ht.out.all _ (by show _ ≤ wr.heap.size; omega)) Hfj.out (hvs.nil hbut.drew)).mono ?_; rintro e w1 ⟨u, rfl, hnew, hb1⟩; obtain ⟨A1, cap1, rfl, -⟩ := hnew.form
               have hblk0'' := hb1.heap id Hblk0.out
               have hblk1'' := hb1.heap id Hblk1.out
               have hblk2'' := hb1.heap id Hblk2.out
               have c3' := (blk4 hblk2'').2.2.2
               have hown1 := own_but hown ((But.refl Nil wr).drew.trans_nil hb1) (fun _ _ => id)
               have hw1 : wr.heap.size ≤ w1.heap.size := hb1.size
               have hlq : w.heap.size + 1 + 1 < w1.heap.size := by omega))
        all_goals
          have R := arg_step Hown.out Hxs.out ((But.refl Nil wr).drew.trans_nil hb1) (by omega) hnew hown2 hgrow hat hblk2'' (by omega)
          have hbz := (hbut.drew.trans_nil hb1).trans R.2.2 fun i hi _ => .inr (by rcases hi with h | h <;> omega)
          have hS : ∀ k, k < w.heap.size + 2 → ¬ (k = w.heap.size + 1 + 1 ∨ w.heap.size + 3 ≤ k) := fun k hk => by omega
          have hf0 := R.2.2.heap (hS _ (by omega)) hblk0''
          have hf1 := R.2.2.heap (hS _ (by omega)) hblk1''
          have Hf0 := Lib.hid hf0
          have Hf1 := Lib.hid hf1
          have HR := Lib.hid R
          clear R hf0 hf1 hblk0'' hblk1'' hblk2'' hown2 hgrow hat hown1 hown hnew hb1 hb2
          go_wp2_with fail
          go_roundw
          case rel => exact ⟨j + 1, _, _, by omega, by go_num, Hf0.out, Hf1.out, HR.out.1, HR.out.2.1, by simp [Htl.out], by rw [List.append_assoc, List.singleton_append, ← Hts.out, appL_drop (numG vs) () hjl], hbz⟩
          case measure => simp [intOf]; omega
      · obtain ⟨A', cap', rfl, hc1, hc2, hargs⟩ := hrow.args
        obtain ⟨-, -, -, x3⟩ := blk4 hblk0
        obtain ⟨p0, p1, p2, p3⟩ := blk4 hblk2
        obtain ⟨q0, q1, q2, q3⟩ := blk4 hblk1
        have f0 := frz hblk1
        have hlt1 := lt_of_heap hblk1
        have Hset := Lib.hid (set4 (a' := .int .i64 k) (b' := .int .i64 n) (c' := .string nm) (d' := .slice A' ts.length cap') hblk1)
        clear hblk0 hblk1 hblk2
        go_wp2_with fail
        obtain ⟨r0, r1, r2, r3⟩ := blk4 Hset.out
        refine bodyPost_ret (v := .agg #[.int .i64 k, .int .i64 n, .string nm, .slice A' ts.length cap']) (by simp [results, Try.results66, go_sem, r0, r1, r2, r3]) rfl ?_
        have hb4 := (But.refl (· = w.heap.size + 1) wr).set4 (.inl rfl) (.int .i64 k) (.int .i64 n) (.string nm) (.slice A' ts.length cap')
        have e1 := Hts.out
        rw [List.drop_eq_nil_of_le (by omega)] at e1
        simp only [appL, List.append_nil] at e1
        refine ⟨_, rfl, ?_, hbut.trans hb4 fun i hi _ => .inr (by subst hi; omega)⟩
        unfold appT
        rw [if_neg Hk.out, ← e1]
        unfold TmNew TmIn
        exact ⟨A', ts.length, cap', rfl, hwf1, hwf2, h3, rfl, hc1, by have := Htl.out; omega, hc2, ArgsIn.keeps (fun k _ hk hd => ⟨hb4.heap (fun e => by have := hd.1; omega) hk, by have := hd.1; omega, hd.2.but hb4 (fun e => by have := hd.1; omega)⟩) hargs⟩

end Go.Proofs.Ytgedgmdbpembiaa
