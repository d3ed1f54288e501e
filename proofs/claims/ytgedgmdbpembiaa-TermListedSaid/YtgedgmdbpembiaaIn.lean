/-
  term.Indicator: the walk.
-/
import Derived.Test.YtgedgmdbpembiaaMk
namespace Go.Proofs.Ytgedgmdbpembiaa
open Go.RowKit Go.Maps
set_option linter.unusedVariables false

def indOk (s : ByteArray) (n : Int) : Bool := decide ((s.size : Int) ≤ 100) && (decide (0 ≤ n) && decide (n ≤ 8))
def indT (s : ByteArray) (n : Int) : Tm := if indOk s n then structT ⟨#[47]⟩ [atomT s, intT n] else zeroT

set_option maxHeartbeats 1000000 in
theorem ind_any (s : ByteArray) (n : Int) (w : World) (h : s.size ≤ 140737488351232) (hn : wf64 n) : Calls Try.prog 49 #[.string s, .int .i64 n] w fun e w' => ∃ u, e = .returned u ∧ TmNew w' w.heap.size (indT s n) u ∧ But Nil w w' := by
  have hk1 : But Nil w (w.alloc (TB zeroT none 0)) := (But.refl _ _).alloc _
  by_cases hok : (s.size : Int) ≤ 100 ∧ 0 ≤ n ∧ n ≤ 8
  · obtain ⟨o1, o2, o3⟩ := hok
    have e1 : indT s n = structT ⟨#[47]⟩ [atomT s, intT n] := by simp [indT, indOk]; omega
    have He1 := Lib.hid e1
    clear e1
    go_enter Try.func49, Try.ntmps49
    go_wp2_with fail
    refine (atom_any s _ h).mono ?_
    rintro e w1 ⟨u1, rfl, hn1, hb1⟩
    have hk2 := hk1.trans_nil hb1
    go_wp2_with fail
    refine (int_any n _ hn).mono ?_
    rintro e w2 ⟨u2, rfl, hn2, hb2⟩
    have hk3 := hk2.trans_nil hb2
    obtain ⟨A1, cap1, rfl, -⟩ := hn1.form
    obtain ⟨A2, cap2, rfl, -⟩ := hn2.form
    have ht1 := ((hn1.at_ w1.heap.size).nil hb2).nil ((But.refl Nil w2).alloc (.cells (C4 (atomT s) A1 cap1 ++ C4 (intT n) A2 cap2).toArray 24))
    have ht2 := (hn2.at_ w2.heap.size).nil ((But.refl Nil w2).alloc (.cells (C4 (atomT s) A1 cap1 ++ C4 (intT n) A2 cap2).toArray 24))
    have hargs := args2 (heap_new (w := w2) (o := .cells (C4 (atomT s) A1 cap1 ++ C4 (intT n) A2 cap2).toArray 24) rfl) (by simp) ht1 ht2
    have hz1 := hb1.heap id (heap_new (w := w) (o := TB zeroT none 0) rfl)
    have hz2 := hb2.heap id hz1
    have Ha := Lib.hid hargs
    have Hz := Lib.hid hz2
    clear hargs ht1 ht2 hn1 hn2 hz1 hz2
    go_wp2_with fail
    refine (struct_any ⟨#[47]⟩ [atomT s, intT n] _ 2 _ (by decide) (by simp) (by simp) (by unfold maxLen; omega) Ha.out).mono ?_
    rintro e w3 ⟨u, rfl, hnew, hb3⟩
    obtain ⟨A3, cap3, hu, -⟩ := hnew.form
    have hk4 := (hk3.alloc (.cells (C4 (atomT s) A1 cap1 ++ C4 (intT n) A2 cap2).toArray 24)).trans_nil hb3
    have hz := hb3.heap id (heap_old Hz.out)
    obtain ⟨p0, p1, p2, p3⟩ := blk4 hz
    have f0 := frz hz
    have hlz : w.heap.size < w2.heap.size := lt_of_heap Hz.out
    have hl2 : w.heap.size ≤ w2.heap.size := by omega
    have Hset := Lib.hid (set4 (a' := .int .i64 (structT ⟨#[47]⟩ [atomT s, intT n]).kind) (b' := .int .i64 (structT ⟨#[47]⟩ [atomT s, intT n]).num) (c' := .string (structT ⟨#[47]⟩ [atomT s, intT n]).name) (d' := .slice A3 (structT ⟨#[47]⟩ [atomT s, intT n]).args.length cap3) hz)
    have Hu := Lib.hid hu
    rw [hu]
    clear hz hu
    go_wp2_with fail
    obtain ⟨r0, r1, r2, r3⟩ := blk4 Hset.out
    have hb4 := (But.refl (· = w.heap.size) w3).set4 (.inl rfl) (.int .i64 (structT ⟨#[47]⟩ [atomT s, intT n]).kind) (.int .i64 (structT ⟨#[47]⟩ [atomT s, intT n]).num) (.string (structT ⟨#[47]⟩ [atomT s, intT n]).name) (.slice A3 (structT ⟨#[47]⟩ [atomT s, intT n]).args.length cap3)
    refine bodyPost_ret (v := VT (structT ⟨#[47]⟩ [atomT s, intT n]) A3 cap3) (by simp [results, Try.results49, go_sem, r0, r1, r2, r3]) rfl ?_
    rw [VT, ← Hu.out, He1.out]
    exact ⟨_, rfl, hnew.far hb4 (fun k hk => .inl (by subst hk; simp; omega)) (by simp; omega), hk4.trans hb4 fun i hi _ => .inr (by subst hi; omega)⟩
  · have e1 : indT s n = zeroT := by simp [indT, indOk]; omega
    have He1 := Lib.hid e1
    have hb4 := But.of_nil (S := Nil) ((But.refl Nil w).alloc (TB zeroT none 0))
    have fin : Go.Proofs.Ytgedgmdbpembiaa.TmNew (w.alloc (TB zeroT none 0)) w.heap.size (indT s n) (VT zeroT none 0) := by rw [e1]; exact zero_new _ _
    have Hf := Lib.hid fin
    clear e1 fin
    by_cases o1 : (s.size : Int) ≤ 100
    · by_cases o2 : 0 ≤ n
      · have d1 : decide (100 < (s.size : Int)) = false := by simp; omega
        have d2 : decide (n < 0) = false := by simp; omega
        have d3 : decide (8 < n) = true := by simp; omega
        clear hok
        go_enter Try.func49, Try.ntmps49
        go_wp2_with fail
        exact bodyPost_ret (v := .agg #[.int .i64 0, .int .i64 0, .string ⟨#[]⟩, .slice none 0 0]) (by simp [results, Try.results49, go_sem]) rfl ⟨_, rfl, Hf.out, hb4⟩
      · have d1 : decide (100 < (s.size : Int)) = false := by simp; omega
        have d2 : decide (n < 0) = true := by simp; omega
        clear hok
        go_enter Try.func49, Try.ntmps49
        go_wp2_with fail
        exact bodyPost_ret (v := .agg #[.int .i64 0, .int .i64 0, .string ⟨#[]⟩, .slice none 0 0]) (by simp [results, Try.results49, go_sem]) rfl ⟨_, rfl, Hf.out, hb4⟩
    · have d1 : decide (100 < (s.size : Int)) = true := by simp; omega
      clear hok
      go_enter Try.func49, Try.ntmps49
      go_wp2_with fail
      exact bodyPost_ret (v := .agg #[.int .i64 0, .int .i64 0, .string ⟨#[]⟩, .slice none 0 0]) (by simp [results, Try.results49, go_sem]) rfl ⟨_, rfl, Hf.out, hb4⟩

end Go.Proofs.Ytgedgmdbpembiaa
