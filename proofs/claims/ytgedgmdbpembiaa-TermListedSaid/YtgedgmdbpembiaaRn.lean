/-
  term.Rename: the walk.
-/
import Derived.Test.YtgedgmdbpembiaaVr
namespace Go.Proofs.Ytgedgmdbpembiaa
open Go.RowKit Go.Maps
set_option linter.unusedVariables false

def numB (n : Int) : Bool := decide (0 ≤ n) && decide (n ≤ 1099511627776)

theorem number_any (n : Int) (w : World) : Calls Try.prog 67 #[.int .i64 n] w fun e w' => e = .returned (.bool (numB n)) ∧ But Nil w w' := by
  by_cases h0 : 0 ≤ n
  · by_cases h1 : n ≤ 1099511627776
    · go_enter Try.func67, Try.ntmps67
      go_wp2_with fail
      go_ret
      exact ⟨ret_bool (by simp [numB]; omega), But.refl _ _⟩
    · go_enter Try.func67, Try.ntmps67
      go_wp2_with fail
      go_ret
      exact ⟨ret_bool (by simp [numB]; omega), But.refl _ _⟩
  · have hd : decide (0 ≤ n) = false := by simpa using h0
    go_enter Try.func67, Try.ntmps67
    go_wp2_with fail
    go_ret
    exact ⟨ret_bool (by simp [numB]; omega), But.refl _ _⟩

def renG (from_ : Int) : Unit → Tm → Unit × Tm := fun _ t => ((), .mk 0 (t.num + from_) ⟨#[]⟩ [])

set_option maxHeartbeats 400000 in
theorem rename1_any (t : Tm) (w : World) (v : Value) (B pf : Nat) (n : Int) (hk : t.kind = 0) (hn : nodeB t = true) (h : TmAt w B t v) (h0 : 0 ≤ n) (h1 : n ≤ 1099511627776)
    (hI : w.heap[pf]? = some (.cells #[.int .i64 n] 2 (0, 0))) :
    Calls Try.prog 68 #[v, .pointer (some ⟨pf, 0, none⟩)] w fun e w' => ∃ u, e = .returned u ∧ TmNew w' w.heap.size (renG n () t).2 u ∧ But Nil w w' := by
  obtain ⟨A, cap, rfl, -⟩ := h.form
  have hbd := var_bd hk hn
  have hpl := lt_of_heap hI
  have hpc := cell_of_one hI
  clear hI hk hn
  go_enter Try.func68, Try.ntmps68
  go_wp2_with fail
  refine bodyPost_ret (v := .agg #[.int .i64 0, .int .i64 (t.num + n), .string ⟨#[]⟩, .slice none 0 0]) (by simp [results, Try.results68, go_sem]) rfl
      ⟨_, rfl, ?_, (((But.refl _ _).alloc _).alloc _)⟩
  simp only [renG]
  unfold TmNew TmIn
  exact ⟨none, 0, 0, rfl, by unfold wf64; omega, by unfold wf64; omega, by decide, rfl, by simp, by simp, by unfold maxLen; omega, by unfold ArgsIn; trivial⟩

theorem rename1_enter (args : Array Value) (w : World) : (callFunc 68 args).run Try.prog w = .ok (.enter 68 args) w := by kernel_rfl

theorem rename1_clo (B pf : Nat) (n : Int) (h0 : 0 ≤ n) (h1 : n ≤ 1099511627776) :
    Clo 68 #[.pointer (some ⟨pf, 0, none⟩)] (renG n) (fun _ w => w.heap[pf]? = some (.cells #[.int .i64 n] 2 (0, 0))) B where
  call s t w v hk hn _ ht hI := (rename1_any t w v B pf n hk hn ht h0 h1 hI).mono fun e w' ⟨u, he, hu, hb⟩ => ⟨u, he, hu, hb.heap id hI, hb.of_nil⟩
  enter := rename1_enter
  keep _ _ _ hI hb := hb.heap (fun ⟨_, c, f, hc⟩ => by rw [hI] at hc; injection hc with hc; injection hc with _ hc; cases hc) hI

def renameT (t : Tm) (n : Int) : Tm × Int :=
  if validT t && numB n then if (varsT t).any (fun v => decide (1099511627776 - n < v)) then (zeroT, 2) else ((appT (renG n) () t).2, 0) else (zeroT, 1)

set_option maxHeartbeats 1000000 in
theorem rename_any (t : Tm) (n : Int) (w : World) (v : Value) (h : TmAt w w.heap.size t v) :
    Calls Try.prog 31 #[v, .int .i64 n] w fun e w' => ∃ u, e = .returned (.tuple #[u, .int .i64 (renameT t n).2]) ∧ TmNew w' w.heap.size (renameT t n).1 u ∧ But Nil w w' := by
  obtain ⟨A, cap, rfl, -⟩ := h.form
  have hk1 : But Nil w (((w.alloc (TB t A cap)).alloc (.cells #[.int .i64 n] 2)).alloc (TB zeroT none 0)) := (((But.refl _ _).alloc _).alloc _).alloc _
  go_enter Try.func31, Try.ntmps31
  go_wp2_with fail
  refine (valid_any t _ _ (h.nil hk1)).mono ?_
  rintro e w1 ⟨rfl, hb1⟩
  have hk2 := hk1.trans_nil hb1
  have ht := hb1.heap id (heap_old (heap_old (heap_new (w := w) (o := TB t A cap) rfl)))
  have hn := hb1.heap id (heap_old (heap_new (w := w.alloc (TB t A cap)) (o := .cells #[.int .i64 n] 2) (k := w.heap.size + 1) (by simp)))
  have hz := hb1.heap id (heap_new (w := (w.alloc (TB t A cap)).alloc (.cells #[.int .i64 n] 2)) (o := TB zeroT none 0) (k := w.heap.size + 1 + 1) (by simp))
  cases hv : validT t
  · have Hv := Lib.hid hv
    obtain ⟨p0, p1, p2, p3⟩ := blk4 hz
    have f0 := frz hz
    have Hset := Lib.hid (set4 (a' := .int .i64 0) (b' := .int .i64 0) (c' := .string ⟨#[]⟩) (d' := .slice none 0 0) hz)
    clear ht hn hz hv
    go_wp2_with fail
    obtain ⟨r0, r1, r2, r3⟩ := blk4 Hset.out
    have hb4 := (But.refl (· = w.heap.size + 1 + 1) w1).set4 (.inl rfl) (.int .i64 0) (.int .i64 0) (.string ⟨#[]⟩) (.slice none 0 0)
    refine bodyPost_ret (v := .tuple #[.agg #[.int .i64 0, .int .i64 0, .string ⟨#[]⟩, .slice none 0 0], .int .i64 1]) (by simp [results, Try.results31, go_sem, r0, r1, r2, r3]) rfl ?_
    have e1 : renameT t n = (zeroT, 1) := by simp [renameT, Hv.out]
    rw [e1]
    exact ⟨_, rfl, zero_new _ _, hk2.trans hb4 fun i hi _ => .inr (by subst hi; omega)⟩
  · have Hv := Lib.hid hv
    have hnc := cell_of_one hn
    have Ht := Lib.hid ht
    have Hn := Lib.hid hn
    have Hz := Lib.hid hz
    clear ht hn hz hv
    go_wp2_with fail
    refine (number_any n _).mono ?_
    rintro e w2 ⟨rfl, hb2⟩
    have hk3 := hk2.trans_nil hb2
    have hz := hb2.heap id Hz.out
    have hn := hb2.heap id Hn.out
    have ht := hb2.heap id Ht.out
    cases hv : numB n
    · have Hv2 := Lib.hid hv
      obtain ⟨p0, p1, p2, p3⟩ := blk4 hz
      have f0 := frz hz
      have Hset := Lib.hid (set4 (a' := .int .i64 0) (b' := .int .i64 0) (c' := .string ⟨#[]⟩) (d' := .slice none 0 0) hz)
      clear ht hn hz hv
      go_wp2_with fail
      obtain ⟨r0, r1, r2, r3⟩ := blk4 Hset.out
      have hb4 := (But.refl (· = w.heap.size + 1 + 1) w2).set4 (.inl rfl) (.int .i64 0) (.int .i64 0) (.string ⟨#[]⟩) (.slice none 0 0)
      refine bodyPost_ret (v := .tuple #[.agg #[.int .i64 0, .int .i64 0, .string ⟨#[]⟩, .slice none 0 0], .int .i64 1]) (by simp [results, Try.results31, go_sem, r0, r1, r2, r3]) rfl ?_
      have e1 : renameT t n = (zeroT, 1) := by simp [renameT, Hv2.out]
      rw [e1]
      exact ⟨_, rfl, zero_new _ _, hk3.trans hb4 fun i hi _ => .inr (by subst hi; omega)⟩
    · have Hv2 := Lib.hid hv
      have hnb : 0 ≤ n ∧ n ≤ 1099511627776 := by simpa [numB] using hv
      obtain ⟨q0, q1, q2, q3⟩ := blk4 ht
      have Hz2 := Lib.hid hz
      have Hn2 := Lib.hid hn
      have Ht2 := Lib.hid ht
      clear ht hn hz hv
      go_wp2_with fail
      refine (vars_any t _ _ (h.nil hk3)).mono ?_
      rintro e w3 ⟨A1, cap1, rfl, hc1, hc2, hints, hvl, hb3⟩
      have hk4 := hk3.trans_nil hb3
      have hn := hb3.heap id Hn2.out
      have hz := hb3.heap id Hz2.out
      have ht := hb3.heap id Ht2.out
      have hnc := cell_of_one hn
      obtain ⟨p0, p1, p2, p3⟩ := blk4 hz
      obtain ⟨s0, s1, s2, s3⟩ := blk4 ht
      have f0 := frz hz
      have Hset := Lib.hid (set4 (a' := .int .i64 0) (b' := .int .i64 0) (c' := .string ⟨#[]⟩) (d' := .slice none 0 0) hz)
      have Hz3 := Lib.hid hz
      have Hn3 := Lib.hid hn
      clear ht hn hz
      go_wp2_with fail
      go_loop [20] (fun i => ∃ j : Nat, j ≤ (varsT t).length ∧ i = .int .i64 j ∧ ((varsT t).drop j).any (fun v => decide (1099511627776 - n < v)) = (varsT t).any (fun v => decide (1099511627776 - n < v))) (fun i => (varsT t).length - (intOf i).toNat)
      case atStart => exact ⟨0, by omega, rfl, rfl⟩
      case round =>
        obtain ⟨j, hj, rfl, hany⟩ := hrel
        have Hany := Lib.hid hany
        clear hany
        by_cases hjl : j < (varsT t).length
        · obtain ⟨b, o, rfl, hbb, hcell⟩ := hints j hjl
          have hd : (varsT t).drop j = (varsT t)[j] :: (varsT t).drop (j + 1) := List.drop_eq_getElem_cons hjl
          have Hd := Lib.hid hd
          clear hd
          by_cases hgt : 1099511627776 - n < (varsT t)[j]
          · go_wp2_with fail
            obtain ⟨r0, r1, r2, r3⟩ := blk4 Hset.out
            have hb4 := (But.refl (· = w.heap.size + 1 + 1) w3).set4 (.inl rfl) (.int .i64 0) (.int .i64 0) (.string ⟨#[]⟩) (.slice none 0 0)
            refine bodyPost_ret (v := .tuple #[.agg #[.int .i64 0, .int .i64 0, .string ⟨#[]⟩, .slice none 0 0], .int .i64 2]) (by simp [results, Try.results31, go_sem, r0, r1, r2, r3]) rfl ?_
            have e1 : renameT t n = (zeroT, 2) := by
              have := Hany.out
              rw [Hd.out, List.any_cons, decide_eq_true (show 1099511627776 - n < (varsT t)[j] by omega), Bool.true_or] at this
              simp only [renameT, Hv.out, Hv2.out, ← this, Bool.and_self, if_true]
            rw [e1]
            exact ⟨_, rfl, zero_new _ _, hk4.trans hb4 fun i hi _ => .inr (by subst hi; omega)⟩
          · go_wp2_with fail
            go_round
            case rel => exact ⟨j + 1, by omega, by go_num, by rw [← Hany.out, Hd.out, List.any_cons, decide_eq_false (show ¬ 1099511627776 - n < (varsT t)[j] by omega), Bool.false_or]⟩
            case measure => simp [intOf]; omega
        · have e1 : renameT t n = ((appT (renG n) () t).2, 0) := by
            have := Hany.out
            rw [List.drop_eq_nil_of_le (by omega)] at this
            simp [renameT, Hv.out, Hv2.out, ← this]
          have He1 := Lib.hid e1
          clear e1
          go_wp2_with fail
          have hI := Hn3.out
          refine (apply_any (rename1_clo w3.heap.size (w.heap.size + 1) n hnb.1 hnb.2) t () _ _ (TmAt.keeps (Nat.le_trans hk4.size (Nat.le_refl _)) hk4.keeps_nil _ h) (valid_fits Hv.out) (Nat.le_refl _) hI).mono ?_
          rintro e w4 ⟨u, rfl, hnew, hI4, hb4⟩
          obtain ⟨A2, cap2, hu, -⟩ := hnew.form
          have hbn : But Nil w w4 := hk4.trans hb4 fun i hi hl => .inr (by have := hi.1; have := hk4.size; omega)
          have hlt := lt_of_heap Hz3.out
          have hz4 := hb4.heap (fun hs => by have := hs.1; omega) Hz3.out
          obtain ⟨p0, p1, p2, p3⟩ := blk4 hz4
          have f0 := frz hz4
          have Hset4 := Lib.hid (set4 (a' := .int .i64 (appT (renG n) () t).2.kind) (b' := .int .i64 (appT (renG n) () t).2.num) (c' := .string (appT (renG n) () t).2.name) (d' := .slice A2 (appT (renG n) () t).2.args.length cap2) hz4)
          have Hu := Lib.hid hu
          rw [hu]
          clear hz4 hu
          go_wp2_with fail
          obtain ⟨r0, r1, r2, r3⟩ := blk4 Hset4.out
          have hb5 := (But.refl (· = w.heap.size + 1 + 1) w4).set4 (.inl rfl) (.int .i64 (appT (renG n) () t).2.kind) (.int .i64 (appT (renG n) () t).2.num) (.string (appT (renG n) () t).2.name) (.slice A2 (appT (renG n) () t).2.args.length cap2)
          refine bodyPost_ret (v := .tuple #[.agg #[.int .i64 (appT (renG n) () t).2.kind, .int .i64 (appT (renG n) () t).2.num, .string (appT (renG n) () t).2.name, .slice A2 (appT (renG n) () t).2.args.length cap2], .int .i64 0])
            (by simp [results, Try.results31, go_sem, r0, r1, r2, r3]) rfl ?_
          rw [← Hu.out, He1.out]
          exact ⟨_, rfl, hnew.far hb5 (fun k hk => .inl (by subst hk; exact hlt)) hk4.size, hbn.trans hb5 fun i hi _ => .inr (by subst hi; omega)⟩

end Go.Proofs.Ytgedgmdbpembiaa
