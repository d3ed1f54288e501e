/-
  The reference's Indicator: the walk. No condition.
-/
import Derived.Test.YtgedgmdbpembiaaMr
namespace Go.Proofs.Ytgedgmdbpembiaa
open Go.RowKit Go.Maps
set_option linter.unusedVariables false

/-- What the reference makes. -/
def rindT (s : ByteArray) (n : Int) : Tm := if 0 ≤ n ∧ n ≤ 8 then cloneT (.mk 3 0 ⟨#[47]⟩ [.mk 2 0 s [], .mk 1 n ⟨#[]⟩ []]) else zeroT

set_option maxHeartbeats 400000 in
theorem mind_any (s : ByteArray) (n : Int) (p : Nat → Option Nat) (w : World) (h : s.size ≤ 140737488351232) (hn : wf64 n) : MakesT 50 #[.string s, .int .i64 n] p w (rindT s n) := by
  unfold MakesT
  by_cases hok : 0 ≤ n ∧ n ≤ 8
  · have d1 : decide (n < 0) = false := by simp; omega
    have d2 : decide (8 < n) = false := by simp; omega
    have e1 : rindT s n = cloneT (.mk 3 0 ⟨#[47]⟩ [.mk 2 0 s [], .mk 1 n ⟨#[]⟩ []]) := by simp [rindT, hok]
    rw [e1]
    clear hok e1
    go_enter Try.func50, Try.ntmps50
    go_wp2_with fail
    have hblk := heap_new (w := w.alloc (TB zeroT none 0)) (o := .cells #[.int .i64 2, .int .i64 0, .string s, .slice none 0 0, .int .i64 1, .int .i64 n, .string ⟨#[]⟩, .slice none 0 0] 24) (k := w.heap.size + 1) (by simp)
    have harg : TmIn ((w.alloc (TB zeroT none 0)).alloc (.cells #[.int .i64 2, .int .i64 0, .string s, .slice none 0 0, .int .i64 1, .int .i64 n, .string ⟨#[]⟩, .slice none 0 0] 24)) (fun b => b = w.heap.size + 1) (.mk 3 0 ⟨#[47]⟩ [.mk 2 0 s [], .mk 1 n ⟨#[]⟩ []]) (.agg #[.int .i64 3, .int .i64 0, .string ⟨#[47]⟩, .slice (some ⟨w.heap.size + 1, 0, none⟩) 2 2]) := by
      unfold TmIn ArgsIn ArgsIn ArgsIn
      exact ⟨_, 2, 2, rfl, by unfold wf64; omega, by unfold wf64; omega, by decide, rfl, by omega, by omega, by unfold maxLen; omega,
        ⟨w.heap.size + 1, 0, _, _, _, _, rfl, rfl, cell_of_row _ _ 0 _ _ _ hblk, cell_of_row _ _ 1 _ _ _ hblk, cell_of_row _ _ 2 _ _ _ hblk, cell_of_row _ _ 3 _ _ _ hblk, flat_in (by unfold wf64; omega) (by unfold wf64; omega) h _ _⟩,
        ⟨w.heap.size + 1, 0, _, _, _, _, rfl, rfl, cell_of_row _ _ 4 _ _ _ hblk, cell_of_row _ _ 5 _ _ _ hblk, cell_of_row _ _ 6 _ _ _ hblk, cell_of_row _ _ 7 _ _ _ hblk, flat_in (by unfold wf64; omega) hn (by decide) _ _⟩, trivial⟩
    refine (made (rvalidc_con _) p (p2 := pin0 p w) (g := w.heap.size) (heap_old (heap_new rfl)) (Ext.plain (((But.refl _ _).alloc _).alloc _)) (Nat.le_refl _) (TmIn.keeps (fun k o hk hd => ⟨hk, by subst hd; exact if_neg (by omega), by subst hd; omega⟩) _ harg)).mono ?_
    rintro e w1 ⟨A1, cap1, rfl, hz, p', hx, ht⟩
    obtain ⟨p0, p1, p2, p3⟩ := blk4 hz
    have f0 := frz hz
    have Hset := Lib.hid (set4 (a' := .int .i64 (cloneT (.mk 3 0 ⟨#[47]⟩ [.mk 2 0 s [], .mk 1 n ⟨#[]⟩ []])).kind) (b' := .int .i64 (cloneT (.mk 3 0 ⟨#[47]⟩ [.mk 2 0 s [], .mk 1 n ⟨#[]⟩ []])).num) (c' := .string (cloneT (.mk 3 0 ⟨#[47]⟩ [.mk 2 0 s [], .mk 1 n ⟨#[]⟩ []])).name) (d' := .slice A1 (cloneT (.mk 3 0 ⟨#[47]⟩ [.mk 2 0 s [], .mk 1 n ⟨#[]⟩ []])).args.length cap1) hz)
    clear hz
    go_wp2_with fail
    obtain ⟨r0, r1, r2, r3⟩ := blk4 Hset.out
    exact bodyPost_ret (v := VT (cloneT (.mk 3 0 ⟨#[47]⟩ [.mk 2 0 s [], .mk 1 n ⟨#[]⟩ []])) A1 cap1) (by simp [results, Try.results50, go_sem, r0, r1, r2, r3]) rfl ⟨_, p', rfl, hx, ht⟩
  · have e1 : rindT s n = zeroT := by simp [rindT, hok]
    rw [e1]
    by_cases hneg : n < 0
    · have d1 : decide (n < 0) = true := by simpa using hneg
      clear hok e1 hneg
      go_enter Try.func50, Try.ntmps50
      go_wp2_with fail
      exact bodyPost_ret (v := VT zeroT none 0) (by simp [results, Try.results50, go_sem, zeroT, Tm.kind, Tm.num, Tm.name, Tm.args]) rfl
        ⟨_, pin0 p w, rfl, Ext.plain ((But.refl _ _).alloc _), flat_in (by unfold wf64; omega) (by unfold wf64; omega) (by decide) _ _⟩
    · have d1 : decide (n < 0) = false := by simpa using hneg
      have d2 : decide (8 < n) = true := by simp; omega
      clear hok e1 hneg
      go_enter Try.func50, Try.ntmps50
      go_wp2_with fail
      exact bodyPost_ret (v := VT zeroT none 0) (by simp [results, Try.results50, go_sem, zeroT, Tm.kind, Tm.num, Tm.name, Tm.args]) rfl
        ⟨_, pin0 p w, rfl, Ext.plain ((But.refl _ _).alloc _), flat_in (by unfold wf64; omega) (by unfold wf64; omega) (by decide) _ _⟩

end Go.Proofs.Ytgedgmdbpembiaa
