/-
  Lemmas of the walk and plain laws, put together. No condition.
-/
import Derived.ChangeArms
import Derived.OpenShut
import Derived.ProofKit
import Derived.SizedLaws
import Derived.Test.YtmebmpgffhajbaaRows
import Derived.Test.YtmebmpgffhajbaaKe
namespace Go.Proofs.Ytmebmpgffhajbaa
open Go.RowKit
set_option linter.unusedVariables false
set_option linter.unusedSimpArgs false

theorem bef_mono (f : Nat → Bool) {a b : Nat} (h : a ≤ b) : bef f a ≤ bef f b := by
  induction h with
  | refl => exact Nat.le_refl _
  | step h ih => exact Nat.le_trans ih (by show bef f _ ≤ bef f _ + _; omega)
theorem bef_one {f : Nat → Bool} {a : Nat} (h : f a = true) : bef f (a + 1) = bef f a + 1 := by
  show bef f a + (if f a then 1 else 0) = _
  rw [h, if_pos rfl]
theorem bef_lt {f : Nat → Bool} {a b : Nat} (h : f a = true) (hab : a < b) : bef f a < bef f b := by
  have := bef_mono f (a := a + 1) (b := b) hab
  rw [bef_one h] at this
  exact this
theorem bef_inj {f : Nat → Bool} {a b : Nat} (ha : f a = true) (hb : f b = true) (h : bef f a = bef f b) : a = b := by
  rcases Nat.lt_trichotomy a b with h1 | h1 | h1
  · have := bef_lt ha h1; omega
  · exact h1
  · have := bef_lt hb h1; omega
theorem bef_run {f : Nat → Bool} {a : Nat} : ∀ {j : Nat}, (∀ i, i < j → f (a + i) = true) → bef f (a + j) = bef f a + j
  | 0, _ => rfl
  | j + 1, h => by
    have := bef_run (j := j) fun i hi => h i (by omega)
    rw [show a + (j + 1) = (a + j) + 1 by omega, bef_one (h j (by omega)), this]
    omega
theorem bef_surj {f : Nat → Bool} : ∀ {n i : Nat}, i < bef f n → ∃ a, a < n ∧ f a = true ∧ bef f a = i
  | 0, i, h => absurd h (Nat.not_lt_zero _)
  | n + 1, i, h => by
    by_cases hi : i < bef f n
    · obtain ⟨a, h1, h2, h3⟩ := bef_surj hi
      exact ⟨a, by omega, h2, h3⟩
    · cases hf : f n with
      | true =>
        rw [bef_one hf] at h
        exact ⟨n, Nat.lt_succ_self n, hf, by omega⟩
      | false =>
        have : bef f (n + 1) = bef f n := by
          show bef f n + (if f n then 1 else 0) = _
          rw [hf, if_neg (by decide)]
          rfl
        omega
theorem heap_at {f : Nat → Bool} {s : So} {a : Nat} (ha : f a = true) : ∀ {n : Nat}, a < n → (heapF f s n).getD (bef f a) default = mvC f (cellAt s (a : Nat))
  | 0, h => absurd h (Nat.not_lt_zero _)
  | n + 1, h => by
    rw [heapF_succ]
    rcases Nat.lt_or_eq_of_le (Nat.le_of_lt_succ h) with h | h
    · have h1 : bef f a < (heapF f s n).length := by rw [heapF_len]; exact bef_lt ha h
      rw [List.getD_eq_getElem?_getD, List.getElem?_append_left h1, ← List.getD_eq_getElem?_getD]
      exact heap_at ha h
    · subst h
      rw [ha, if_pos rfl, List.getD_eq_getElem?_getD, List.getElem?_append_right (by rw [heapF_len]; exact Nat.le_refl _), heapF_len, Nat.sub_self]
      rfl

section
variable {s : So} {r : Ro}

theorem mvC_t (f : Nat → Bool) (c : Ce) : (mvC f c).t = c.t := by
  unfold mvC
  split <;> rfl
theorem mvC_n {f : Nat → Bool} {c : Ce} (h : c.t = 0 ∨ c.t = 3 ∨ c.t = 5) : (mvC f c).n = (bef f c.n.toNat : Nat) := by
  unfold mvC
  rw [if_pos h]
theorem mvC_k {f : Nat → Bool} {c : Ce} (h : ¬ (c.t = 0 ∨ c.t = 3 ∨ c.t = 5)) : mvC f c = c := if_neg h

theorem col_in {f : Nat → Bool} {a : Nat} (hf : f a = true) (ha : a < s.cs.length) : inS (colS f s) (bef f a : Nat) = true := by
  refine inS_iff.2 ⟨by omega, ?_⟩
  show _ < (((heapF f s s.cs.length).length : Nat) : Int)
  rw [heapF_len]
  have := bef_lt hf ha
  omega
theorem col_cell {f : Nat → Bool} {a : Nat} (hf : f a = true) (ha : a < s.cs.length) : cellAt (colS f s) (bef f a : Nat) = mvC f (cellAt s (a : Nat)) := by
  show (heapF f s s.cs.length).getD _ default = _
  rw [Int.toNat_natCast]
  exact heap_at hf ha
theorem col_tag {f : Nat → Bool} {a : Nat} (hf : f a = true) (ha : a < s.cs.length) : tagS (colS f s) (bef f a : Nat) = tagS s (a : Nat) := by
  rw [tagS_in (col_in hf ha), col_cell hf ha, mvC_t, tagS_in (inS_iff.2 ⟨by omega, by omega⟩)]
theorem col_ar (f : Nat → Bool) (n : Int) : arS (colS f s) n = arS s n := rfl

def Clo (s : So) (r : Ro) (c : Ce) : Prop := ∀ x ∈ tgS s c, Mk s r x = true
theorem cl_root {c : Ce} (h : c ∈ rootsC s r) : Clo s r c := fun x hx => Mk_iff.2 (.root h hx)
theorem cl_cell {y : Nat} (h : Mk s r y = true) : Clo s r (cellAt s (y : Nat)) := fun x hx => Mk_iff.2 (.cell (Mk_iff.1 h) hx)
theorem cl_old {u : Un} (hu : u ∈ s.tr) (h0 : 0 ≤ u.at') (h : Mk s r u.at'.toNat = true) : Clo s r u.old := fun x hx => Mk_iff.2 (.old (Mk_iff.1 h) (List.mem_map.2 ⟨u, List.mem_filter.2 ⟨hu, by simp; omega⟩, rfl⟩) hx)
theorem Clo.at {c : Ce} (h : Clo s r c) {j : Nat} (hj : j < cntS s c) : Mk s r (c.n.toNat + j) = true := h _ (tg_mem.2 ⟨j, hj, rfl⟩)
theorem cnt_pos {c : Ce} (h : c.t = 0 ∨ c.t = 3 ∨ c.t = 5) : 0 < cntS s c := by
  unfold cntS
  rcases h with h | h | h
  · rw [if_pos h]; omega
  · rw [if_neg (by omega), if_pos h]; omega
  · rw [if_neg (by omega), if_neg (by omega), if_pos h]; omega

theorem vc_col (hv : VG s r) {c : Ce} (hg : Gce s c) (hc : Clo s r c) (h : vcR s c = true) : vcR (colS (Mk s r) s) (mvC (Mk s r) c) = true := by
  by_cases ht : c.t = 0 ∨ c.t = 3 ∨ c.t = 5
  · obtain ⟨h1, h2⟩ := hg.b ht
    have hp := cnt_pos (s := s) ht
    have hm := hc.at hp
    rw [Nat.add_zero] at hm
    have hlt : c.n.toNat < s.cs.length := by omega
    have hcn : ((c.n.toNat : Nat) : Int) = c.n := by omega
    have hin := col_in hm hlt
    have htg := col_tag hm hlt
    rw [hcn] at htg
    unfold vcR at h ⊢
    rw [mvC_t, mvC_n ht, hin, htg]
    rcases ht with ht | ht | ht
    · rw [if_pos ht] at h ⊢
      simp only [Bool.and_eq_true] at h
      rw [h.2]
      rfl
    · rw [if_neg (by omega), if_neg (by omega), if_neg (by omega), if_pos ht] at h ⊢
      exact h
    · rw [if_neg (by omega), if_neg (by omega), if_neg (by omega), if_neg (by omega), if_pos ht] at h ⊢
      exact h
  · rw [mvC_k ht]
    unfold vcR at h ⊢
    rw [if_neg (by omega)] at h ⊢
    by_cases h1 : c.t = 1
    · rw [if_pos h1]
    · rw [if_neg h1] at h ⊢
      by_cases h2 : c.t = 2
      · rw [if_pos h2] at h ⊢
        exact h
      · rw [if_neg h2, if_neg (by omega), if_neg (by omega)] at h
        cases h
theorem vc_str {c : Ce} (h : vcR s c = true) (ht : c.t = 3) : tagS s c.n = 4 := by
  unfold vcR at h
  rw [if_neg (by omega), if_neg (by omega), if_neg (by omega), if_pos ht, decide_eq_true_eq] at h
  exact h
theorem vc_att {c : Ce} (h : vcR s c = true) (ht : c.t = 5) : tagS s c.n = 5 := by
  unfold vcR at h
  rw [if_neg (by omega), if_neg (by omega), if_neg (by omega), if_neg (by omega), if_pos ht, decide_eq_true_eq] at h
  exact h
theorem old_vc {u : Un} (h : oldR s u = true) (ht : u.old.t = 1 ∨ u.old.t = 2 ∨ u.old.t = 3) : vcR s u.old = true := by
  unfold oldR oldB at h
  rw [Bool.and_eq_true, if_neg (by omega), if_neg (by omega), if_pos ht] at h
  exact h.2
theorem old_0 {u : Un} (h : oldR s u = true) (ht : u.old.t = 0) : u.old.n = u.at' := by
  unfold oldR oldB at h
  rw [Bool.and_eq_true, if_pos ht, decide_eq_true_eq] at h
  exact h.2
theorem old_5 {u : Un} (h : oldR s u = true) (ht : u.old.t = 5) : u.old.n = u.at' ∧ groupS s u.at' = true ∧ tagS s (u.at' - 1) ≠ 5 := by
  unfold oldR oldB at h
  rw [Bool.and_eq_true, if_neg (by omega), if_pos ht] at h
  simpa only [Bool.and_eq_true, decide_eq_true_eq, Bool.not_eq_true', decide_eq_false_iff_not] using h.2
theorem grp {i : Int} (h : groupS s i = true) : tagS s (i + 1) = 1 ∧ 1 ≤ (cellAt s (i + 1)).n ∧ (cellAt s (i + 1)).n ≤ s.ser ∧ 0 ≤ tagS s (i + 2) ∧ tagS s (i + 2) ≠ 4 ∧ tagS s (i + 2) ≠ 5 := by
  simpa only [groupS, Bool.and_eq_true, decide_eq_true_eq, Bool.not_eq_true', decide_eq_false_iff_not] using h

theorem fun_all (h : okR validR vcR s r = true) {x : Nat} (hx : Rch s r x) : tagS s (x : Nat) = 4 → ∀ j : Nat, (j : Int) ≤ arS s (cellAt s (x : Nat)).n → Mk s r (x + j) = true := by
  have hv := vg_of h
  obtain ⟨hval, -, -, -⟩ := okR_parts h
  -- a cell that is valid, whose reach is marked
  have key : ∀ (c : Ce) (x : Nat), Gce s c → Clo s r c → vcR s c = true → x ∈ tgS s c → tagS s (x : Nat) = 4 → ∀ j : Nat, (j : Int) ≤ arS s (cellAt s (x : Nat)).n → Mk s r (x + j) = true := fun c x hg hcl hvc hx ht j hj => by
    obtain ⟨k, hk, rfl⟩ := tg_mem.1 hx
    have htt : c.t = 0 ∨ c.t = 3 ∨ c.t = 5 := by
      unfold cntS at hk
      split at hk
      · exact .inl ‹_›
      · split at hk
        · exact .inr (.inl ‹_›)
        · split at hk
          · exact .inr (.inr ‹_›)
          · omega
    obtain ⟨h1, h2⟩ := hg.b htt
    have hcn : ((c.n.toNat : Nat) : Int) = c.n := by omega
    rcases htt with h0 | h3 | h5
    · have hk0 : k = 0 := by
        unfold cntS at hk
        rw [if_pos h0] at hk
        omega
      subst hk0
      rw [Nat.add_zero, hcn] at ht
      have := vc_ref hvc h0
      rw [tagS_in this.1] at ht
      exact absurd ht this.2
    · have h4 := vc_str hvc h3
      have hin : inS s c.n = true := inS_iff.2 ⟨h1, by omega⟩
      have hcnt : cntS s c = (s.ys.getD (cellAt s c.n).n.toNat default).ar.toNat + 1 := by
        unfold cntS
        rw [if_neg (by omega), if_pos h3]
      obtain ⟨a1, a2, a3⟩ := vr_fun hval hin (by rw [← tagS_in hin]; exact h4)
      have har := (ar_rng (s := s) (n := (cellAt s c.n).n) (by omega)).2.2
      rcases Nat.eq_zero_or_pos k with rfl | hk1
      · rw [Nat.add_zero, hcn] at hj
        rw [Nat.add_zero]
        exact hcl.at (by omega)
      · obtain ⟨b1, b2⟩ := a3 (k - 1) (by omega)
        rw [show c.n + 1 + ((k - 1 : Nat) : Int) = ((c.n.toNat + k : Nat) : Int) by omega] at b1 b2
        exfalso
        rw [tagS_in b1] at ht
        unfold vcR at b2
        rw [if_neg (by omega), if_neg (by omega), if_neg (by omega), if_neg (by omega), if_neg (by omega)] at b2
        cases b2
    · have h6 := vc_att hvc h5
      have hin : inS s c.n = true := inS_iff.2 ⟨h1, by omega⟩
      have hcell := vr_cell hval hin
      rw [tagS_in hin] at h6
      unfold cellR at hcell
      rw [if_neg (by omega)] at hcell
      simp only [Bool.and_eq_true, h6, decide_true, Bool.not_true, Bool.false_or, decide_eq_true_eq] at hcell
      have hg := grp hcell.2.2.2
      have hk3 : k < 3 := by
        unfold cntS at hk
        rw [if_neg (by omega), if_neg (by omega), if_pos h5] at hk
        exact hk
      exfalso
      have : k = 0 ∨ k = 1 ∨ k = 2 := by omega
      rcases this with rfl | rfl | rfl
      · rw [Nat.add_zero, hcn, tagS_in hin] at ht
        omega
      · rw [show ((c.n.toNat + 1 : Nat) : Int) = c.n + 1 by omega] at ht
        omega
      · rw [show ((c.n.toNat + 2 : Nat) : Int) = c.n + 2 by omega] at ht
        omega
  induction hx with
  | @root c x hc hx => exact key c x (hv.root _ hc) (cl_root hc) (vc_root h hc) hx
  | @cell y x hy hx ih =>
    have hl := hy.lt hv
    by_cases h4 : (cellAt s (y : Nat)).t = 4
    · obtain ⟨k, hk, -⟩ := tg_mem.1 hx
      exfalso
      unfold cntS at hk
      rw [if_neg (by omega), if_neg (by omega), if_neg (by omega)] at hk
      omega
    · exact key _ x (hv.cell y hl) (cl_cell (Mk_iff.2 hy)) (vr_vc hval (inS_iff.2 ⟨by omega, by omega⟩) h4) hx
  | @old y x c hy hc hx ih =>
    have hgc := olds_good hv hc
    obtain ⟨u, hu, rfl⟩ := List.mem_map.1 hc
    obtain ⟨hu, hat⟩ := List.mem_filter.1 hu
    have hat : u.at' = (y : Int) := of_decide_eq_true hat
    have hold := vr_old hval hu
    have hcl : Clo s r u.old := cl_old hu (by omega) (by rw [hat, Int.toNat_natCast]; exact Mk_iff.2 hy)
    obtain ⟨k, hk, hxe⟩ := tg_mem.1 hx
    by_cases h0 : u.old.t = 0
    · have hn := old_0 hold h0
      have : k = 0 := by
        unfold cntS at hk
        rw [if_pos h0] at hk
        omega
      have : x = y := by omega
      subst this
      exact ih
    · by_cases h5 : u.old.t = 5
      · obtain ⟨hn, hgr, -⟩ := old_5 hold h5
        have hg := grp hgr
        have hk3 : k < 3 := by
          unfold cntS at hk
          rw [if_neg (by omega), if_neg (by omega), if_pos h5] at hk
          exact hk
        have : k = 0 ∨ k = 1 ∨ k = 2 := by omega
        rcases this with rfl | rfl | rfl
        · have : x = y := by omega
          subst this
          exact ih
        · intro ht
          rw [show (x : Int) = u.at' + 1 by omega] at ht
          omega
        · intro ht
          rw [show (x : Int) = u.at' + 2 by omega] at ht
          omega
      · have ht : u.old.t = 1 ∨ u.old.t = 2 ∨ u.old.t = 3 := by
          by_cases h3 : u.old.t = 3
          · exact .inr (.inr h3)
          · unfold cntS at hk
            rw [if_neg h0, if_neg h3, if_neg h5] at hk
            omega
        exact key _ x hgc hcl (old_vc hold ht) hx
end
end Go.Proofs.Ytmebmpgffhajbaa


namespace Go.Proofs.Ytmebmpgffhajbaa
open Go.RowKit
set_option linter.unusedVariables false
set_option linter.unusedSimpArgs false

section
variable {s : So} {r : Ro}
theorem grp_col {f : Nat → Bool} {a : Nat} (hg : groupS s (a : Nat) = true) (h0 : f a = true) (h1 : f (a + 1) = true) (h2 : f (a + 2) = true) : groupS (colS f s) (bef f a : Nat) = true := by
  obtain ⟨g1, g2, g3, g4, g5, g6⟩ := grp hg
  have e1 : ((bef f a : Nat) : Int) + 1 = (bef f (a + 1) : Nat) := by rw [bef_one h0]; omega
  have e2 : ((bef f a : Nat) : Int) + 2 = (bef f (a + 2) : Nat) := by rw [show a + 2 = (a + 1) + 1 from rfl, bef_one h1, bef_one h0]; omega
  have c1 : ((a : Nat) : Int) + 1 = ((a + 1 : Nat) : Int) := by omega
  have c2 : ((a : Nat) : Int) + 2 = ((a + 2 : Nat) : Int) := by omega
  rw [c1] at g1 g2 g3
  rw [c2] at g4 g5 g6
  have i1 := inS_iff.1 (tag_in g1)
  have i2 := inS_iff.1 (tag_nn g4)
  have t1 := col_tag (s := s) h1 (by omega)
  have t2 := col_tag (s := s) h2 (by omega)
  have k1 := col_cell (s := s) h1 (by omega)
  have hk : (cellAt s ((a + 1 : Nat) : Int)).t = 1 := by rw [← tagS_in (tag_in g1)]; exact g1
  rw [mvC_k (by omega)] at k1
  unfold groupS
  rw [e1, e2, t1, t2, k1, g1]
  simp only [decide_true, Bool.true_and, Bool.and_eq_true, decide_eq_true_eq, Bool.not_eq_true', decide_eq_false_iff_not]
  exact ⟨g2, g3, g4, g5, g6⟩
theorem en_col (h : okR validR vcR s r = true) : ∀ {k a : Nat}, Mk s r a = true → endsN s k (a : Nat) = true → En (colS (Mk s r) s) (bef (Mk s r) a : Nat)
  | 0, a, _, he => by cases he
  | k + 1, a, hm, he => by
    have hv := vg_of h
    by_cases hn : Ns (colS (Mk s r) s) (bef (Mk s r) a : Nat)
    · have hl := (Mk_iff.1 hm).lt hv
      have ht := hn.1
      rw [col_tag hm hl] at ht
      have ht0 : (cellAt s (a : Nat)).t = 0 := by rw [← tagS_in (inS_iff.2 ⟨by omega, by omega⟩)]; exact ht
      have hm2 := (cl_cell hm).at (cnt_pos (.inl ht0))
      rw [Nat.add_zero] at hm2
      have hb := (hv.cell a hl).b (.inl ht0)
      have hnx : nx (colS (Mk s r) s) (bef (Mk s r) a : Nat) = (bef (Mk s r) (nx s (a : Nat)).toNat : Nat) := by
        show (cellAt _ _).n = _
        rw [col_cell hm hl, mvC_n (.inl ht0)]
      have hns : Ns s (a : Nat) := ⟨ht, fun e => hn.2 (by
        show nx _ _ = _
        rw [hnx]
        show ((bef (Mk s r) (cellAt s (a : Nat)).n.toNat : Nat) : Int) = _
        rw [e, Int.toNat_natCast])⟩
      rw [endsN_ns hns] at he
      refine En.ns hn ?_
      rw [hnx]
      refine en_col h (k := k) hm2 ?_
      rw [show (((cellAt s (a : Nat)).n.toNat : Nat) : Int) = nx s (a : Nat) by show _ = (cellAt s (a : Nat)).n; omega]
      exact he
    · exact En.st hn
theorem cell_col (h : okR validR vcR s r = true) {a : Nat} (ha : a < s.cs.length) (hm : Mk s r a = true) : cellR (colS (Mk s r) s) (bef (Mk s r) a : Nat) = true := by
  have hv := vg_of h
  obtain ⟨hval, -, -, -⟩ := okR_parts h
  have hin : inS s (a : Nat) = true := inS_iff.2 ⟨by omega, by omega⟩
  have hcell := col_cell (s := s) hm ha
  have hr := vr_cell hval hin
  unfold cellR at hr ⊢
  rw [hcell, mvC_t]
  by_cases h4 : (cellAt s (a : Nat)).t = 4
  · rw [if_pos h4] at hr ⊢
    rw [mvC_k (by omega), col_ar]
    simp only [Bool.and_eq_true, decide_eq_true_eq, List.all_eq_true, List.mem_range, Bool.not_eq_true', decide_eq_false_iff_not] at hr ⊢
    obtain ⟨r1, r2, r3⟩ := hr
    have hall := fun_all h (Mk_iff.1 hm) (by rw [tagS_in hin]; exact h4)
    generalize arS s (cellAt s (a : Nat)).n = K at *
    have hrun : ∀ j : Nat, (j : Int) ≤ K → bef (Mk s r) (a + j) = bef (Mk s r) a + j := fun j hj => bef_run fun i hi => hall i (by omega)
    have r2' := inS_iff.1 r2
    refine ⟨r1, ?_, fun j hj => ?_⟩
    · have := col_in (s := s) (hall K.toNat (by omega)) (by omega)
      rw [hrun _ (by omega)] at this
      rwa [show ((bef (Mk s r) a + K.toNat : Nat) : Int) = (bef (Mk s r) a : Nat) + K by omega] at this
    · have ht := r3 j hj
      have := col_tag (s := s) (hall (j + 1) (by omega)) (by omega)
      rw [hrun (j + 1) (by omega)] at this
      rw [show ((bef (Mk s r) a : Nat) : Int) + ((j : Int) + 1) = ((bef (Mk s r) a + (j + 1) : Nat) : Int) by omega, this, show ((a + (j + 1) : Nat) : Int) = (a : Int) + ((j : Int) + 1) by omega]
      exact ht
  · rw [if_neg h4] at hr ⊢
    simp only [Bool.and_eq_true] at hr ⊢
    obtain ⟨r1, r2, r3⟩ := hr
    refine ⟨vc_col hv (hv.cell a ha) (cl_cell hm) r1, (en_col h hm r2).ends, ?_⟩
    by_cases h5 : (cellAt s (a : Nat)).t = 5
    · simp only [h5, decide_true, Bool.not_true, Bool.false_or, Bool.and_eq_true, decide_eq_true_eq] at r3 ⊢
      obtain ⟨e1, e2⟩ := r3
      have hc := cl_cell hm
      have hcnt : cntS s (cellAt s (a : Nat)) = 3 := by
        unfold cntS
        rw [if_neg (by omega), if_neg (by omega), if_pos h5]
      have m1 := hc.at (j := 1) (by omega)
      have m2 := hc.at (j := 2) (by omega)
      rw [e1, Int.toNat_natCast] at m1 m2
      refine ⟨?_, grp_col e2 hm m1 m2⟩
      rw [mvC_n (.inr (.inr h5)), e1, Int.toNat_natCast]
    · simp [h5]
theorem old_col (h : okR validR vcR s r = true) {u : Un} (hu : u ∈ s.tr) (hon : onTr (Mk s r) u = true) : oldR (colS (Mk s r) s) (mvU (Mk s r) u) = true := by
  have hv := vg_of h
  obtain ⟨hval, -, -, -⟩ := okR_parts h
  have hold := vr_old hval hu
  obtain ⟨g1, g2, g3⟩ := hv.old u hu
  have hon : Mk s r u.at'.toNat = true := hon
  have hcl := cl_old hu g1 hon
  have hat : ((u.at'.toNat : Nat) : Int) = u.at' := by omega
  have hin := col_in (s := s) hon (by omega)
  unfold oldR oldB
  simp only [mvU, mvC_t, hin, Bool.true_and]
  by_cases h0 : u.old.t = 0
  · rw [if_pos h0]
    refine decide_eq_true ?_
    rw [mvC_n (.inl h0), old_0 hold h0]
  rw [if_neg h0]
  by_cases h5 : u.old.t = 5
  · obtain ⟨e1, e2, e3⟩ := old_5 hold h5
    have hcnt : cntS s u.old = 3 := by
      unfold cntS
      rw [if_neg (by omega), if_neg (by omega), if_pos h5]
    have m1 := hcl.at (j := 1) (by omega)
    have m2 := hcl.at (j := 2) (by omega)
    rw [e1] at m1 m2
    rw [if_pos h5]
    refine Bool.and_eq_true_iff.2 ⟨decide_eq_true (by rw [mvC_n (.inr (.inr h5)), e1]), Bool.and_eq_true_iff.2 ⟨grp_col (by rw [hat]; exact e2) hon m1 m2, ?_⟩⟩
    rw [Bool.not_eq_true']
    refine decide_eq_false fun ht => ?_
    have hi := inS_iff.1 (tag_in' (by decide) ht)
    have hi2 := hi.2
    have : ((((colS (Mk s r) s).cs.length : Nat)) : Int) = (bef (Mk s r) s.cs.length : Nat) := by
      show (((heapF _ s s.cs.length).length : Nat) : Int) = _
      rw [heapF_len]
    rw [this] at hi2
    obtain ⟨b, hb, hbm, hbe⟩ := bef_surj (f := Mk s r) (n := s.cs.length) (i := bef (Mk s r) u.at'.toNat - 1) (by omega)
    rw [show ((bef (Mk s r) u.at'.toNat : Nat) : Int) - 1 = (bef (Mk s r) b : Nat) by omega, col_tag hbm hb] at ht
    have hbin : inS s (b : Nat) = true := inS_iff.2 ⟨by omega, by omega⟩
    have hb5 : (cellAt s (b : Nat)).t = 5 := by rw [← tagS_in hbin]; exact ht
    have hlt : b < u.at'.toNat := by
      rcases Nat.lt_or_ge b u.at'.toNat with h | h
      · exact h
      · have := bef_mono (Mk s r) h
        omega
    have hr := vr_cell hval hbin
    unfold cellR at hr
    rw [if_neg (by omega)] at hr
    simp only [hb5, decide_true, Bool.not_true, Bool.false_or, Bool.and_eq_true, decide_eq_true_eq] at hr
    have hbc := (cl_cell hbm).at (j := 1) (by
      unfold cntS
      rw [if_neg (by omega), if_neg (by omega), if_pos hb5]
      omega)
    rw [hr.2.2.1, Int.toNat_natCast] at hbc
    have hb1 := bef_one hbm
    have : b + 1 = u.at'.toNat := by
      rcases Nat.lt_or_eq_of_le (show b + 1 ≤ u.at'.toNat by omega) with h | h
      · have := bef_lt hbc h
        omega
      · exact h
    exact e3 (by rw [show u.at' - 1 = (b : Int) by omega]; exact ht)
  rw [if_neg h5]
  have ht : u.old.t = 1 ∨ u.old.t = 2 ∨ u.old.t = 3 := by
    unfold oldR oldB at hold
    rw [Bool.and_eq_true, if_neg h0, if_neg h5] at hold
    have := hold.2
    split at this
    · assumption
    · cases this
  rw [if_pos ht]
  exact vc_col hv g3 hcl (old_vc hold ht)
theorem vr_col (h : okR validR vcR s r = true) : validR (colS (Mk s r) s) = true := by
  have hv := vg_of h
  obtain ⟨hval, hvr, htp, hms⟩ := okR_parts h
  have hh := vr_head hval
  unfold validR
  rw [Bool.and_eq_true, Bool.and_eq_true, Bool.and_eq_true]
  refine ⟨?_, ?_, ?_, ?_⟩
  · simp only [headB, Bool.and_eq_true, decide_eq_true_eq] at hh ⊢
    refine ⟨hh.1, hh.2.1, ?_, hh.2.2.2.1, hh.2.2.2.2⟩
    show (((heapF _ s s.cs.length).length : Nat) : Int) ≤ s.mx
    rw [heapF_len]
    have := bef_le (Mk s r) s.cs.length
    omega
  · rw [List.all_eq_true]
    intro i hi
    have hi : i < (heapF (Mk s r) s s.cs.length).length := List.mem_range.1 hi
    rw [heapF_len] at hi
    obtain ⟨a, ha, hm, rfl⟩ := bef_surj hi
    exact cell_col h ha hm
  · rw [List.all_eq_true]
    intro i hi
    have hmem : (colS (Mk s r) s).tr.getD i default ∈ (colS (Mk s r) s).tr := getD_mem (List.mem_range.1 hi)
    obtain ⟨u, hu, e⟩ := List.mem_map.1 hmem
    rw [← e]
    obtain ⟨hu, hon⟩ := List.mem_filter.1 hu
    rw [List.take_length] at hu
    exact old_col h hu hon
  · rw [List.all_eq_true]
    intro i hi
    have hmem : (colS (Mk s r) s).wk.getD i default ∈ (colS (Mk s r) s).wk := getD_mem (List.mem_range.1 hi)
    obtain ⟨w, hw, e⟩ := List.mem_map.1 hmem
    rw [← e]
    have hwk := vr_wk hval hw
    have m1 : w.att ∈ rootsC s r := List.mem_append_right _ (List.mem_flatMap.2 ⟨w, hw, by simp⟩)
    have m2 : w.val ∈ rootsC s r := List.mem_append_right _ (List.mem_flatMap.2 ⟨w, hw, by simp⟩)
    simp only [wkB, Bool.and_eq_true, decide_eq_true_eq] at hwk ⊢
    exact ⟨hwk.1, hwk.2.1, vc_col hv (hv.root _ m1) (cl_root m1) hwk.2.2.1, vc_col hv (hv.root _ m2) (cl_root m2) hwk.2.2.2⟩
end

end Go.Proofs.Ytmebmpgffhajbaa


namespace Go.Proofs.Ytmebmpgffhajbaa
open Go.RowKit
set_option linter.unusedVariables false
set_option linter.unusedSimpArgs false

def encL : Nat → List Int → List D
  | _, [] => []
  | i, v :: l => .a [.i v, .i (i : Nat)] :: encL (i + 1) l
def encM (vs : List Int) : D := .mp (encL 0 vs)
def decM (d : D) : List Int := d.ms.map fun p => (p.fld 0).int
theorem decL : ∀ (i : Nat) (l : List Int), (encL i l).map (fun p => (p.fld 0).int) = l
  | _, [] => rfl
  | i, v :: l => by rw [encL, List.map_cons, decL (i + 1) l]; rfl
theorem decM_encM (vs : List Int) : decM (encM vs) = vs := decL 0 vs
theorem encL_len : ∀ (i : Nat) (l : List Int), (encL i l).length = l.length
  | _, [] => rfl
  | i, v :: l => by rw [encL, List.length_cons, encL_len (i + 1) l]; rfl
theorem mfind_enc : ∀ (i : Nat) (l : List Int) (x : Int), mfind (.i x) (encL i l) = if x ∈ l then some (.i (i + posL l x)) else none
  | _, [], x => by simp [encL, mfind]
  | i, v :: l, x => by
    rw [encL, mfind]
    have e : (D.a [.i v, .i (i : Nat)]).fld 0 = .i v := rfl
    have e1 : (D.a [.i v, .i (i : Nat)]).fld 1 = .i (i : Nat) := rfl
    rw [e, e1]
    by_cases h : v = x
    · subst h
      rw [if_pos rfl, if_pos List.mem_cons_self]
      unfold posL
      rw [if_pos rfl, Int.add_zero]
    · rw [if_neg (by simpa using h), mfind_enc (i + 1) l x]
      by_cases hx : x ∈ l
      · have := (posL_mem hx).1
        rw [if_pos hx, if_pos (List.mem_cons_of_mem _ hx)]
        have e2 : posL (v :: l) x = posL l x + 1 := by
          conv => lhs; unfold posL
          rw [if_neg h, if_neg (by omega)]
        rw [e2]
        congr 2
        push_cast
        omega
      · rw [if_neg hx, if_neg fun q => by
          rcases List.mem_cons.1 q with q | q
          · exact h q.symm
          · exact hx q]
theorem mset_enc : ∀ (i : Nat) (l : List Int) (x : Int), x ∉ l → mset (.i x) (.i ((i + l.length : Nat) : Int)) (encL i l) = encL i (l ++ [x])
  | i, [], x, _ => rfl
  | i, v :: l, x, h => by
    rw [encL, mset]
    have e : (D.a [.i v, .i (i : Nat)]).fld 0 = .i v := rfl
    have hv : v ≠ x := fun e => h (by rw [e]; exact List.mem_cons_self)
    rw [e, if_neg (by simpa using hv), List.cons_append, encL, List.length_cons, show i + (l.length + 1) = (i + 1) + l.length by omega, mset_enc (i + 1) l x fun q => h (List.mem_cons_of_mem _ q)]
theorem mhas_enc (vs : List Int) (x : Int) : fnD 1 [encM vs, .i x] = .b (decide (x ∈ vs)) := by
  show D.b (mfind (.i x) (encL 0 vs)).isSome = _
  rw [mfind_enc]
  by_cases h : x ∈ vs <;> simp [h]
theorem mget_enc {vs : List Int} {x : Int} (h : x ∈ vs) : fnD 0 [encM vs, .i x, .i 0] = .i (posL vs x) := by
  show (mfind (.i x) (encL 0 vs)).getD (.i 0) = _
  rw [mfind_enc, if_pos h]
  simp
theorem mput_enc {vs : List Int} {x : Int} (h : x ∉ vs) : fnD 2 [encM vs, .i x, .i (vs.length : Nat)] = encM (vs ++ [x]) := by
  show D.mp (mset (.i x) (.i (vs.length : Nat)) (encL 0 vs)) = _
  have := mset_enc 0 vs x h
  rw [Nat.zero_add] at this
  rw [this]
  rfl
theorem mlen_enc (vs : List Int) : fnD 3 [encM vs] = .i (vs.length : Nat) := by
  show D.i ((encL 0 vs).length : Nat) = _
  rw [encL_len]
def okM (m : D) (n : Nat) : Bool := decide (m = encM (decM m)) && decide ((decM m).length + n ≤ 1000000)
theorem numT_pre {vs W : List Int} {t : Te} {m : List Int} (h : W = varsT vs t ++ m) : numT (varsT vs t) t = numT W t :=
  mapV_congr (V := varsT vs t) (fun x hx => by rw [h, posL_app hx]) t (varsT_in t vs)

def gCa1 : List D → Option (List D)
  | [t, m] => if okM m 1 then some (if (dT t).n ∈ decM m then [eT (.mk 0 (posL (decM m) (dT t).n) ⟨#[]⟩ []), m] else [eT (.mk 0 ((decM m).length : Nat) ⟨#[]⟩ []), encM (decM m ++ [(dT t).n])]) else none
  | _ => none
theorem ok_term_Canon_1 : FOk q0t gCa1 := fok_term_Canon_1 fun ds outs hw hg => by
  obtain ⟨d, r, rfl, hd, e, r', rfl, he, rfl⟩ := hw
  obtain ⟨t, rfl, ht⟩ := wfT hd
  simp only [gCa1, dT_eT, Option.ite_none_right_eq_some, Option.some.injEq, okM, Bool.and_eq_true, decide_eq_true_eq] at hg
  obtain ⟨⟨hm, hlen⟩, rfl⟩ := hg
  generalize decM e = vs at *
  subst hm
  rw [q2k, go_br]
  refine ⟨fun hh => ?_, fun hh => ?_⟩
  · simp only [q00, go_br, q01, q02, allSay, X.says, X.ev, X.evs, evl, tblS, List.getD_cons_zero, List.getD_cons_succ, List.getElem?_cons_zero, List.getElem?_cons_succ, tt_b, int_i, str_s, rs_r, Option.isSome_some, Option.getD_some, decide_eq_true_eq, decide_eq_false_iff_not, dS_eS, dC_eC, dU_eU, dW_eW, dY_eY, eC_0, eC_1, eU_0, eU_1, eW_0, eW_1, eW_2, eY_0, eY_1, eS_0, eS_1, eS_2, eS_3, eS_4, eS_5, List.length_map, i_inj, b_inj, s_inj, eC_eq, eU_eq, eW_eq, eY_eq, eS_eq, rng64, List.take_succ_cons, List.take_zero, List.nil_append, List.cons_append, decide_true, decide_false, Bool.or_true, true_and, and_true, dT_eT, eT_0, eT_1, eT_2, eT_3, eT_eq, eT_z, mhas_enc, decide_eq_true_eq, Bool.not_eq_true', decide_eq_false_iff_not] at hh
    rw [q00]
    refine ⟨by simp only [q00, go_br, q01, q02, allSay, X.says, X.ev, X.evs, evl, tblS, List.getD_cons_zero, List.getD_cons_succ, List.getElem?_cons_zero, List.getElem?_cons_succ, tt_b, int_i, str_s, rs_r, Option.isSome_some, Option.getD_some, decide_eq_true_eq, decide_eq_false_iff_not, dS_eS, dC_eC, dU_eU, dW_eW, dY_eY, eC_0, eC_1, eU_0, eU_1, eW_0, eW_1, eW_2, eY_0, eY_1, eS_0, eS_1, eS_2, eS_3, eS_4, eS_5, List.length_map, i_inj, b_inj, s_inj, eC_eq, eU_eq, eW_eq, eY_eq, eS_eq, rng64, List.take_succ_cons, List.take_zero, List.nil_append, List.cons_append, decide_true, decide_false, Bool.or_true, true_and, and_true, dT_eT, eT_0, eT_1, eT_2, eT_3, eT_eq, eT_z, mlen_enc]; omega, ?_⟩
    rw [if_neg hh]
    simp only [q00, go_br, q01, q02, allSay, X.says, X.ev, X.evs, evl, tblS, List.getD_cons_zero, List.getD_cons_succ, List.getElem?_cons_zero, List.getElem?_cons_succ, tt_b, int_i, str_s, rs_r, Option.isSome_some, Option.getD_some, decide_eq_true_eq, decide_eq_false_iff_not, dS_eS, dC_eC, dU_eU, dW_eW, dY_eY, eC_0, eC_1, eU_0, eU_1, eW_0, eW_1, eW_2, eY_0, eY_1, eS_0, eS_1, eS_2, eS_3, eS_4, eS_5, List.length_map, i_inj, b_inj, s_inj, eC_eq, eU_eq, eW_eq, eY_eq, eS_eq, rng64, List.take_succ_cons, List.take_zero, List.nil_append, List.cons_append, decide_true, decide_false, Bool.or_true, true_and, and_true, dT_eT, eT_0, eT_1, eT_2, eT_3, eT_eq, eT_z, mlen_enc, mput_enc hh, eT_mk]
    rfl
  · simp only [q00, go_br, q01, q02, allSay, X.says, X.ev, X.evs, evl, tblS, List.getD_cons_zero, List.getD_cons_succ, List.getElem?_cons_zero, List.getElem?_cons_succ, tt_b, int_i, str_s, rs_r, Option.isSome_some, Option.getD_some, decide_eq_true_eq, decide_eq_false_iff_not, dS_eS, dC_eC, dU_eU, dW_eW, dY_eY, eC_0, eC_1, eU_0, eU_1, eW_0, eW_1, eW_2, eY_0, eY_1, eS_0, eS_1, eS_2, eS_3, eS_4, eS_5, List.length_map, i_inj, b_inj, s_inj, eC_eq, eU_eq, eW_eq, eY_eq, eS_eq, rng64, List.take_succ_cons, List.take_zero, List.nil_append, List.cons_append, decide_true, decide_false, Bool.or_true, true_and, and_true, dT_eT, eT_0, eT_1, eT_2, eT_3, eT_eq, eT_z, mhas_enc, decide_eq_true_eq, Bool.not_eq_false'] at hh
    rw [if_pos hh]
    simp only [q00, go_br, q01, q02, allSay, X.says, X.ev, X.evs, evl, tblS, List.getD_cons_zero, List.getD_cons_succ, List.getElem?_cons_zero, List.getElem?_cons_succ, tt_b, int_i, str_s, rs_r, Option.isSome_some, Option.getD_some, decide_eq_true_eq, decide_eq_false_iff_not, dS_eS, dC_eC, dU_eU, dW_eW, dY_eY, eC_0, eC_1, eU_0, eU_1, eW_0, eW_1, eW_2, eY_0, eY_1, eS_0, eS_1, eS_2, eS_3, eS_4, eS_5, List.length_map, i_inj, b_inj, s_inj, eC_eq, eU_eq, eW_eq, eY_eq, eS_eq, rng64, List.take_succ_cons, List.take_zero, List.nil_append, List.cons_append, decide_true, decide_false, Bool.or_true, true_and, and_true, dT_eT, eT_0, eT_1, eT_2, eT_3, eT_eq, eT_z, mget_enc hh, eT_mk]
    rfl
theorem node_var {t : Te} (h : nodesT t = true) (hk : t.k = 0) : t = .mk 0 t.n ⟨#[]⟩ [] := by
  cases t with
  | mk k n s l =>
    have hk : k = 0 := hk
    subst hk
    rw [nodesT] at h
    simp only [nodeT, Te.k, Te.n, Te.s, Te.l, Bool.and_eq_true, if_true, decide_eq_true_eq] at h
    have h1 : s = ⟨#[]⟩ := of_decide_eq_true h.1.2.2.1
    have h2 : l = [] := List.length_eq_zero_iff.1 (by have := of_decide_eq_true h.1.2.2.2; omega)
    rw [h1, h2]
    rfl
theorem numT_var {t : Te} (h : nodesT t = true) (hk : t.k = 0) (W : List Int) : numT W t = .mk 0 (posL W t.n) ⟨#[]⟩ [] := by
  have hv := node_var h hk
  have hs : t.s = ⟨#[]⟩ := by rw [hv]; rfl
  have hl : t.l = [] := by rw [hv]; rfl
  rw [numT, mapV_t, if_pos hk, hk, hs, hl]
  rfl
theorem varsT_var {t : Te} (h : nodesT t = true) (hk : t.k = 0) (vs : List Int) : varsT vs t = if t.n ∉ vs then vs ++ [t.n] else vs := by
  have hl : t.l = [] := by rw [node_var h hk]; rfl
  rw [varsT_t, hl, varsTs]
  by_cases hn : t.n ∈ vs
  · rw [if_neg fun q => q.2 hn, if_neg (fun q => q hn)]
  · rw [if_pos ⟨hk, hn⟩, if_pos hn]
theorem node_arg {t : Te} (h : nodesT t = true) {k : Nat} (hk : k < t.l.length) : nodesT (t.l.getD k default) = true := by
  rw [nodesT_all, Bool.and_eq_true, List.all_eq_true] at h
  exact h.2 k (List.mem_range.2 hk)
def gApC : List D → Option (List D)
  | [t, m] => if okM m (szT (dT t)) && nodesT (dT t) then some [eT (numT (varsT (decM m) (dT t)) (dT t)), encM (varsT (decM m) (dT t))] else none
  | _ => none
theorem ok_term_apply_c : FOk q0s gApC := fok_cut (m := mT) q3r fun N ih => fok_term_apply_c ok_term_Canon_1 ih fun ds outs hw hg => by
  obtain ⟨d, r, rfl, hd, e, r', rfl, he, rfl⟩ := hw
  obtain ⟨t, rfl, ht⟩ := wfT hd
  simp only [cutM, mT, gApC, List.getD_cons_zero, dT_eT, Option.ite_none_right_eq_some, Option.some.injEq, okM, Bool.and_eq_true, decide_eq_true_eq] at hg
  obtain ⟨hsz, ⟨⟨hm, hlen⟩, hnod⟩, rfl⟩ := hg
  generalize decM e = vs at *
  subst hm
  have hl := ht.l
  have hs := szT_l t
  rw [q2l, go_br]
  refine ⟨fun h => ?_, fun h => ?_⟩
  · simp only [q00, go_br, q01, q02, allSay, X.says, X.ev, X.evs, evl, tblS, List.getD_cons_zero, List.getD_cons_succ, List.getElem?_cons_zero, List.getElem?_cons_succ, tt_b, int_i, str_s, rs_r, Option.isSome_some, Option.getD_some, decide_eq_true_eq, decide_eq_false_iff_not, dS_eS, dC_eC, dU_eU, dW_eW, dY_eY, eC_0, eC_1, eU_0, eU_1, eW_0, eW_1, eW_2, eY_0, eY_1, eS_0, eS_1, eS_2, eS_3, eS_4, eS_5, List.length_map, i_inj, b_inj, s_inj, eC_eq, eU_eq, eW_eq, eY_eq, eS_eq, rng64, List.take_succ_cons, List.take_zero, List.nil_append, List.cons_append, decide_true, decide_false, Bool.or_true, true_and, and_true, dT_eT, eT_0, eT_1, eT_2, eT_3, eT_eq, eT_z] at h
    have hv := node_var hnod h
    have hok : okM (encM vs) 1 = true := by
      rw [okM, decM_encM, Bool.and_eq_true]
      exact ⟨decide_eq_true rfl, decide_eq_true (by omega)⟩
    have hq : gCa1 [eT t, encM vs] = some (if t.n ∈ vs then [eT (.mk 0 (posL vs t.n) ⟨#[]⟩ []), encM vs] else [eT (.mk 0 (vs.length : Nat) ⟨#[]⟩ []), encM (vs ++ [t.n])]) := by
      simp only [gCa1, dT_eT, decM_encM, hok, if_true]
    by_cases hin : t.n ∈ vs
    · rw [if_pos hin] at hq
      have e1 : varsT vs t = vs := by rw [varsT_var hnod h, if_neg fun q => q hin]
      have e2 : numT (varsT vs t) t = .mk 0 (posL vs t.n) ⟨#[]⟩ [] := by rw [e1, numT_var hnod h]
      rw [e2, e1]
      simp only [q00, go_br, q01, q02, allSay, X.says, X.ev, X.evs, evl, tblS, List.getD_cons_zero, List.getD_cons_succ, List.getElem?_cons_zero, List.getElem?_cons_succ, tt_b, int_i, str_s, rs_r, Option.isSome_some, Option.getD_some, decide_eq_true_eq, decide_eq_false_iff_not, dS_eS, dC_eC, dU_eU, dW_eW, dY_eY, eC_0, eC_1, eU_0, eU_1, eW_0, eW_1, eW_2, eY_0, eY_1, eS_0, eS_1, eS_2, eS_3, eS_4, eS_5, List.length_map, i_inj, b_inj, s_inj, eC_eq, eU_eq, eW_eq, eY_eq, eS_eq, rng64, List.take_succ_cons, List.take_zero, List.nil_append, List.cons_append, decide_true, decide_false, Bool.or_true, true_and, and_true, dT_eT, eT_0, eT_1, eT_2, eT_3, eT_eq, eT_z, hq]
    · rw [if_neg hin] at hq
      have e1 : varsT vs t = vs ++ [t.n] := by rw [varsT_var hnod h, if_pos hin]
      have e2 : numT (varsT vs t) t = .mk 0 (vs.length : Nat) ⟨#[]⟩ [] := by rw [e1, numT_var hnod h, posL_snoc hin]
      rw [e2, e1]
      simp only [q00, go_br, q01, q02, allSay, X.says, X.ev, X.evs, evl, tblS, List.getD_cons_zero, List.getD_cons_succ, List.getElem?_cons_zero, List.getElem?_cons_succ, tt_b, int_i, str_s, rs_r, Option.isSome_some, Option.getD_some, decide_eq_true_eq, decide_eq_false_iff_not, dS_eS, dC_eC, dU_eU, dW_eW, dY_eY, eC_0, eC_1, eU_0, eU_1, eW_0, eW_1, eW_2, eY_0, eY_1, eS_0, eS_1, eS_2, eS_3, eS_4, eS_5, List.length_map, i_inj, b_inj, s_inj, eC_eq, eU_eq, eW_eq, eY_eq, eS_eq, rng64, List.take_succ_cons, List.take_zero, List.nil_append, List.cons_append, decide_true, decide_false, Bool.or_true, true_and, and_true, dT_eT, eT_0, eT_1, eT_2, eT_3, eT_eq, eT_z, hq]
  · simp only [q00, go_br, q01, q02, allSay, X.says, X.ev, X.evs, evl, tblS, List.getD_cons_zero, List.getD_cons_succ, List.getElem?_cons_zero, List.getElem?_cons_succ, tt_b, int_i, str_s, rs_r, Option.isSome_some, Option.getD_some, decide_eq_true_eq, decide_eq_false_iff_not, dS_eS, dC_eC, dU_eU, dW_eW, dY_eY, eC_0, eC_1, eU_0, eU_1, eW_0, eW_1, eW_2, eY_0, eY_1, eS_0, eS_1, eS_2, eS_3, eS_4, eS_5, List.length_map, i_inj, b_inj, s_inj, eC_eq, eU_eq, eW_eq, eY_eq, eS_eq, rng64, List.take_succ_cons, List.take_zero, List.nil_append, List.cons_append, decide_true, decide_false, Bool.or_true, true_and, and_true, dT_eT, eT_0, eT_1, eT_2, eT_3, eT_eq, eT_z] at h
    have hV2 : varsTs vs t.l = varsT vs t := by rw [varsT_t, if_neg fun q => h q.1]
    rw [q1b]
    refine ⟨fun st => ∃ k : Nat, k ≤ t.l.length ∧ st = [.i k, eT (.mk t.k t.n t.s ((t.l.take k).map (numT (varsT vs t)))), encM (varsTs vs (t.l.take k))], fun st => t.l.length - (st.getD 0 .u).int.toNat, ⟨0, Nat.zero_le _, by simp only [X.evs, X.ev, evl, List.getD_cons_zero, List.getD_cons_succ, eT_0, eT_1, eT_2, eT_mk]; rfl⟩, ?_⟩
    rintro st - ⟨k, hk, rfl⟩
    rw [go_br]
    refine ⟨fun hlt => ?_, fun hlt => ?_⟩
    · simp only [q00, go_br, q01, q02, allSay, X.says, X.ev, X.evs, evl, tblS, List.getD_cons_zero, List.getD_cons_succ, List.getElem?_cons_zero, List.getElem?_cons_succ, tt_b, int_i, str_s, rs_r, Option.isSome_some, Option.getD_some, decide_eq_true_eq, decide_eq_false_iff_not, dS_eS, dC_eC, dU_eU, dW_eW, dY_eY, eC_0, eC_1, eU_0, eU_1, eW_0, eW_1, eW_2, eY_0, eY_1, eS_0, eS_1, eS_2, eS_3, eS_4, eS_5, List.length_map, i_inj, b_inj, s_inj, eC_eq, eU_eq, eW_eq, eY_eq, eS_eq, rng64, List.take_succ_cons, List.take_zero, List.nil_append, List.cons_append, decide_true, decide_false, Bool.or_true, true_and, and_true, dT_eT, eT_0, eT_1, eT_2, eT_3, eT_eq, eT_z] at hlt
      have hkl' : k < t.l.length := by omega
      have ha := arg_sz hkl'
      have h1 := varsTs_len (t.l.take k) vs
      have h2 := sz_take hkl'
      have hok : okM (encM (varsTs vs (t.l.take k))) (szT (t.l.getD k default)) = true := by
        rw [okM, decM_encM, Bool.and_eq_true]
        exact ⟨decide_eq_true rfl, decide_eq_true (by omega)⟩
      have hW : ∃ m, varsT vs t = varsT (varsTs vs (t.l.take k)) (t.l.getD k default) ++ m := by
        rw [← hV2, ← varsTs_snoc hkl']
        have e : t.l = t.l.take (k + 1) ++ t.l.drop (k + 1) := (List.take_append_drop _ _).symm
        obtain ⟨m, hm⟩ := varsTs_pre (t.l.drop (k + 1)) (varsTs vs (t.l.take (k + 1)))
        refine ⟨m, ?_⟩
        conv => lhs; rw [e, varsTs_app]
        exact hm
      obtain ⟨m, hm⟩ := hW
      have hno := node_arg hnod hkl'
      simp only [q00, go_br, q01, q02, allSay, X.says, X.ev, X.evs, evl, tblS, List.getD_cons_zero, List.getD_cons_succ, List.getElem?_cons_zero, List.getElem?_cons_succ, tt_b, int_i, str_s, rs_r, Option.isSome_some, Option.getD_some, decide_eq_true_eq, decide_eq_false_iff_not, dS_eS, dC_eC, dU_eU, dW_eW, dY_eY, eC_0, eC_1, eU_0, eU_1, eW_0, eW_1, eW_2, eY_0, eY_1, eS_0, eS_1, eS_2, eS_3, eS_4, eS_5, List.length_map, i_inj, b_inj, s_inj, eC_eq, eU_eq, eW_eq, eY_eq, eS_eq, rng64, List.take_succ_cons, List.take_zero, List.nil_append, List.cons_append, decide_true, decide_false, Bool.or_true, true_and, and_true, dT_eT, eT_0, eT_1, eT_2, eT_3, eT_eq, eT_z, get_t hkl', cutM, mT, gApC, decM_encM, hok, hno, Bool.and_self, if_true, if_pos (show szT (t.l.getD k default) < N by omega), Te_l, List.length_take]
      refine ⟨⟨by omega, by omega⟩, by omega, ⟨by omega, by omega⟩, ?_⟩
      rw [updB, if_pos rfl]
      refine ⟨⟨k + 1, by omega, ?_⟩, ?_⟩
      · rw [take_snoc hkl', varsTs_app, List.map_append, eT_snoc, numT_pre hm]
        rfl
      · simp [D.int]
        omega
    · simp only [q00, go_br, q01, q02, allSay, X.says, X.ev, X.evs, evl, tblS, List.getD_cons_zero, List.getD_cons_succ, List.getElem?_cons_zero, List.getElem?_cons_succ, tt_b, int_i, str_s, rs_r, Option.isSome_some, Option.getD_some, decide_eq_true_eq, decide_eq_false_iff_not, dS_eS, dC_eC, dU_eU, dW_eW, dY_eY, eC_0, eC_1, eU_0, eU_1, eW_0, eW_1, eW_2, eY_0, eY_1, eS_0, eS_1, eS_2, eS_3, eS_4, eS_5, List.length_map, i_inj, b_inj, s_inj, eC_eq, eU_eq, eW_eq, eY_eq, eS_eq, rng64, List.take_succ_cons, List.take_zero, List.nil_append, List.cons_append, decide_true, decide_false, Bool.or_true, true_and, and_true, dT_eT, eT_0, eT_1, eT_2, eT_3, eT_eq, eT_z] at hlt ⊢
      have : k = t.l.length := by omega
      subst this
      rw [List.take_length, hV2, numT, mapV_t, if_neg h]
def canT (t : Te) : Te := if validT t then numT (varsT [] t) t else zT
theorem ok_term_Canon : FOk q1m (gTT canT) := fok_term_Canon ok_term_Canon_1 q2s ok_term_apply_c fun ds outs hw hg => by
  obtain ⟨d, r, rfl, hd, rfl⟩ := hw
  obtain ⟨t, rfl, ht⟩ := wfT hd
  simp only [gTT, dT_eT, Option.some.injEq] at hg
  subst hg
  cases hv : validT t with
  | false => simp [q2a, q00, go_br, q01, q02, allSay, X.says, X.ev, X.evs, evl, tblS, List.getD_cons_zero, List.getD_cons_succ, List.getElem?_cons_zero, List.getElem?_cons_succ, tt_b, int_i, str_s, rs_r, Option.isSome_some, Option.getD_some, decide_eq_true_eq, decide_eq_false_iff_not, dS_eS, dC_eC, dU_eU, dW_eW, dY_eY, eC_0, eC_1, eU_0, eU_1, eW_0, eW_1, eW_2, eY_0, eY_1, eS_0, eS_1, eS_2, eS_3, eS_4, eS_5, List.length_map, i_inj, b_inj, s_inj, eC_eq, eU_eq, eW_eq, eY_eq, eS_eq, rng64, List.take_succ_cons, List.take_zero, List.nil_append, List.cons_append, decide_true, decide_false, Bool.or_true, true_and, and_true, dT_eT, eT_0, eT_1, eT_2, eT_3, eT_eq, eT_z, gTb, dT_eT, hv, canT, D.tt, eT_z]
  | true =>
    have hv' := hv
    simp only [validT, Bool.and_eq_true, decide_eq_true_eq] at hv'
    have hq : gApC [eT t, .mp []] = some [eT (numT (varsT [] t) t), encM (varsT [] t)] := by
      have : okM (.mp []) (szT t) = true := by
        rw [okM, Bool.and_eq_true]
        exact ⟨decide_eq_true rfl, decide_eq_true (by show ([] : List Int).length + _ ≤ _; simp; omega)⟩
      simp only [gApC, dT_eT, this, hv'.2, Bool.and_self, if_true]
      rfl
    simp [q2a, q00, go_br, q01, q02, allSay, X.says, X.ev, X.evs, evl, tblS, List.getD_cons_zero, List.getD_cons_succ, List.getElem?_cons_zero, List.getElem?_cons_succ, tt_b, int_i, str_s, rs_r, Option.isSome_some, Option.getD_some, decide_eq_true_eq, decide_eq_false_iff_not, dS_eS, dC_eC, dU_eU, dW_eW, dY_eY, eC_0, eC_1, eU_0, eU_1, eW_0, eW_1, eW_2, eY_0, eY_1, eS_0, eS_1, eS_2, eS_3, eS_4, eS_5, List.length_map, i_inj, b_inj, s_inj, eC_eq, eU_eq, eW_eq, eY_eq, eS_eq, rng64, List.take_succ_cons, List.take_zero, List.nil_append, List.cons_append, decide_true, decide_false, Bool.or_true, true_and, and_true, dT_eT, eT_0, eT_1, eT_2, eT_3, eT_eq, eT_z, gTb, dT_eT, hv, canT, D.tt, hq]
def varT (t u : Te) : Bool := validT t && validT u && idT (canT t) (canT u)
theorem ok_term_Variant : FOk q1a (gTTb varT) := fok_term_Variant q2s ok_term_Canon ok_term_identical fun ds outs hw hg => by
  obtain ⟨d, r, rfl, hd, e, r', rfl, he, rfl⟩ := hw
  obtain ⟨t, rfl, ht⟩ := wfT hd
  obtain ⟨u, rfl, hu⟩ := wfT he
  simp only [gTTb, dT_eT, Option.some.injEq] at hg
  subst hg
  simp [q2i, q00, go_br, q01, q02, allSay, X.says, X.ev, X.evs, evl, tblS, List.getD_cons_zero, List.getD_cons_succ, List.getElem?_cons_zero, List.getElem?_cons_succ, tt_b, int_i, str_s, rs_r, Option.isSome_some, Option.getD_some, decide_eq_true_eq, decide_eq_false_iff_not, dS_eS, dC_eC, dU_eU, dW_eW, dY_eY, eC_0, eC_1, eU_0, eU_1, eW_0, eW_1, eW_2, eY_0, eY_1, eS_0, eS_1, eS_2, eS_3, eS_4, eS_5, List.length_map, i_inj, b_inj, s_inj, eC_eq, eU_eq, eW_eq, eY_eq, eS_eq, rng64, List.take_succ_cons, List.take_zero, List.nil_append, List.cons_append, decide_true, decide_false, Bool.or_true, true_and, and_true, dT_eT, eT_0, eT_1, eT_2, eT_3, eT_eq, eT_z, gTb, gTT, gTTb, dT_eT, varT, D.tt]
end Go.Proofs.Ytmebmpgffhajbaa


namespace Go.Proofs.Ytmebmpgffhajbaa
open Go.RowKit
set_option linter.unusedVariables false
set_option linter.unusedSimpArgs false

mutual
theorem vars_sub {V : List Int} : ∀ (t : Te) (vs : List Int), inV V t → (∀ x ∈ vs, x ∈ V) → ∀ x ∈ varsT vs t, x ∈ V
  | .mk k n s l, vs, h, hv => by
    rw [varsT]
    refine varss_sub l _ h.2 fun x hx => ?_
    split at hx
    · rename_i hc
      rcases List.mem_append.1 hx with hx | hx
      · exact hv x hx
      · rw [List.mem_singleton.1 hx]
        exact h.1 hc.1
    · exact hv x hx
theorem varss_sub {V : List Int} : ∀ (l : List Te) (vs : List Int), inVs V l → (∀ x ∈ vs, x ∈ V) → ∀ x ∈ varsTs vs l, x ∈ V
  | [], vs, _, hv => hv
  | t :: l, vs, h, hv => by
    rw [varsTs]
    exact varss_sub l _ h.2 (vars_sub t vs h.1 hv)
end
theorem var_map {V : List Int} {g : Int → Int} {t : Te} (hv : validT t = true) (hi : inV V t) (hg : ∀ x ∈ V, ∀ y ∈ V, g x = g y → x = y) (hr : ∀ x ∈ V, 0 ≤ g x ∧ g x ≤ 1099511627776) : varT t (mapV g t) = true := by
  have hv2 := validT_map hr hi hv
  have hs : ∀ x ∈ varsT [] t, x ∈ V := vars_sub t [] hi fun x hx => by cases hx
  have h1 := varsT_map t [] (f := g) fun x hx y hy => hg x (hs x hx) y (hs y hy)
  rw [List.map_nil] at h1
  have h2 : numT (varsT [] (mapV g t)) (mapV g t) = numT (varsT [] t) t := by
    rw [h1, numT, mapV_comp]
    exact mapV_congr (V := varsT [] t) (fun x hx => posL_map hx fun y hy e => hg y (hs y hy) x (hs x hx) e) t (varsT_in t [])
  simp only [varT, canT, hv, hv2, if_true, h2, (idT_iff _ _).2 rfl, Bool.and_self]

section
variable {s : So} {r : Ro}
def rnV (f : Nat → Bool) (n : Int) : Int := (bef f n.toNat : Nat)
def mkV (f : Nat → Bool) (n : Nat) : List Int := (idxF f n).map Int.ofNat
theorem mkV_mem {f : Nat → Bool} {n : Nat} {x : Int} : x ∈ mkV f n ↔ 0 ≤ x ∧ x.toNat < n ∧ f x.toNat = true := by
  unfold mkV idxF
  rw [List.mem_map]
  constructor
  · rintro ⟨i, hi, rfl⟩
    obtain ⟨h1, h2⟩ := List.mem_filter.1 hi
    exact ⟨Int.natCast_nonneg i, List.mem_range.1 h1, h2⟩
  · rintro ⟨h1, h2, h3⟩
    exact ⟨x.toNat, List.mem_filter.2 ⟨List.mem_range.2 h2, h3⟩, by show ((x.toNat : Nat) : Int) = x; omega⟩
theorem rnV_inj {f : Nat → Bool} {n : Nat} : ∀ x ∈ mkV f n, ∀ y ∈ mkV f n, rnV f x = rnV f y → x = y := fun x hx y hy h => by
  obtain ⟨a1, a2, a3⟩ := mkV_mem.1 hx
  obtain ⟨b1, b2, b3⟩ := mkV_mem.1 hy
  unfold rnV at h
  have := bef_inj a3 b3 (by omega)
  omega
theorem rnV_rng {f : Nat → Bool} {n : Nat} (hn : n ≤ 1048576) : ∀ x ∈ mkV f n, 0 ≤ rnV f x ∧ rnV f x ≤ 1099511627776 := fun x hx => by
  obtain ⟨a1, a2, a3⟩ := mkV_mem.1 hx
  have := bef_le f x.toNat
  unfold rnV
  omega

structure Good (s : So) (r : Ro) (c : Ce) : Prop where
  vc : vcR s c = true
  cl : Clo s r c
theorem Good.g (hv : validR s = true) {c : Ce} (h : Good s r c) : Gce s c := gce_vc hv h.vc
theorem good_at (hv : validR s = true) {i : Int} (hi : inS s i = true) (hm : Mk s r i.toNat = true) (ht : (cellAt s i).t ≠ 4) : Good s r (cellAt s i) := by
  have h := inS_iff.1 hi
  refine ⟨vr_vc hv hi ht, ?_⟩
  have := cl_cell (s := s) hm
  rwa [show ((i.toNat : Nat) : Int) = i by omega] at this
theorem Good.mk0 {c : Ce} (h : Good s r c) (hv : validR s = true) (ht : c.t = 0 ∨ c.t = 3 ∨ c.t = 5) : 0 ≤ c.n ∧ c.n.toNat < s.cs.length ∧ Mk s r c.n.toNat = true := by
  obtain ⟨h1, h2⟩ := (h.g hv).b ht
  have hp := cnt_pos (s := s) ht
  have hm := h.cl.at hp
  rw [Nat.add_zero] at hm
  exact ⟨h1, by omega, hm⟩
theorem der_good (hv : validR s = true) : ∀ (k : Nat) {c : Ce}, Good s r c → Good s r (derN s k c)
  | 0, c, h => h
  | k + 1, c, h => by
    unfold derN
    split
    · rename_i q
      exact der_good hv k (good_at hv q.2.1 (h.mk0 hv (.inl q.1)).2.2 (vc_ref h.vc q.1).2)
    · exact h
theorem mvC_eq {c d : Ce} (hv : validR s = true) (hc : Good s r c) (hd : Good s r d) (ht : d.t = 0) : mvC (Mk s r) c = mvC (Mk s r) d ↔ c = d := by
  refine ⟨fun h => ?_, fun h => by rw [h]⟩
  have h1 : c.t = d.t := by
    have := congrArg Ce.t h
    rwa [mvC_t, mvC_t] at this
  have hn : (mvC (Mk s r) c).n = (mvC (Mk s r) d).n := by rw [h]
  rw [mvC_n (.inl (h1.trans ht)), mvC_n (.inl ht)] at hn
  obtain ⟨a1, a2, a3⟩ := hc.mk0 hv (.inl (h1.trans ht))
  obtain ⟨b1, b2, b3⟩ := hd.mk0 hv (.inl ht)
  have := bef_inj a3 b3 (by omega)
  exact Ce.ext' h1 (by omega)
theorem derN_col (hv : validR s = true) : ∀ (k : Nat) {c : Ce}, Good s r c → derN (colS (Mk s r) s) k (mvC (Mk s r) c) = mvC (Mk s r) (derN s k c)
  | 0, c, h => rfl
  | k + 1, c, h => by
    unfold derN
    rw [mvC_t]
    by_cases ht : c.t = 0
    · obtain ⟨a1, a2, a3⟩ := h.mk0 hv (.inl ht)
      have hcn : ((c.n.toNat : Nat) : Int) = c.n := by omega
      have hin : inS s c.n = true := inS_iff.2 ⟨a1, by omega⟩
      have hin2 := col_in (s := s) a3 a2
      have hcell := col_cell (s := s) a3 a2
      rw [hcn] at hcell
      have hg := good_at hv hin a3 (vc_ref h.vc ht).2
      rw [mvC_n (.inl ht), hcell]
      by_cases hq : cellAt s c.n = c
      · rw [if_neg fun q => q.2.2 (by rw [hq]), if_neg fun q => q.2.2 hq]
      · rw [if_pos ⟨ht, hin2, fun e => hq ((mvC_eq hv hg h ht).1 e)⟩, if_pos ⟨ht, hin, hq⟩]
        exact derN_col hv k hg
    · rw [if_neg fun q => ht q.1, if_neg fun q => ht q.1]
theorem der_more (hv : validR s = true) {c : Ce} (hc : vcR s c = true) (j : Nat) : derN s (s.cs.length + 1 + j) c = derN s (s.cs.length + 1) c := by
  by_cases ht : c.t = 0
  · have e : c = ⟨0, c.n⟩ := Ce.ext' ht rfl
    rw [e]
    exact der_stable j _ _ (vr_ends hv (vc_ref hc ht).1)
  · rw [derN_t ht, derN_t ht]
theorem derS_col (hok : okR validR vcR s r = true) {c : Ce} (h : Good s r c) : derS (colS (Mk s r) s) (mvC (Mk s r) c) = mvC (Mk s r) (derS s c) := by
  have hv := (okR_parts hok).1
  have hv2 := vr_col hok
  have hvc2 := vc_col (vg_of hok) (h.g hv) h.cl h.vc
  rw [derS, if_pos hvc2, derS, if_pos h.vc, ← derN_col hv _ h]
  have hle : (colS (Mk s r) s).cs.length ≤ s.cs.length := by
    have e : (colS (Mk s r) s).cs.length = bef (Mk s r) s.cs.length := heapF_len _ s _
    rw [e]
    exact bef_le _ _
  have := der_more hv2 hvc2 (s.cs.length - (colS (Mk s r) s).cs.length)
  rw [show (colS (Mk s r) s).cs.length + 1 + (s.cs.length - (colS (Mk s r) s).cs.length) = s.cs.length + 1 by omega] at this
  exact this.symm
theorem derS_good (hv : validR s = true) {c : Ce} (h : Good s r c) : Good s r (derS s c) := by
  rw [derS, if_pos h.vc]
  exact der_good hv _ h

noncomputable abbrev reM (s : So) (r : Ro) : Te → Te := mapV (rnV (Mk s r))
noncomputable abbrev vaM (s : So) (r : Ro) : List Int := mkV (Mk s r) s.cs.length
theorem getL_col {K : Int} {G g : Ce → Int → Te × Int} (hl : ∀ (c : Ce) (l : Int), 0 ≤ l → (g c l).2 ≤ l - 1 ∧ -1 ≤ (g c l).2) : ∀ (cs : List Ce) (l : Int), -1 ≤ l → l < K → (∀ c ∈ cs, ∀ l, 0 ≤ l → l < K → G (mvC (Mk s r) c) l = (reM s r (g c l).1, (g c l).2) ∧ (0 ≤ (g c l).2 → inV (vaM s r) (g c l).1)) →
    getL G (cs.map (mvC (Mk s r))) l = (mapVs (rnV (Mk s r)) (getL g cs l).1, (getL g cs l).2) ∧ (0 ≤ (getL g cs l).2 → inVs (vaM s r) (getL g cs l).1)
  | [], l, _, _, _ => ⟨rfl, fun _ => trivial⟩
  | c :: cs, l, hl0, hlK, h => by
    rw [List.map_cons, getL, getL]
    by_cases hneg : l < 0
    · rw [if_pos hneg, if_pos hneg]
      exact ⟨rfl, fun _ => trivial⟩
    · rw [if_neg hneg, if_neg hneg]
      obtain ⟨h1, h2⟩ := h c List.mem_cons_self l (by omega) hlK
      have hb := hl c l (by omega)
      obtain ⟨i1, i2⟩ := getL_col hl cs (g c l).2 hb.2 (by omega) fun x hx => h x (List.mem_cons_of_mem _ hx)
      have hb2 := getL_le hl cs (g c l).2 hb.2
      rw [h1]
      simp only
      rw [i1]
      refine ⟨rfl, fun h0 => ⟨h2 (by have h0 : 0 ≤ (getL g cs (g c l).2).2 := h0; omega), i2 h0⟩⟩
theorem getN_col (hok : okR validR vcR s r = true) : ∀ (k : Nat) (c : Ce) (l : Int), 0 ≤ l → l < k → Good s r c → getN (colS (Mk s r) s) k (mvC (Mk s r) c) l = (reM s r (getN s k c l).1, (getN s k c l).2) ∧ (0 ≤ (getN s k c l).2 → inV (vaM s r) (getN s k c l).1)
  | 0, c, l, h0, h1, _ => by omega
  | k + 1, c, l, hl0, hlk, hc => by
    have hv := (okR_parts hok).1
    have hd := derS_good hv hc
    rw [getN, getN, derS_col hok hc]
    generalize derS s c = d at hd
    by_cases hneg : l - 1 < 0
    · rw [if_pos hneg, if_pos hneg]
      exact ⟨rfl, fun h => absurd h (by simp only; omega)⟩
    rw [if_neg hneg, if_neg hneg, mvC_t]
    by_cases h1 : d.t = 1
    · rw [if_pos h1, if_pos h1, mvC_k (by omega)]
      exact ⟨by rw [reM, mapV_mk, if_neg (by decide)]; rfl, fun _ => ⟨fun h => absurd h (by decide), trivial⟩⟩
    rw [if_neg h1, if_neg h1]
    by_cases h2 : d.t = 2
    · rw [if_pos h2, if_pos h2, mvC_k (by omega)]
      exact ⟨by rw [reM, mapV_mk, if_neg (by decide)]; rfl, fun _ => ⟨fun h => absurd h (by decide), trivial⟩⟩
    rw [if_neg h2, if_neg h2]
    by_cases h3 : d.t = 3
    · rw [if_pos h3, if_pos h3]
      obtain ⟨a1, a2, a3⟩ := hd.mk0 hv (.inr (.inl h3))
      have hdn : ((d.n.toNat : Nat) : Int) = d.n := by omega
      have h4 := vc_str hd.vc h3
      have hin : inS s d.n = true := inS_iff.2 ⟨a1, by omega⟩
      have h4' : (cellAt s d.n).t = 4 := by rw [← tagS_in hin]; exact h4
      have hcell := col_cell (s := s) a3 a2
      rw [hdn] at hcell
      obtain ⟨b1, b2, b3⟩ := vr_fun hv hin h4'
      have hall := fun_all hok (Mk_iff.1 a3) (by rw [hdn]; exact h4)
      rw [hdn] at hall
      rw [mvC_n (.inr (.inl h3)), hcell, mvC_k (c := cellAt s d.n) (by omega), col_ar]
      have hargs : argsOf (colS (Mk s r) s) (bef (Mk s r) d.n.toNat : Nat) (arS s (cellAt s d.n).n).toNat = (argsOf s d.n (arS s (cellAt s d.n).n).toNat).map (mvC (Mk s r)) := by
        unfold argsOf
        rw [List.map_map]
        refine List.map_congr_left fun j hj => ?_
        have hj := List.mem_range.1 hj
        have hm := hall (j + 1) (by omega)
        have hlt := (Mk_iff.1 hm).lt (vg_of hok)
        have hrun : bef (Mk s r) (d.n.toNat + (j + 1)) = bef (Mk s r) d.n.toNat + (j + 1) := bef_run fun i hi => hall i (by omega)
        have := col_cell (s := s) hm hlt
        rw [hrun] at this
        show cellAt _ ((bef (Mk s r) d.n.toNat : Nat) + 1 + (j : Int)) = mvC _ (cellAt s (d.n + 1 + (j : Int)))
        rw [show ((bef (Mk s r) d.n.toNat : Nat) : Int) + 1 + (j : Int) = ((bef (Mk s r) d.n.toNat + (j + 1) : Nat) : Int) by omega, this, show ((d.n.toNat + (j + 1) : Nat) : Int) = d.n + 1 + (j : Int) by omega]
      rw [hargs]
      have hg : ∀ x ∈ argsOf s d.n (arS s (cellAt s d.n).n).toNat, Good s r x := fun x hx => by
        obtain ⟨j, hj, rfl⟩ := List.mem_map.1 hx
        have hj := List.mem_range.1 hj
        obtain ⟨c1, c2⟩ := b3 j (by omega)
        refine ⟨c2, ?_⟩
        have := cl_cell (s := s) (hall (j + 1) (by omega))
        rwa [show ((d.n.toNat + (j + 1) : Nat) : Int) = d.n + 1 + (j : Int) by omega] at this
      obtain ⟨i1, i2⟩ := getL_col (K := (k : Int)) (G := getN (colS (Mk s r) s) k) (fun c l h => getN_le s k c l h) _ (l - 1) (by omega) (by omega) fun x hx l' hl' hk' => getN_col hok k x l' hl' hk' (hg x hx)
      rw [i1]
      refine ⟨by rw [reM, mapV_mk, if_neg (by decide), ← mapVs_map]; rfl, fun h => ⟨fun h => absurd h (by decide), i2 h⟩⟩
    rw [if_neg h3, if_neg h3]
    have hvd := hd.vc
    have ht : d.t = 0 ∨ d.t = 3 ∨ d.t = 5 := by
      by_cases h0 : d.t = 0
      · exact .inl h0
      · by_cases h5 : d.t = 5
        · exact .inr (.inr h5)
        · unfold vcR at hvd
          rw [if_neg h0, if_neg h1, if_neg h2, if_neg h3, if_neg h5] at hvd
          cases hvd
    obtain ⟨a1, a2, a3⟩ := hd.mk0 hv ht
    rw [mvC_n ht]
    refine ⟨by rw [reM, mapV_mk, if_pos rfl]; rfl, fun _ => ⟨fun _ => mkV_mem.2 ⟨a1, a2, a3⟩, trivial⟩⟩
end
end Go.Proofs.Ytmebmpgffhajbaa


namespace Go.Proofs.Ytmebmpgffhajbaa
open Go.RowKit
set_option linter.unusedVariables false
set_option linter.unusedSimpArgs false

def liT : List Te → Te → Te
  | [], t => t
  | x :: l, t => .mk 3 0 ⟨#[46]⟩ [x, liT l t]
def dRT (d : D) : List Te := d.rs.map dT
def gLis : List D → Option (List D)
  | [l, t] => if validT (dT t) && (nodesTs (dRT l) && decide (szT (dT t) + szTs (dRT l) + (dRT l).length ≤ 2000)) then some [eT (liT (dRT l) (dT t))] else none
  | _ => none
theorem drop_at {l : List Te} {k : Nat} (h : k < l.length) : l.drop k = l.getD k default :: l.drop (k + 1) := by
  rw [List.drop_eq_getElem_cons h]
  simp [List.getD_eq_getElem?_getD, List.getElem?_eq_getElem h]
theorem ok_term_List : FOk q1o gLis := fok_term_List q2s ok_term_Size ok_term_fits ok_term_Clone fun ds outs hw hg => by
  obtain ⟨d, r, rfl, hd, e, r', rfl, he, rfl⟩ := hw
  obtain ⟨l, rfl, hl, hlo⟩ := wfTs hd
  obtain ⟨t, rfl, ht⟩ := wfT he
  simp only [gLis, dRT, rs_r, map_id' dT_eT, dT_eT, Option.ite_none_right_eq_some, Option.some.injEq, Bool.and_eq_true, decide_eq_true_eq] at hg
  obtain ⟨⟨hvt, hno, hsz⟩, rfl⟩ := hg
  have hlen : l.length ≤ 2000 := by omega
  have hn : ∀ x ∈ l, nodesT x = true := nodesTs_iff.1 hno
  have hvx : ∀ k, k < l.length → validT (l.getD k default) = true := fun k hk => by
    simp only [validT, Bool.and_eq_true, decide_eq_true_eq]
    have := szTs_mem (getD_mem hk)
    exact ⟨by omega, hn _ (getD_mem hk)⟩
  have hszt : min (szT t : Int) 2001 = szT t := by omega
  have q1 : gTb validT [eT t] = some [.b true] := by simp only [gTb, dT_eT, hvt]
  have q2 : gTi (fun t => min (szT t : Int) 2001) [eT t] = some [.i (szT t : Nat)] := by simp only [gTi, dT_eT, hszt]
  have q3 : gTT (fun t => if validT t then t else zT) [eT t] = some [eT t] := by simp only [gTT, dT_eT, hvt, if_true]
  have d1 : decide (2000 < (l.length : Int)) = false := decide_eq_false (by omega)
  rw [q3l, q00]
  refine ⟨by simp only [q00, go_br, q01, q02, allSay, X.says, X.ev, X.evs, evl, tblS, List.getD_cons_zero, List.getD_cons_succ, List.getElem?_cons_zero, List.getElem?_cons_succ, tt_b, int_i, str_s, rs_r, Option.isSome_some, Option.getD_some, decide_eq_true_eq, decide_eq_false_iff_not, dS_eS, dC_eC, dU_eU, dW_eW, dY_eY, eC_0, eC_1, eU_0, eU_1, eW_0, eW_1, eW_2, eY_0, eY_1, eS_0, eS_1, eS_2, eS_3, eS_4, eS_5, List.length_map, i_inj, b_inj, s_inj, eC_eq, eU_eq, eW_eq, eY_eq, eS_eq, rng64, List.take_succ_cons, List.take_zero, List.nil_append, List.cons_append, decide_true, decide_false, Bool.or_true, true_and, and_true, dT_eT, eT_0, eT_1, eT_2, eT_3, eT_eq, eT_z, q1, d1], ?_⟩
  rw [go_br]
  refine ⟨fun hb => absurd hb (by simp only [q00, go_br, q01, q02, allSay, X.says, X.ev, X.evs, evl, tblS, List.getD_cons_zero, List.getD_cons_succ, List.getElem?_cons_zero, List.getElem?_cons_succ, tt_b, int_i, str_s, rs_r, Option.isSome_some, Option.getD_some, decide_eq_true_eq, decide_eq_false_iff_not, dS_eS, dC_eC, dU_eU, dW_eW, dY_eY, eC_0, eC_1, eU_0, eU_1, eW_0, eW_1, eW_2, eY_0, eY_1, eS_0, eS_1, eS_2, eS_3, eS_4, eS_5, List.length_map, i_inj, b_inj, s_inj, eC_eq, eU_eq, eW_eq, eY_eq, eS_eq, rng64, List.take_succ_cons, List.take_zero, List.nil_append, List.cons_append, decide_true, decide_false, Bool.or_true, true_and, and_true, dT_eT, eT_0, eT_1, eT_2, eT_3, eT_eq, eT_z, q1, d1]; decide), fun _ => ?_⟩
  rw [q00]
  refine ⟨by simp only [q00, go_br, q01, q02, allSay, X.says, X.ev, X.evs, evl, tblS, List.getD_cons_zero, List.getD_cons_succ, List.getElem?_cons_zero, List.getElem?_cons_succ, tt_b, int_i, str_s, rs_r, Option.isSome_some, Option.getD_some, decide_eq_true_eq, decide_eq_false_iff_not, dS_eS, dC_eC, dU_eU, dW_eW, dY_eY, eC_0, eC_1, eU_0, eU_1, eW_0, eW_1, eW_2, eY_0, eY_1, eS_0, eS_1, eS_2, eS_3, eS_4, eS_5, List.length_map, i_inj, b_inj, s_inj, eC_eq, eU_eq, eW_eq, eY_eq, eS_eq, rng64, List.take_succ_cons, List.take_zero, List.nil_append, List.cons_append, decide_true, decide_false, Bool.or_true, true_and, and_true, dT_eT, eT_0, eT_1, eT_2, eT_3, eT_eq, eT_z, q2], ?_⟩
  rw [q1b]
  refine ⟨fun st => ∃ k : Nat, k ≤ l.length ∧ st = [.i ((szT t + (szTs (l.take k) + k) : Nat) : Int), .i k, eT zT], fun st => l.length - (st.getD 1 .u).int.toNat, ⟨0, Nat.zero_le _, by simp [X.evs, X.ev, evl, tblS, q2, szTs]; rfl⟩, ?_⟩
  rintro st - ⟨k, hk, rfl⟩
  rw [go_br]
  refine ⟨fun hlt => ?_, fun hlt => ?_⟩
  · have hkl : k < l.length := by
      simp only [q00, go_br, q01, q02, allSay, X.says, X.ev, X.evs, evl, tblS, List.getD_cons_zero, List.getD_cons_succ, List.getElem?_cons_zero, List.getElem?_cons_succ, tt_b, int_i, str_s, rs_r, Option.isSome_some, Option.getD_some, decide_eq_true_eq, decide_eq_false_iff_not, dS_eS, dC_eC, dU_eU, dW_eW, dY_eY, eC_0, eC_1, eU_0, eU_1, eW_0, eW_1, eW_2, eY_0, eY_1, eS_0, eS_1, eS_2, eS_3, eS_4, eS_5, List.length_map, i_inj, b_inj, s_inj, eC_eq, eU_eq, eW_eq, eY_eq, eS_eq, rng64, List.take_succ_cons, List.take_zero, List.nil_append, List.cons_append, decide_true, decide_false, Bool.or_true, true_and, and_true, dT_eT, eT_0, eT_1, eT_2, eT_3, eT_eq, eT_z] at hlt
      omega
    have h1 := szTs_snoc hkl
    have h2 := sz_take hkl
    have p2 : gTi (fun t => min (szT t : Int) 2001) [eT (l.getD k default)] = some [.i (szT (l.getD k default) : Nat)] := by
      simp only [gTi, dT_eT]
      rw [show min (szT (l.getD k default) : Int) 2001 = szT (l.getD k default) by omega]
    have p4 : gTb nodesT [eT (l.getD k default)] = some [.b true] := by simp only [gTb, dT_eT, hn _ (getD_mem hkl)]
    have d2 : decide (2000 < (((szT t + (szTs (l.take k) + k) : Nat) : Int) + (1 + ((szT (l.getD k default) : Nat) : Int)))) = false := decide_eq_false (by omega)
    rw [q00]
    have hi : (0 : Int) ≤ k ∧ (k : Int) < l.length := ⟨by omega, by omega⟩
    refine ⟨by simp only [q00, go_br, q01, q02, allSay, X.says, X.ev, X.evs, evl, tblS, List.getD_cons_zero, List.getD_cons_succ, List.getElem?_cons_zero, List.getElem?_cons_succ, tt_b, int_i, str_s, rs_r, Option.isSome_some, Option.getD_some, decide_eq_true_eq, decide_eq_false_iff_not, dS_eS, dC_eC, dU_eU, dW_eW, dY_eY, eC_0, eC_1, eU_0, eU_1, eW_0, eW_1, eW_2, eY_0, eY_1, eS_0, eS_1, eS_2, eS_3, eS_4, eS_5, List.length_map, i_inj, b_inj, s_inj, eC_eq, eU_eq, eW_eq, eY_eq, eS_eq, rng64, List.take_succ_cons, List.take_zero, List.nil_append, List.cons_append, decide_true, decide_false, Bool.or_true, true_and, and_true, dT_eT, eT_0, eT_1, eT_2, eT_3, eT_eq, eT_z, get_t hkl, p2, p4, d2, hi.1, hi.2] <;> (and_intros <;> first | omega | rfl), ?_⟩
    repeat' (rw [q00]; refine ⟨by simp only [q00, go_br, q01, q02, allSay, X.says, X.ev, X.evs, evl, tblS, List.getD_cons_zero, List.getD_cons_succ, List.getElem?_cons_zero, List.getElem?_cons_succ, tt_b, int_i, str_s, rs_r, Option.isSome_some, Option.getD_some, decide_eq_true_eq, decide_eq_false_iff_not, dS_eS, dC_eC, dU_eU, dW_eW, dY_eY, eC_0, eC_1, eU_0, eU_1, eW_0, eW_1, eW_2, eY_0, eY_1, eS_0, eS_1, eS_2, eS_3, eS_4, eS_5, List.length_map, i_inj, b_inj, s_inj, eC_eq, eU_eq, eW_eq, eY_eq, eS_eq, rng64, List.take_succ_cons, List.take_zero, List.nil_append, List.cons_append, decide_true, decide_false, Bool.or_true, true_and, and_true, dT_eT, eT_0, eT_1, eT_2, eT_3, eT_eq, eT_z, get_t hkl, p2, p4, d2, hi.1, hi.2] <;> (and_intros <;> first | omega | rfl), ?_⟩)
    rw [go_br]
    refine ⟨fun hb => absurd hb (by simp only [q00, go_br, q01, q02, allSay, X.says, X.ev, X.evs, evl, tblS, List.getD_cons_zero, List.getD_cons_succ, List.getElem?_cons_zero, List.getElem?_cons_succ, tt_b, int_i, str_s, rs_r, Option.isSome_some, Option.getD_some, decide_eq_true_eq, decide_eq_false_iff_not, dS_eS, dC_eC, dU_eU, dW_eW, dY_eY, eC_0, eC_1, eU_0, eU_1, eW_0, eW_1, eW_2, eY_0, eY_1, eS_0, eS_1, eS_2, eS_3, eS_4, eS_5, List.length_map, i_inj, b_inj, s_inj, eC_eq, eU_eq, eW_eq, eY_eq, eS_eq, rng64, List.take_succ_cons, List.take_zero, List.nil_append, List.cons_append, decide_true, decide_false, Bool.or_true, true_and, and_true, dT_eT, eT_0, eT_1, eT_2, eT_3, eT_eq, eT_z, get_t hkl, p2, p4, d2]; decide), fun _ => ?_⟩
    simp only [q00, go_br, q01, q02, allSay, X.says, X.ev, X.evs, evl, tblS, List.getD_cons_zero, List.getD_cons_succ, List.getElem?_cons_zero, List.getElem?_cons_succ, tt_b, int_i, str_s, rs_r, Option.isSome_some, Option.getD_some, decide_eq_true_eq, decide_eq_false_iff_not, dS_eS, dC_eC, dU_eU, dW_eW, dY_eY, eC_0, eC_1, eU_0, eU_1, eW_0, eW_1, eW_2, eY_0, eY_1, eS_0, eS_1, eS_2, eS_3, eS_4, eS_5, List.length_map, i_inj, b_inj, s_inj, eC_eq, eU_eq, eW_eq, eY_eq, eS_eq, rng64, List.take_succ_cons, List.take_zero, List.nil_append, List.cons_append, decide_true, decide_false, Bool.or_true, true_and, and_true, dT_eT, eT_0, eT_1, eT_2, eT_3, eT_eq, eT_z, get_t hkl, p2]
    refine ⟨⟨by omega, by omega⟩, ?_⟩
    rw [updB, if_pos rfl]
    refine ⟨⟨k + 1, by omega, ?_⟩, by simp [D.int]; omega⟩
    rw [h1]
    congr 2
    push_cast
    omega
  · have hkl : k = l.length := by
      simp only [q00, go_br, q01, q02, allSay, X.says, X.ev, X.evs, evl, tblS, List.getD_cons_zero, List.getD_cons_succ, List.getElem?_cons_zero, List.getElem?_cons_succ, tt_b, int_i, str_s, rs_r, Option.isSome_some, Option.getD_some, decide_eq_true_eq, decide_eq_false_iff_not, dS_eS, dC_eC, dU_eU, dW_eW, dY_eY, eC_0, eC_1, eU_0, eU_1, eW_0, eW_1, eW_2, eY_0, eY_1, eS_0, eS_1, eS_2, eS_3, eS_4, eS_5, List.length_map, i_inj, b_inj, s_inj, eC_eq, eU_eq, eW_eq, eY_eq, eS_eq, rng64, List.take_succ_cons, List.take_zero, List.nil_append, List.cons_append, decide_true, decide_false, Bool.or_true, true_and, and_true, dT_eT, eT_0, eT_1, eT_2, eT_3, eT_eq, eT_z] at hlt
      omega
    subst hkl
    rw [q00]
    refine ⟨by simp only [q00, go_br, q01, q02, allSay, X.says, X.ev, X.evs, evl, tblS, List.getD_cons_zero, List.getD_cons_succ, List.getElem?_cons_zero, List.getElem?_cons_succ, tt_b, int_i, str_s, rs_r, Option.isSome_some, Option.getD_some, decide_eq_true_eq, decide_eq_false_iff_not, dS_eS, dC_eC, dU_eU, dW_eW, dY_eY, eC_0, eC_1, eU_0, eU_1, eW_0, eW_1, eW_2, eY_0, eY_1, eS_0, eS_1, eS_2, eS_3, eS_4, eS_5, List.length_map, i_inj, b_inj, s_inj, eC_eq, eU_eq, eW_eq, eY_eq, eS_eq, rng64, List.take_succ_cons, List.take_zero, List.nil_append, List.cons_append, decide_true, decide_false, Bool.or_true, true_and, and_true, dT_eT, eT_0, eT_1, eT_2, eT_3, eT_eq, eT_z, q3], ?_⟩
    rw [q00]
    refine ⟨by simp only [q00, go_br, q01, q02, allSay, X.says, X.ev, X.evs, evl, tblS, List.getD_cons_zero, List.getD_cons_succ, List.getElem?_cons_zero, List.getElem?_cons_succ, tt_b, int_i, str_s, rs_r, Option.isSome_some, Option.getD_some, decide_eq_true_eq, decide_eq_false_iff_not, dS_eS, dC_eC, dU_eU, dW_eW, dY_eY, eC_0, eC_1, eU_0, eU_1, eW_0, eW_1, eW_2, eY_0, eY_1, eS_0, eS_1, eS_2, eS_3, eS_4, eS_5, List.length_map, i_inj, b_inj, s_inj, eC_eq, eU_eq, eW_eq, eY_eq, eS_eq, rng64, List.take_succ_cons, List.take_zero, List.nil_append, List.cons_append, decide_true, decide_false, Bool.or_true, true_and, and_true, dT_eT, eT_0, eT_1, eT_2, eT_3, eT_eq, eT_z]; omega, ?_⟩
    rw [q1b]
    refine ⟨fun st => ∃ m : Nat, m ≤ l.length ∧ st = [.i ((m : Int) - 1), eT (liT (l.drop m) t)], fun st => ((st.getD 0 .u).int + 1).toNat, ⟨l.length, Nat.le_refl _, by simp [X.evs, X.ev, evl, tblS, q3, liT, int_i, rs_r]⟩, ?_⟩
    rintro st - ⟨m, hm, rfl⟩
    rw [go_br]
    refine ⟨fun hlt => ?_, fun hlt => ?_⟩
    · simp only [q00, go_br, q01, q02, allSay, X.says, X.ev, X.evs, evl, tblS, List.getD_cons_zero, List.getD_cons_succ, List.getElem?_cons_zero, List.getElem?_cons_succ, tt_b, int_i, str_s, rs_r, Option.isSome_some, Option.getD_some, decide_eq_true_eq, decide_eq_false_iff_not, dS_eS, dC_eC, dU_eU, dW_eW, dY_eY, eC_0, eC_1, eU_0, eU_1, eW_0, eW_1, eW_2, eY_0, eY_1, eS_0, eS_1, eS_2, eS_3, eS_4, eS_5, List.length_map, i_inj, b_inj, s_inj, eC_eq, eU_eq, eW_eq, eY_eq, eS_eq, rng64, List.take_succ_cons, List.take_zero, List.nil_append, List.cons_append, decide_true, decide_false, Bool.or_true, true_and, and_true, dT_eT, eT_0, eT_1, eT_2, eT_3, eT_eq, eT_z] at hlt
      obtain ⟨k, rfl⟩ : ∃ k, m = k + 1 := ⟨m - 1, by omega⟩
      have hkl : k < l.length := by omega
      have p3 : gTT (fun t => if validT t then t else zT) [eT (l.getD k default)] = some [eT (l.getD k default)] := by simp only [gTT, dT_eT, hvx k hkl, if_true]
      have ek : ((k + 1 : Nat) : Int) - 1 = (k : Int) := by omega
      rw [ek]
      simp only [q00, go_br, q01, q02, allSay, X.says, X.ev, X.evs, evl, tblS, List.getD_cons_zero, List.getD_cons_succ, List.getElem?_cons_zero, List.getElem?_cons_succ, tt_b, int_i, str_s, rs_r, Option.isSome_some, Option.getD_some, decide_eq_true_eq, decide_eq_false_iff_not, dS_eS, dC_eC, dU_eU, dW_eW, dY_eY, eC_0, eC_1, eU_0, eU_1, eW_0, eW_1, eW_2, eY_0, eY_1, eS_0, eS_1, eS_2, eS_3, eS_4, eS_5, List.length_map, i_inj, b_inj, s_inj, eC_eq, eU_eq, eW_eq, eY_eq, eS_eq, rng64, List.take_succ_cons, List.take_zero, List.nil_append, List.cons_append, decide_true, decide_false, Bool.or_true, true_and, and_true, dT_eT, eT_0, eT_1, eT_2, eT_3, eT_eq, eT_z, get_t hkl, p3]
      refine ⟨⟨by omega, by omega⟩, ⟨by omega, by omega⟩, ?_⟩
      rw [updB, if_pos rfl]
      refine ⟨⟨k, by omega, ?_⟩, by simp [D.int]⟩
      rw [drop_at hkl, liT, eT_mk]
      rfl
    · simp only [q00, go_br, q01, q02, allSay, X.says, X.ev, X.evs, evl, tblS, List.getD_cons_zero, List.getD_cons_succ, List.getElem?_cons_zero, List.getElem?_cons_succ, tt_b, int_i, str_s, rs_r, Option.isSome_some, Option.getD_some, decide_eq_true_eq, decide_eq_false_iff_not, dS_eS, dC_eC, dU_eU, dW_eW, dY_eY, eC_0, eC_1, eU_0, eU_1, eW_0, eW_1, eW_2, eY_0, eY_1, eS_0, eS_1, eS_2, eS_3, eS_4, eS_5, List.length_map, i_inj, b_inj, s_inj, eC_eq, eU_eq, eW_eq, eY_eq, eS_eq, rng64, List.take_succ_cons, List.take_zero, List.nil_append, List.cons_append, decide_true, decide_false, Bool.or_true, true_and, and_true, dT_eT, eT_0, eT_1, eT_2, eT_3, eT_eq, eT_z] at hlt ⊢
      obtain rfl : m = 0 := by omega
      rfl
end Go.Proofs.Ytmebmpgffhajbaa


namespace Go.Proofs.Ytmebmpgffhajbaa
open Go.RowKit
set_option linter.unusedVariables false
set_option linter.unusedSimpArgs false

def tog (g : Ce → Te × Int) : List Ce → Nat → List Te × List Int
  | [], _ => ([], [])
  | c :: l, z => if (g c).2 = 0 then (if 2000 < z + 1 + szT (g c).1 then ([], [(g c).2]) else ((g c).1 :: (tog g l (z + 1 + szT (g c).1)).1, (g c).2 :: (tog g l (z + 1 + szT (g c).1)).2))
    else ((tog g l z).1, (g c).2 :: (tog g l z).2)
def nilT : Te := .mk 2 0 ⟨#[91, 93]⟩ []
def dRC (d : D) : List Ce := d.rs.map dC
def togS (s : So) (l : List Ce) : List Te × List Int := tog (getS s) l 1
def gTog : List D → Option (List D)
  | [s, l] => if validR (dS s) then some [eT (liT (togS (dS s) (dRC l)).1 nilT), .r ((togS (dS s) (dRC l)).2.map D.i)] else none
  | _ => none
theorem lis_at {T : List Te} (hn : nodesTs T = true) (hz : 1 + szTs T + T.length ≤ 2000) : gLis [.r (T.map eT), eT nilT] = some [eT (liT T nilT)] := by
  have h1 : validT nilT = true := by decide
  have h2 : szT nilT = 1 := rfl
  simp only [gLis, dRT, rs_r, map_id' dT_eT, dT_eT, h1, hn, h2]
  rw [if_pos (by simp only [Bool.true_and, decide_eq_true_eq]; omega)]
theorem cells_drop {l : List Ce} {k : Nat} (h : k < l.length) : l.drop k = l.getD k default :: l.drop (k + 1) := by
  rw [List.drop_eq_getElem_cons h]
  simp [List.getD_eq_getElem?_getD, List.getElem?_eq_getElem h]
theorem ok_law34_together : FOk q11 gTog := fok_law34_together ok_cells_Get ok_term_Size ok_term_Atom ok_term_List fun ds outs hw hg => by
  obtain ⟨d, r, rfl, hd, e, r', rfl, he, rfl⟩ := hw
  obtain ⟨s, rfl, hs⟩ := wfS hd
  obtain ⟨l, rfl, hl, hlo⟩ := wfCs he
  simp only [gTog, dRC, rs_r, map_id' dC_eC, dS_eS, Option.ite_none_right_eq_some, Option.some.injEq] at hg
  obtain ⟨hv, rfl⟩ := hg
  have qa : gSt atomT [.s ⟨#[91, 93]⟩] = some [eT nilT] := rfl
  rw [q27, q1b]
  refine ⟨fun st => ∃ (k z : Nat) (E : List Int) (T : List Te), st = [.r (E.map D.i), .i (z : Nat), .r (T.map eT), .i (k : Nat)] ∧ k ≤ l.length ∧ E.length = k ∧ z = 1 + szTs T + T.length ∧ z ≤ 2000 ∧ nodesTs T = true ∧
    T ++ (tog (getS s) (l.drop k) z).1 = (togS s l).1 ∧ E ++ (tog (getS s) (l.drop k) z).2 = (togS s l).2, fun st => l.length - (st.getD 3 .u).int.toNat, ⟨0, 1, [], [], by simp [X.evs, X.ev, evl], Nat.zero_le _, rfl, rfl, by decide, rfl, rfl, rfl⟩, ?_⟩
  rintro st - ⟨k, z, E, T, rfl, hk, hE, hz, hz2, hT, h1, h2⟩
  have hTl := szTs_len T
  rw [go_br]
  refine ⟨fun hlt => ?_, fun hlt => ?_⟩
  · have hkl : k < l.length := by
      simp only [q00, go_br, q01, q02, allSay, X.says, X.ev, X.evs, evl, tblS, List.getD_cons_zero, List.getD_cons_succ, List.getElem?_cons_zero, List.getElem?_cons_succ, tt_b, int_i, str_s, rs_r, Option.isSome_some, Option.getD_some, decide_eq_true_eq, decide_eq_false_iff_not, dS_eS, dC_eC, dU_eU, dW_eW, dY_eY, eC_0, eC_1, eU_0, eU_1, eW_0, eW_1, eW_2, eY_0, eY_1, eS_0, eS_1, eS_2, eS_3, eS_4, eS_5, List.length_map, i_inj, b_inj, s_inj, eC_eq, eU_eq, eW_eq, eY_eq, eS_eq, rng64, List.take_succ_cons, List.take_zero, List.nil_append, List.cons_append, decide_true, decide_false, Bool.or_true, true_and, and_true, dT_eT, eT_0, eT_1, eT_2, eT_3, eT_eq, eT_z] at hlt
      omega
    have hcv := getS_valid hv (l.getD k default)
    rw [cells_drop hkl] at h1 h2
    generalize hc : l.getD k default = c at *
    have hgc := get_n eC hkl
    rw [hc] at hgc
    have hcv' := hcv
    simp only [validT, Bool.and_eq_true, decide_eq_true_eq] at hcv'
    have q0 : gGet [eS s, eC c] = some [eT (getS s c).1, .i (getS s c).2] := by simp only [gGet, dS_eS, dC_eC, hv, if_true]
    have q1 : gTi (fun t => min (szT t : Int) 2001) [eT (getS s c).1] = some [.i (szT (getS s c).1 : Nat)] := by
      simp only [gTi, dT_eT]
      rw [show min (szT (getS s c).1 : Int) 2001 = szT (getS s c).1 by omega]
    have hap : ∀ (E : List Int) (x : Int), E.map D.i ++ [D.i x] = (E ++ [x]).map D.i := fun E x => by simp
    have hapT : ∀ (E : List Te) (x : Te), E.map eT ++ [eT x] = (E ++ [x]).map eT := fun E x => by simp
    rw [q00]
    refine ⟨by simp only [q00, go_br, q01, q02, allSay, X.says, X.ev, X.evs, evl, tblS, List.getD_cons_zero, List.getD_cons_succ, List.getElem?_cons_zero, List.getElem?_cons_succ, tt_b, int_i, str_s, rs_r, Option.isSome_some, Option.getD_some, decide_eq_true_eq, decide_eq_false_iff_not, dS_eS, dC_eC, dU_eU, dW_eW, dY_eY, eC_0, eC_1, eU_0, eU_1, eW_0, eW_1, eW_2, eY_0, eY_1, eS_0, eS_1, eS_2, eS_3, eS_4, eS_5, List.length_map, i_inj, b_inj, s_inj, eC_eq, eU_eq, eW_eq, eY_eq, eS_eq, rng64, List.take_succ_cons, List.take_zero, List.nil_append, List.cons_append, decide_true, decide_false, Bool.or_true, true_and, and_true, dT_eT, eT_0, eT_1, eT_2, eT_3, eT_eq, eT_z, hgc, q0] <;> (and_intros <;> omega), ?_⟩
    rw [q00]
    refine ⟨by simp only [q00, go_br, q01, q02, allSay, X.says, X.ev, X.evs, evl, tblS, List.getD_cons_zero, List.getD_cons_succ, List.getElem?_cons_zero, List.getElem?_cons_succ, tt_b, int_i, str_s, rs_r, Option.isSome_some, Option.getD_some, decide_eq_true_eq, decide_eq_false_iff_not, dS_eS, dC_eC, dU_eU, dW_eW, dY_eY, eC_0, eC_1, eU_0, eU_1, eW_0, eW_1, eW_2, eY_0, eY_1, eS_0, eS_1, eS_2, eS_3, eS_4, eS_5, List.length_map, i_inj, b_inj, s_inj, eC_eq, eU_eq, eW_eq, eY_eq, eS_eq, rng64, List.take_succ_cons, List.take_zero, List.nil_append, List.cons_append, decide_true, decide_false, Bool.or_true, true_and, and_true, dT_eT, eT_0, eT_1, eT_2, eT_3, eT_eq, eT_z, hgc, q0] <;> (and_intros <;> omega), ?_⟩
    rw [go_br]
    refine ⟨fun hb => ?_, fun hb => ?_⟩
    · have hne : (getS s c).2 ≠ 0 := by
        intro h0
        simp only [q00, go_br, q01, q02, allSay, X.says, X.ev, X.evs, evl, tblS, List.getD_cons_zero, List.getD_cons_succ, List.getElem?_cons_zero, List.getElem?_cons_succ, tt_b, int_i, str_s, rs_r, Option.isSome_some, Option.getD_some, decide_eq_true_eq, decide_eq_false_iff_not, dS_eS, dC_eC, dU_eU, dW_eW, dY_eY, eC_0, eC_1, eU_0, eU_1, eW_0, eW_1, eW_2, eY_0, eY_1, eS_0, eS_1, eS_2, eS_3, eS_4, eS_5, List.length_map, i_inj, b_inj, s_inj, eC_eq, eU_eq, eW_eq, eY_eq, eS_eq, rng64, List.take_succ_cons, List.take_zero, List.nil_append, List.cons_append, decide_true, decide_false, Bool.or_true, true_and, and_true, dT_eT, eT_0, eT_1, eT_2, eT_3, eT_eq, eT_z, hgc, q0, h0] at hb
        exact absurd hb (by decide)
      rw [tog, if_neg hne] at h1 h2
      simp only [q00, go_br, q01, q02, allSay, X.says, X.ev, X.evs, evl, tblS, List.getD_cons_zero, List.getD_cons_succ, List.getElem?_cons_zero, List.getElem?_cons_succ, tt_b, int_i, str_s, rs_r, Option.isSome_some, Option.getD_some, decide_eq_true_eq, decide_eq_false_iff_not, dS_eS, dC_eC, dU_eU, dW_eW, dY_eY, eC_0, eC_1, eU_0, eU_1, eW_0, eW_1, eW_2, eY_0, eY_1, eS_0, eS_1, eS_2, eS_3, eS_4, eS_5, List.length_map, i_inj, b_inj, s_inj, eC_eq, eU_eq, eW_eq, eY_eq, eS_eq, rng64, List.take_succ_cons, List.take_zero, List.nil_append, List.cons_append, decide_true, decide_false, Bool.or_true, true_and, and_true, dT_eT, eT_0, eT_1, eT_2, eT_3, eT_eq, eT_z, hgc, q0, hap]
      refine ⟨⟨by omega, by omega⟩, ?_⟩
      rw [updB, if_pos rfl]
      exact ⟨⟨k + 1, z, E ++ [(getS s c).2], T, by simp, hkl, by simp [hE], hz, hz2, hT, h1, by rw [List.append_assoc]; exact h2⟩, by simp [D.int]; omega⟩
    · have h0 : (getS s c).2 = 0 := by
        simp only [q00, go_br, q01, q02, allSay, X.says, X.ev, X.evs, evl, tblS, List.getD_cons_zero, List.getD_cons_succ, List.getElem?_cons_zero, List.getElem?_cons_succ, tt_b, int_i, str_s, rs_r, Option.isSome_some, Option.getD_some, decide_eq_true_eq, decide_eq_false_iff_not, dS_eS, dC_eC, dU_eU, dW_eW, dY_eY, eC_0, eC_1, eU_0, eU_1, eW_0, eW_1, eW_2, eY_0, eY_1, eS_0, eS_1, eS_2, eS_3, eS_4, eS_5, List.length_map, i_inj, b_inj, s_inj, eC_eq, eU_eq, eW_eq, eY_eq, eS_eq, rng64, List.take_succ_cons, List.take_zero, List.nil_append, List.cons_append, decide_true, decide_false, Bool.or_true, true_and, and_true, dT_eT, eT_0, eT_1, eT_2, eT_3, eT_eq, eT_z, hgc, q0] at hb
        simpa using hb
      rw [tog, if_pos h0] at h1 h2
      rw [q00]
      refine ⟨by simp only [q00, go_br, q01, q02, allSay, X.says, X.ev, X.evs, evl, tblS, List.getD_cons_zero, List.getD_cons_succ, List.getElem?_cons_zero, List.getElem?_cons_succ, tt_b, int_i, str_s, rs_r, Option.isSome_some, Option.getD_some, decide_eq_true_eq, decide_eq_false_iff_not, dS_eS, dC_eC, dU_eU, dW_eW, dY_eY, eC_0, eC_1, eU_0, eU_1, eW_0, eW_1, eW_2, eY_0, eY_1, eS_0, eS_1, eS_2, eS_3, eS_4, eS_5, List.length_map, i_inj, b_inj, s_inj, eC_eq, eU_eq, eW_eq, eY_eq, eS_eq, rng64, List.take_succ_cons, List.take_zero, List.nil_append, List.cons_append, decide_true, decide_false, Bool.or_true, true_and, and_true, dT_eT, eT_0, eT_1, eT_2, eT_3, eT_eq, eT_z, hgc, q0, q1] <;> (and_intros <;> omega), ?_⟩
      rw [go_br]
      refine ⟨fun hb => ?_, fun hb => ?_⟩
      · have hbig : 2000 < z + 1 + szT (getS s c).1 := by
          simp only [q00, go_br, q01, q02, allSay, X.says, X.ev, X.evs, evl, tblS, List.getD_cons_zero, List.getD_cons_succ, List.getElem?_cons_zero, List.getElem?_cons_succ, tt_b, int_i, str_s, rs_r, Option.isSome_some, Option.getD_some, decide_eq_true_eq, decide_eq_false_iff_not, dS_eS, dC_eC, dU_eU, dW_eW, dY_eY, eC_0, eC_1, eU_0, eU_1, eW_0, eW_1, eW_2, eY_0, eY_1, eS_0, eS_1, eS_2, eS_3, eS_4, eS_5, List.length_map, i_inj, b_inj, s_inj, eC_eq, eU_eq, eW_eq, eY_eq, eS_eq, rng64, List.take_succ_cons, List.take_zero, List.nil_append, List.cons_append, decide_true, decide_false, Bool.or_true, true_and, and_true, dT_eT, eT_0, eT_1, eT_2, eT_3, eT_eq, eT_z, hgc, q0, q1] at hb
          omega
        rw [if_pos hbig] at h1 h2
        rw [List.append_nil] at h1
        have qL := lis_at hT (by omega)
        rw [← h1, ← h2]
        simp only [q00, go_br, q01, q02, allSay, X.says, X.ev, X.evs, evl, tblS, List.getD_cons_zero, List.getD_cons_succ, List.getElem?_cons_zero, List.getElem?_cons_succ, tt_b, int_i, str_s, rs_r, Option.isSome_some, Option.getD_some, decide_eq_true_eq, decide_eq_false_iff_not, dS_eS, dC_eC, dU_eU, dW_eW, dY_eY, eC_0, eC_1, eU_0, eU_1, eW_0, eW_1, eW_2, eY_0, eY_1, eS_0, eS_1, eS_2, eS_3, eS_4, eS_5, List.length_map, i_inj, b_inj, s_inj, eC_eq, eU_eq, eW_eq, eY_eq, eS_eq, rng64, List.take_succ_cons, List.take_zero, List.nil_append, List.cons_append, decide_true, decide_false, Bool.or_true, true_and, and_true, dT_eT, eT_0, eT_1, eT_2, eT_3, eT_eq, eT_z, hgc, q0, qa, qL, hap]
      · have hbig : ¬ 2000 < z + 1 + szT (getS s c).1 := by
          simp only [q00, go_br, q01, q02, allSay, X.says, X.ev, X.evs, evl, tblS, List.getD_cons_zero, List.getD_cons_succ, List.getElem?_cons_zero, List.getElem?_cons_succ, tt_b, int_i, str_s, rs_r, Option.isSome_some, Option.getD_some, decide_eq_true_eq, decide_eq_false_iff_not, dS_eS, dC_eC, dU_eU, dW_eW, dY_eY, eC_0, eC_1, eU_0, eU_1, eW_0, eW_1, eW_2, eY_0, eY_1, eS_0, eS_1, eS_2, eS_3, eS_4, eS_5, List.length_map, i_inj, b_inj, s_inj, eC_eq, eU_eq, eW_eq, eY_eq, eS_eq, rng64, List.take_succ_cons, List.take_zero, List.nil_append, List.cons_append, decide_true, decide_false, Bool.or_true, true_and, and_true, dT_eT, eT_0, eT_1, eT_2, eT_3, eT_eq, eT_z, hgc, q0, q1] at hb
          omega
        rw [if_neg hbig] at h1 h2
        have hsT : szTs (T ++ [(getS s c).1]) = szTs T + szT (getS s c).1 := by
          rw [szTs_app]
          simp [szTs]
        have hnT : nodesTs (T ++ [(getS s c).1]) = true := by
          refine nodesTs_iff.2 fun t ht => ?_
          rcases List.mem_append.1 ht with ht | ht
          · exact nodesTs_iff.1 hT t ht
          · rw [List.mem_singleton.1 ht]
            exact hcv'.2
        simp only [q00, go_br, q01, q02, allSay, X.says, X.ev, X.evs, evl, tblS, List.getD_cons_zero, List.getD_cons_succ, List.getElem?_cons_zero, List.getElem?_cons_succ, tt_b, int_i, str_s, rs_r, Option.isSome_some, Option.getD_some, decide_eq_true_eq, decide_eq_false_iff_not, dS_eS, dC_eC, dU_eU, dW_eW, dY_eY, eC_0, eC_1, eU_0, eU_1, eW_0, eW_1, eW_2, eY_0, eY_1, eS_0, eS_1, eS_2, eS_3, eS_4, eS_5, List.length_map, i_inj, b_inj, s_inj, eC_eq, eU_eq, eW_eq, eY_eq, eS_eq, rng64, List.take_succ_cons, List.take_zero, List.nil_append, List.cons_append, decide_true, decide_false, Bool.or_true, true_and, and_true, dT_eT, eT_0, eT_1, eT_2, eT_3, eT_eq, eT_z, hgc, q0, q1, hap, hapT]
        refine ⟨by omega, ⟨by omega, by omega⟩, ?_⟩
        rw [updB, if_pos rfl]
        refine ⟨⟨k + 1, z + 1 + szT (getS s c).1, E ++ [(getS s c).2], T ++ [(getS s c).1], by simp, hkl, by simp [hE], by rw [hsT]; simp; omega, by omega, hnT, by rw [List.append_assoc]; exact h1, by rw [List.append_assoc]; exact h2⟩, by simp [D.int]; omega⟩
  · have hkl : k = l.length := by
      simp only [q00, go_br, q01, q02, allSay, X.says, X.ev, X.evs, evl, tblS, List.getD_cons_zero, List.getD_cons_succ, List.getElem?_cons_zero, List.getElem?_cons_succ, tt_b, int_i, str_s, rs_r, Option.isSome_some, Option.getD_some, decide_eq_true_eq, decide_eq_false_iff_not, dS_eS, dC_eC, dU_eU, dW_eW, dY_eY, eC_0, eC_1, eU_0, eU_1, eW_0, eW_1, eW_2, eY_0, eY_1, eS_0, eS_1, eS_2, eS_3, eS_4, eS_5, List.length_map, i_inj, b_inj, s_inj, eC_eq, eU_eq, eW_eq, eY_eq, eS_eq, rng64, List.take_succ_cons, List.take_zero, List.nil_append, List.cons_append, decide_true, decide_false, Bool.or_true, true_and, and_true, dT_eT, eT_0, eT_1, eT_2, eT_3, eT_eq, eT_z] at hlt
      omega
    subst hkl
    rw [List.drop_length, tog, List.append_nil] at h1 h2
    have qL := lis_at hT (by omega)
    rw [← h1, ← h2]
    simp only [q00, go_br, q01, q02, allSay, X.says, X.ev, X.evs, evl, tblS, List.getD_cons_zero, List.getD_cons_succ, List.getElem?_cons_zero, List.getElem?_cons_succ, tt_b, int_i, str_s, rs_r, Option.isSome_some, Option.getD_some, decide_eq_true_eq, decide_eq_false_iff_not, dS_eS, dC_eC, dU_eU, dW_eW, dY_eY, eC_0, eC_1, eU_0, eU_1, eW_0, eW_1, eW_2, eY_0, eY_1, eS_0, eS_1, eS_2, eS_3, eS_4, eS_5, List.length_map, i_inj, b_inj, s_inj, eC_eq, eU_eq, eW_eq, eY_eq, eS_eq, rng64, List.take_succ_cons, List.take_zero, List.nil_append, List.cons_append, decide_true, decide_false, Bool.or_true, true_and, and_true, dT_eT, eT_0, eT_1, eT_2, eT_3, eT_eq, eT_z, qa, qL]

def alkB (a b : So) (l m : List Ce) : Bool := decide (l.length = m.length) && (decide ((togS a l).2 = (togS b m).2) && varT (liT (togS a l).1 nilT) (liT (togS b m).1 nilT))
def gAlk : List D → Option (List D)
  | [a, b, l, m] => if validR (dS a) && validR (dS b) then some [.b (alkB (dS a) (dS b) (dRC l) (dRC m))] else none
  | _ => none
theorem ok_law34_alike : FOk q1f gAlk := fok_law34_alike ok_law34_together ok_term_Variant fun ds outs hw hg => by
  obtain ⟨d1, r1, rfl, hd1, d2, r2, rfl, hd2, d3, r3, rfl, hd3, d4, r4, rfl, hd4, rfl⟩ := hw
  obtain ⟨a, rfl, ha⟩ := wfS hd1
  obtain ⟨b, rfl, hb⟩ := wfS hd2
  obtain ⟨l, rfl, hl, hlo⟩ := wfCs hd3
  obtain ⟨m, rfl, hm, hmo⟩ := wfCs hd4
  simp only [gAlk, dRC, rs_r, map_id' dC_eC, dS_eS, Option.ite_none_right_eq_some, Option.some.injEq, Bool.and_eq_true] at hg
  obtain ⟨⟨hva, hvb⟩, rfl⟩ := hg
  have q1 : gTog [eS a, .r (l.map eC)] = some [eT (liT (togS a l).1 nilT), .r ((togS a l).2.map D.i)] := by simp only [gTog, dRC, rs_r, map_id' dC_eC, dS_eS, hva, if_true]
  have q2 : gTog [eS b, .r (m.map eC)] = some [eT (liT (togS b m).1 nilT), .r ((togS b m).2.map D.i)] := by simp only [gTog, dRC, rs_r, map_id' dC_eC, dS_eS, hvb, if_true]
  have q3 : ∀ t u, gTTb varT [eT t, eT u] = some [.b (varT t u)] := fun t u => by simp only [gTTb, dT_eT]
  have hlE : ∀ (g : Ce → Te × Int) (l : List Ce) (z : Nat), (tog g l z).2.length ≤ l.length := by
    intro g l
    induction l with
    | nil => intro z; exact Nat.le_refl _
    | cons c l ih =>
      intro z
      rw [tog]
      split
      · split
        · simp
        · have := ih (z + 1 + szT (g c).1)
          simp only [List.length_cons]
          omega
      · have := ih z
        simp only [List.length_cons]
        omega
  have hE1 := hlE (getS a) l 1
  unfold alkB
  generalize hx : (togS a l) = X1 at *
  have hE1 : X1.2.length ≤ l.length := by rw [← hx]; exact hE1
  generalize (togS b m) = X2 at *
  obtain ⟨T1, E1⟩ := X1
  obtain ⟨T2, E2⟩ := X2
  simp only at q1 q2 hE1 ⊢
  rw [q2w, q00]
  refine ⟨by simp only [q00, go_br, q01, q02, allSay, X.says, X.ev, X.evs, evl, tblS, List.getD_cons_zero, List.getD_cons_succ, List.getElem?_cons_zero, List.getElem?_cons_succ, tt_b, int_i, str_s, rs_r, Option.isSome_some, Option.getD_some, decide_eq_true_eq, decide_eq_false_iff_not, dS_eS, dC_eC, dU_eU, dW_eW, dY_eY, eC_0, eC_1, eU_0, eU_1, eW_0, eW_1, eW_2, eY_0, eY_1, eS_0, eS_1, eS_2, eS_3, eS_4, eS_5, List.length_map, i_inj, b_inj, s_inj, eC_eq, eU_eq, eW_eq, eY_eq, eS_eq, rng64, List.take_succ_cons, List.take_zero, List.nil_append, List.cons_append, decide_true, decide_false, Bool.or_true, true_and, and_true, dT_eT, eT_0, eT_1, eT_2, eT_3, eT_eq, eT_z, q1, q2], ?_⟩
  rw [q00]
  refine ⟨by simp only [q00, go_br, q01, q02, allSay, X.says, X.ev, X.evs, evl, tblS, List.getD_cons_zero, List.getD_cons_succ, List.getElem?_cons_zero, List.getElem?_cons_succ, tt_b, int_i, str_s, rs_r, Option.isSome_some, Option.getD_some, decide_eq_true_eq, decide_eq_false_iff_not, dS_eS, dC_eC, dU_eU, dW_eW, dY_eY, eC_0, eC_1, eU_0, eU_1, eW_0, eW_1, eW_2, eY_0, eY_1, eS_0, eS_1, eS_2, eS_3, eS_4, eS_5, List.length_map, i_inj, b_inj, s_inj, eC_eq, eU_eq, eW_eq, eY_eq, eS_eq, rng64, List.take_succ_cons, List.take_zero, List.nil_append, List.cons_append, decide_true, decide_false, Bool.or_true, true_and, and_true, dT_eT, eT_0, eT_1, eT_2, eT_3, eT_eq, eT_z, q1, q2], ?_⟩
  rw [go_br]
  refine ⟨fun hc => ?_, fun hc => ?_⟩
  · simp only [q00, go_br, q01, q02, allSay, X.says, X.ev, X.evs, evl, tblS, List.getD_cons_zero, List.getD_cons_succ, List.getElem?_cons_zero, List.getElem?_cons_succ, tt_b, int_i, str_s, rs_r, Option.isSome_some, Option.getD_some, decide_eq_true_eq, decide_eq_false_iff_not, dS_eS, dC_eC, dU_eU, dW_eW, dY_eY, eC_0, eC_1, eU_0, eU_1, eW_0, eW_1, eW_2, eY_0, eY_1, eS_0, eS_1, eS_2, eS_3, eS_4, eS_5, List.length_map, i_inj, b_inj, s_inj, eC_eq, eU_eq, eW_eq, eY_eq, eS_eq, rng64, List.take_succ_cons, List.take_zero, List.nil_append, List.cons_append, decide_true, decide_false, Bool.or_true, true_and, and_true, dT_eT, eT_0, eT_1, eT_2, eT_3, eT_eq, eT_z, q1, q2] at hc
    have : ¬ l.length = m.length ∨ ¬ E1 = E2 := by
      by_cases h : l.length = m.length
      · refine .inr fun e => ?_
        subst e
        simp [h] at hc
      · exact .inl h
    rcases this with h | h <;> simp [q00, go_br, q01, q02, allSay, X.says, X.ev, X.evs, evl, tblS, List.getD_cons_zero, List.getD_cons_succ, List.getElem?_cons_zero, List.getElem?_cons_succ, tt_b, int_i, str_s, rs_r, Option.isSome_some, Option.getD_some, decide_eq_true_eq, decide_eq_false_iff_not, dS_eS, dC_eC, dU_eU, dW_eW, dY_eY, eC_0, eC_1, eU_0, eU_1, eW_0, eW_1, eW_2, eY_0, eY_1, eS_0, eS_1, eS_2, eS_3, eS_4, eS_5, List.length_map, i_inj, b_inj, s_inj, eC_eq, eU_eq, eW_eq, eY_eq, eS_eq, rng64, List.take_succ_cons, List.take_zero, List.nil_append, List.cons_append, decide_true, decide_false, Bool.or_true, true_and, and_true, dT_eT, eT_0, eT_1, eT_2, eT_3, eT_eq, eT_z, h]
  · simp only [q00, go_br, q01, q02, allSay, X.says, X.ev, X.evs, evl, tblS, List.getD_cons_zero, List.getD_cons_succ, List.getElem?_cons_zero, List.getElem?_cons_succ, tt_b, int_i, str_s, rs_r, Option.isSome_some, Option.getD_some, decide_eq_true_eq, decide_eq_false_iff_not, dS_eS, dC_eC, dU_eU, dW_eW, dY_eY, eC_0, eC_1, eU_0, eU_1, eW_0, eW_1, eW_2, eY_0, eY_1, eS_0, eS_1, eS_2, eS_3, eS_4, eS_5, List.length_map, i_inj, b_inj, s_inj, eC_eq, eU_eq, eW_eq, eY_eq, eS_eq, rng64, List.take_succ_cons, List.take_zero, List.nil_append, List.cons_append, decide_true, decide_false, Bool.or_true, true_and, and_true, dT_eT, eT_0, eT_1, eT_2, eT_3, eT_eq, eT_z, q1, q2] at hc
    have hlm : l.length = m.length ∧ E1.length = E2.length := by
      by_cases h1 : l.length = m.length <;> by_cases h2 : E1.length = E2.length <;> simp [h1, h2] at hc ⊢
      · exact absurd hc (by omega)
      · exact absurd hc (by omega)
      · exact absurd hc (by omega)
    refine scan_ok E1.length (fun j => decide (E1.getD j 0 = E2.getD j 0)) (v0 := .b false) rfl fun k B' hk hP hB _ => ?_
    rw [go_br]
    refine ⟨fun hlt => ?_, fun hlt => ?_⟩
    · have hkl : k < E1.length := by
        simp only [q00, go_br, q01, q02, allSay, X.says, X.ev, X.evs, evl, tblS, List.getD_cons_zero, List.getD_cons_succ, List.getElem?_cons_zero, List.getElem?_cons_succ, tt_b, int_i, str_s, rs_r, Option.isSome_some, Option.getD_some, decide_eq_true_eq, decide_eq_false_iff_not, dS_eS, dC_eC, dU_eU, dW_eW, dY_eY, eC_0, eC_1, eU_0, eU_1, eW_0, eW_1, eW_2, eY_0, eY_1, eS_0, eS_1, eS_2, eS_3, eS_4, eS_5, List.length_map, i_inj, b_inj, s_inj, eC_eq, eU_eq, eW_eq, eY_eq, eS_eq, rng64, List.take_succ_cons, List.take_zero, List.nil_append, List.cons_append, decide_true, decide_false, Bool.or_true, true_and, and_true, dT_eT, eT_0, eT_1, eT_2, eT_3, eT_eq, eT_z, q1, q2] at hlt
        omega
      have g1 := get_i hkl
      have g2 := get_i (l := E2) (k := k) (by omega)
      simp only [q00, go_br, q01, q02, allSay, X.says, X.ev, X.evs, evl, tblS, List.getD_cons_zero, List.getD_cons_succ, List.getElem?_cons_zero, List.getElem?_cons_succ, tt_b, int_i, str_s, rs_r, Option.isSome_some, Option.getD_some, decide_eq_true_eq, decide_eq_false_iff_not, dS_eS, dC_eC, dU_eU, dW_eW, dY_eY, eC_0, eC_1, eU_0, eU_1, eW_0, eW_1, eW_2, eY_0, eY_1, eS_0, eS_1, eS_2, eS_3, eS_4, eS_5, List.length_map, i_inj, b_inj, s_inj, eC_eq, eU_eq, eW_eq, eY_eq, eS_eq, rng64, List.take_succ_cons, List.take_zero, List.nil_append, List.cons_append, decide_true, decide_false, Bool.or_true, true_and, and_true, dT_eT, eT_0, eT_1, eT_2, eT_3, eT_eq, eT_z, q1, q2, g1, g2]
      refine ⟨⟨by omega, by omega, by omega, by omega⟩, fun hb => ?_, fun hb => ⟨⟨by omega, by omega⟩, hB hkl ?_⟩⟩
      · have : ¬ E1 = E2 := fun e => by
          subst e
          simp at hb
        simp [this]
      · simpa using hb
    · have hkl : k = E1.length := by
        simp only [q00, go_br, q01, q02, allSay, X.says, X.ev, X.evs, evl, tblS, List.getD_cons_zero, List.getD_cons_succ, List.getElem?_cons_zero, List.getElem?_cons_succ, tt_b, int_i, str_s, rs_r, Option.isSome_some, Option.getD_some, decide_eq_true_eq, decide_eq_false_iff_not, dS_eS, dC_eC, dU_eU, dW_eW, dY_eY, eC_0, eC_1, eU_0, eU_1, eW_0, eW_1, eW_2, eY_0, eY_1, eS_0, eS_1, eS_2, eS_3, eS_4, eS_5, List.length_map, i_inj, b_inj, s_inj, eC_eq, eU_eq, eW_eq, eY_eq, eS_eq, rng64, List.take_succ_cons, List.take_zero, List.nil_append, List.cons_append, decide_true, decide_false, Bool.or_true, true_and, and_true, dT_eT, eT_0, eT_1, eT_2, eT_3, eT_eq, eT_z, q1, q2] at hlt
        omega
      subst hkl
      have he : E1 = E2 := by
        apply List.ext_getElem hlm.2
        intro i h1 h2
        have := of_decide_eq_true (hP i h1)
        simpa [List.getD_eq_getElem?_getD, h1, h2] using this
      subst he
      simp only [q00, go_br, q01, q02, allSay, X.says, X.ev, X.evs, evl, tblS, List.getD_cons_zero, List.getD_cons_succ, List.getElem?_cons_zero, List.getElem?_cons_succ, tt_b, int_i, str_s, rs_r, Option.isSome_some, Option.getD_some, decide_eq_true_eq, decide_eq_false_iff_not, dS_eS, dC_eC, dU_eU, dW_eW, dY_eY, eC_0, eC_1, eU_0, eU_1, eW_0, eW_1, eW_2, eY_0, eY_1, eS_0, eS_1, eS_2, eS_3, eS_4, eS_5, List.length_map, i_inj, b_inj, s_inj, eC_eq, eU_eq, eW_eq, eY_eq, eS_eq, rng64, List.take_succ_cons, List.take_zero, List.nil_append, List.cons_append, decide_true, decide_false, Bool.or_true, true_and, and_true, dT_eT, eT_0, eT_1, eT_2, eT_3, eT_eq, eT_z, q1, q2, q3, hlm.1, Bool.true_and]
end Go.Proofs.Ytmebmpgffhajbaa


namespace Go.Proofs.Ytmebmpgffhajbaa
open Go.RowKit
set_option linter.unusedVariables false
set_option linter.unusedSimpArgs false

theorem liT_map (g : Int → Int) : ∀ T : List Te, mapV g (liT T nilT) = liT (T.map (mapV g)) nilT
  | [] => rfl
  | x :: T => by
    rw [liT, mapV_mk, if_neg (by decide), List.map_cons, List.map_cons, List.map_nil, liT_map g T]
    rfl
theorem liT_in {V : List Int} : ∀ T : List Te, (∀ t ∈ T, inV V t) → inV V (liT T nilT)
  | [], _ => ⟨fun h => absurd h (by decide), trivial⟩
  | x :: T, h => ⟨fun h => absurd h (by decide), h x List.mem_cons_self, liT_in T (fun t ht => h t (List.mem_cons_of_mem _ ht)), trivial⟩
theorem liT_sz : ∀ T : List Te, szT (liT T nilT) = 1 + szTs T + T.length
  | [] => rfl
  | x :: T => by
    rw [liT, szT, szTs, szTs, szTs, liT_sz T, szTs, List.length_cons]
    omega
theorem liT_nodes : ∀ T : List Te, (∀ t ∈ T, nodesT t = true) → nodesT (liT T nilT) = true
  | [], _ => by decide
  | x :: T, h => by
    rw [liT, nodesT, nodesTs, nodesTs, nodesTs, h x List.mem_cons_self, liT_nodes T fun t ht => h t (List.mem_cons_of_mem _ ht)]
    rfl
theorem tog_sz (g : Ce → Te × Int) : ∀ (l : List Ce) (z : Nat), z ≤ 2000 → z + szTs (tog g l z).1 + (tog g l z).1.length ≤ 2000
  | [], z, h => by
    rw [tog]
    simp [szTs]
    exact h
  | c :: l, z, h => by
    rw [tog]
    split
    · split
      · simp [szTs]
        exact h
      · have := tog_sz g l (z + 1 + szT (g c).1) (by omega)
        simp only [szTs, List.length_cons]
        omega
    · exact tog_sz g l z h
theorem tog_all {P : Te → Prop} {g : Ce → Te × Int} : ∀ (l : List Ce) (z : Nat), (∀ c ∈ l, (g c).2 = 0 → P (g c).1) → ∀ t ∈ (tog g l z).1, P t
  | [], z, h, t, ht => by cases ht
  | c :: l, z, h, t, ht => by
    rw [tog] at ht
    split at ht
    · rename_i h0
      split at ht
      · cases ht
      · rcases List.mem_cons.1 ht with rfl | ht
        · exact h c List.mem_cons_self h0
        · exact tog_all l _ (fun x hx => h x (List.mem_cons_of_mem _ hx)) t ht
    · exact tog_all l z (fun x hx => h x (List.mem_cons_of_mem _ hx)) t ht
theorem tog_map {F : Ce → Ce} {m : Int → Int} {G g : Ce → Te × Int} : ∀ (l : List Ce) (z : Nat), (∀ c ∈ l, G (F c) = (mapV m (g c).1, (g c).2)) → tog G (l.map F) z = ((tog g l z).1.map (mapV m), (tog g l z).2)
  | [], z, h => rfl
  | c :: l, z, h => by
    have hc := h c List.mem_cons_self
    have ih := fun z => tog_map (G := G) (g := g) l z fun x hx => h x (List.mem_cons_of_mem _ hx)
    rw [List.map_cons, tog, tog, hc]
    simp only [szT_mapV, ih]
    split
    · split <;> rfl
    · rfl
section
variable {s : So} {r : Ro}
theorem getS_col (hok : okR validR vcR s r = true) {c : Ce} (hc : Good s r c) : getS (colS (Mk s r) s) (mvC (Mk s r) c) = (reM s r (getS s c).1, (getS s c).2) ∧ ((getS s c).2 = 0 → inV (vaM s r) (getS s c).1) := by
  have hv := (okR_parts hok).1
  have hvc2 := vc_col (vg_of hok) (hc.g hv) hc.cl hc.vc
  obtain ⟨h1, h2⟩ := getN_col hok 2001 c 2000 (by omega) (by omega) hc
  unfold getS
  rw [if_pos hvc2, if_pos hc.vc, h1]
  by_cases hn : (getN s 2001 c 2000).2 < 0
  · rw [if_pos hn, if_pos hn]
    exact ⟨rfl, fun h => absurd h (by decide)⟩
  · rw [if_neg hn, if_neg hn]
    exact ⟨rfl, fun _ => h2 (by omega)⟩
theorem alk_col (hc : GcQ s r) : alkB s (colS (Mk s r) s) r.cs (colR (Mk s r) s r).cs = true := by
  have hok := hc.ok
  obtain ⟨hv, hvr, -, -⟩ := okR_parts hok
  have hgood : ∀ c ∈ r.cs, Good s r c := fun c h => ⟨hvr c h, cl_root (List.mem_append_left _ h)⟩
  have ht : togS (colS (Mk s r) s) (colR (Mk s r) s r).cs = ((togS s r.cs).1.map (reM s r), (togS s r.cs).2) := tog_map r.cs 1 fun c h => (getS_col hok (hgood c h)).1
  have hin : ∀ t ∈ (togS s r.cs).1, inV (vaM s r) t := tog_all r.cs 1 fun c h h0 => (getS_col hok (hgood c h)).2 h0
  have hno : ∀ t ∈ (togS s r.cs).1, nodesT t = true := tog_all r.cs 1 fun c h h0 => by
    have := getS_valid hv c
    simp only [validT, Bool.and_eq_true] at this
    exact this.2
  have hsz := tog_sz (getS s) r.cs 1 (by decide)
  have hval : validT (liT (togS s r.cs).1 nilT) = true := by
    simp only [validT, Bool.and_eq_true, decide_eq_true_eq]
    refine ⟨?_, liT_nodes _ hno⟩
    rw [liT_sz]
    exact hsz
  have hl : r.cs.length = (colR (Mk s r) s r).cs.length := (List.length_map ..).symm
  have hcs := vr_len hv
  unfold alkB
  rw [ht]
  simp only [← liT_map, hl, decide_true, Bool.true_and]
  exact var_map hval (liT_in _ hin) rnV_inj (rnV_rng hcs)
end
theorem alk_at {a b : So} {l m : List Ce} (ha : validR a = true) (hb : validR b = true) : gAlk [eS a, eS b, .r (l.map eC), .r (m.map eC)] = some [.b (alkB a b l m)] := by
  simp only [gAlk, dRC, rs_r, map_id' dC_eC, dS_eS, ha, hb, Bool.and_self, if_true]
theorem law_GcTerms : FOk q1t fun _ => some [.b true] := fok_law34_GcTerms ok_law34_small ok_gc_Valid ok_law34_awake ok_cells_Clone ok_ref34_Clone ok_gc_Collect ok_law34_alike fun ds outs hw hg => by
  obtain ⟨s, r, rfl, hs, hr⟩ := sr_of hw
  injection hg with hg
  subst hg
  have h1 := clone_at hs
  have h2 := rclone_at r
  have h3 := valid_at validP vcP s r
  rw [okR_eq] at h3
  have h7 := small_at s r
  cases hsm : smallB s r with
  | false =>
    rw [hsm] at h7
    simp [q1w, q00, go_br, q01, allSay, X.says, X.ev, X.evs, evl, tblS, h7, gYesA, D.tt]
  | true =>
  rw [hsm] at h7
  cases hok : okR validR vcR s r with
  | false =>
    rw [hok] at h3
    simp [q1w, q00, go_br, q01, allSay, X.says, X.ev, X.evs, evl, tblS, h3, h7, gYesA, D.tt]
  | true =>
  rw [hok] at h3
  have hc : GcQ s r := ⟨hok, hsm⟩
  have h9 := col_at hc
  have h10 := alk_at (l := r.cs) (m := (colR (Mk s r) s r).cs) (okR_parts hok).1 (vr_col hok)
  rw [alk_col hc] at h10
  have e1 := eR_0 r
  have e2 := eR_0 (colR (Mk s r) s r)
  generalize colS (Mk s r) s = A at *
  generalize colR (Mk s r) s r = P at *
  simp [q1w, q00, go_br, q01, allSay, X.says, X.ev, X.evs, evl, tblS, h1, h2, h3, h7, h9, h10, e1, e2, gYesA, D.tt]
end Go.Proofs.Ytmebmpgffhajbaa


namespace Go.Proofs.Ytmebmpgffhajbaa
open Go.ChangeShapes Go.WideShapes Go.ChangeAt Go.RowKit
set_option linter.unusedVariables false
set_option maxRecDepth 100000

theorem own_knobD : ownKnob Try.prog.godebug = none := by kernel_rfl
theorem laid_outD : laidOutB Try.prog = true := by kernel_rfl

section
variable {H : Type} {enc : TypeId × Value → H} {W : World} {base : Nat} {spare : Nat → Bool} {held : Bool}

def LightD (t : TypeId) (d : DataW H) : Prop := ∀ n ∈ d.weights Try.prog t, n ≤ reachBytes

theorem weightsAll_memD {e : TypeId} : ∀ {l : List (DataW H)} {d : DataW H}, d ∈ l → ∀ n ∈ d.weights Try.prog e, n ∈ DataW.weightsAll Try.prog e l
  | [], _, h, _, _ => by cases h
  | x :: l, d, h, n, hn => by
    simp only [DataW.weightsAll, List.mem_append]
    rcases List.mem_cons.1 h with rfl | h
    · exact .inl hn
    · exact .inr (weightsAll_memD h n hn)

theorem LightD.each {ts : List TypeId} {l : List (DataW H)} {k : Nat} {t : TypeId} {d : DataW H} (h : ∀ n ∈ DataW.weightsEach Try.prog ts l, n ≤ reachBytes) (ht : ts[k]? = some t) (hd : l[k]? = some d) : LightD t d := fun n hn =>
  h n (DataW.weights_mem_each ht hd n hn)

theorem reach_eqD : reachBytes = LIM := rfl

theorem cells_w {T : TypeId} {t : Ty} (h : tyOf T = some t) : Try.prog.cellsOf T = t.w := by
  obtain ⟨i, hi, h1, -⟩ := row_info h
  simp [Program.cellsOf, hi, h1]

theorem rng_wf {k : IntKind} {t : TypeId} (ht : tyOf t = some (.int k)) {n : Int} (h : (Lit.int k n).wf = true) : rngB k n = true := by
  have h0 := (row_int ht).2.1
  cases k <;> first | (simp [rngB] at h0; done) | (simp [Lit.wf, IntKind.min, IntKind.max, IntKind.signed, IntKind.bits] at h; simp [rngB]; omega)

theorem spot_noneD {a : Addr} {v : Value} (h : W.cell? a = some v) : a.spot = none := by
  unfold World.cell? at h
  split at h
  · split at h
    · cases h
    · rename_i hs; simpa using hs
  · cases h

theorem rdF_of {F : Nat → Prop} {cs : List Value} : ∀ {fl : List Field} {fs : List Ty} {o : Nat}, fieldsB fl fs o = true → (∀ (j : Nat) (f : Field) (t : Ty), fl[j]? = some f → fs[j]? = some t → ∃ y, Rd W F y t ((cs.drop f.offset).take t.w)) → cs.length = o + widths fs → ∃ ds, RdF W F ds fs (cs.drop o)
  | [], [], o, _, _, hl => by
    simp [widths] at hl
    exact ⟨[], rfl, by rw [List.drop_eq_nil_iff]; omega⟩
  | f :: l, t :: ts, o, hb, hf, hl => by
    simp only [fieldsB, Bool.and_eq_true] at hb
    obtain ⟨⟨⟨h1, -⟩, -⟩, h3⟩ := hb
    have ho := Nat.eq_of_beq_eq_true h1
    rw [widths_cons] at hl
    obtain ⟨ds, hds⟩ := rdF_of h3 (fun j f' t' hj ht => hf (j + 1) f' t' (by simpa using hj) (by simpa using ht)) (by omega)
    obtain ⟨y, hy⟩ := hf 0 f t rfl rfl
    refine ⟨y :: ds, t, ts, (cs.drop o).take t.w, cs.drop (o + t.w), rfl, ?_, by rw [← ho]; exact hy, hds⟩
    rw [← List.drop_drop, List.take_append_drop]
  | [], _ :: _, o, hb, _, _ => by cases hb
  | _ :: _, [], o, hb, _, _ => by cases hb

theorem open_recD : ∀ (fuel : Nat) {T : TypeId} {t : Ty} (cs : List Value) (x : DataW H × List MemPlace), tyOf T = some t → isMp t = false → DataW.trod enc Try.prog W base spare held fuel T cs = some x → LightD T x.1 → ∃ y, Rd W (fun _ => True) y t cs := by
  intro fuel
  induction fuel with
  | zero => intro T t cs x _ _ h; simp [DataW.trod] at h
  | succ fuel ih =>
    intro T t cs x hT hM h hL
    cases t with
    | map K V => cases hM
    | int k =>
      obtain ⟨n, rfl, -, hw⟩ := DataW.trod_int (row_int hT).1 h
      exact ⟨.i n, k, rfl, rfl, rng_wf hT hw⟩
    | bool =>
      obtain ⟨b, rfl, -⟩ := DataW.trod_bool (row_bool hT).1 h
      exact ⟨.b b, rfl, rfl⟩
    | str =>
      obtain ⟨s, rfl, rfl, -⟩ := DataW.trod_string (row_str hT).1 h
      have := hL s.data.toList.length (by simp [DataW.weights])
      exact ⟨.s s, rfl, rfl, by rw [reach_eqD] at this; simpa using this⟩
    | st S =>
      obtain ⟨fields, fs, zc, i, hu, hfs, hfb, hi, hsz, -, -, -, -⟩ := row_st hT
      obtain ⟨xs, n, hn, hx, hlen, hxl, hf⟩ := DataW.trod_struct hu h
      obtain rfl : fuel = n := by omega
      have hw : ∀ n ∈ DataW.weightsEach Try.prog (fields.toList.map (·.type)) (xs.map (·.1)), n ≤ reachBytes := fun n hn => hL n (by rw [hx]; simp only [DataW.weights, hu]; exact hn)
      have hcl : cs.length = 0 + widths fs := by rw [hlen, cells_w hT, (fld_okD hfs).1]; omega
      obtain ⟨ds, hds⟩ := rdF_of (W := W) (F := fun _ => True) hfb (fun j f t hj ht => by
        obtain ⟨f', hf', ho, hty, -⟩ := fieldsB_get hfb ht
        obtain rfl := Option.some.inj (hj.symm.trans hf')
        have h5 := hf j f (by rw [← Array.getElem?_toList]; exact hj)
        have hjl : j < fields.toList.length := (List.getElem?_eq_some_iff.1 hj).1
        have hjx : j < xs.length := by rw [hxl]; simpa using hjl
        rw [cells_w hty, List.getElem?_eq_getElem hjx] at h5
        refine ih _ _ hty (fld_noM hfs (List.mem_of_getElem? ht)) h5 (LightD.each (k := j) hw ?_ ?_)
        · rw [List.getElem?_map, hj]; rfl
        · rw [List.getElem?_map, List.getElem?_eq_getElem hjx]; rfl) hcl
      exact ⟨.a ds, S, fs, rfl, hfs, by simpa using hds⟩
    | row E =>
      obtain ⟨hu, ⟨te, hte⟩, -⟩ := row_row hT
      rcases DataW.trod_slice hu h with ⟨rfl, hx⟩ | ⟨a, len, cap, elems, rest, n, hn, rfl, hx, hb, hl, hm, hlen, hel, -⟩
      · exact ⟨.r [], E, te, none, 0, rfl, hte, rfl, by simp, by simp, by simp [maxLen], by simp [RdE]⟩
      · obtain rfl : fuel = n := by omega
        have hwd := tyOf_pos hte
        rw [cells_w hte] at hel
        have hw := hL
        rw [hx] at hw
        simp only [LightD, DataW.weights, hu, List.mem_cons, List.mem_append] at hw
        have hlen2 : len ≤ LM te := by
          have := hw _ (.inl rfl)
          rw [reach_eqD] at this
          have hbe : Try.prog.bytesOf E = te.by := by
            obtain ⟨i, hi, -⟩ := row_info hte
            simp [Program.bytesOf, hi, row_bytes hte hi]
          refine (Nat.le_div_iff_mul_le (by_pos hte).1).2 ?_
          simp [hbe] at this
          have h2 : len * te.by ≤ (elems.length + rest.length) * te.by := Nat.mul_le_mul_right _ (by omega)
          exact Nat.le_trans h2 this
        have spot : 0 < len → a.spot = none := fun h0 => by
          have h2 := hel 0 h0
          rw [List.getElem?_eq_getElem (by omega)] at h2
          cases hc0 : W.cells? base (a.add (0 * te.w)) te.w with
          | none => rw [hc0] at h2; cases h2
          | some cs0 =>
            obtain ⟨_, hcl0, hat0⟩ := World.cells?_some hc0
            have hp : 0 < cs0.length := by omega
            have := hat0 0 (by omega)
            rw [List.getElem?_eq_getElem hp] at this
            exact spot_noneD (a := a) (v := cs0[0]) (by simpa [Addr.add] using this)
        have each : ∀ i, i < len → ∃ y, RdEl W (fun _ => True) y te (some a) i := fun i hi => by
          have h1 := hel i hi
          rw [List.getElem?_eq_getElem (by omega)] at h1
          cases hc : W.cells? base (a.add (i * te.w)) te.w with
          | none => rw [hc] at h1; cases h1
          | some cs' =>
            rw [hc] at h1
            obtain ⟨_, hcl, hat⟩ := World.cells?_some hc
            obtain ⟨y, hy⟩ := ih cs' _ hte (row_noM hT hte) h1 (fun n hn => hw n (.inr (.inl (weightsAll_memD (List.mem_map.2 ⟨_, List.getElem_mem (by omega), rfl⟩) n hn))))
            have hsp := spot (by omega)
            obtain ⟨b, o, sp⟩ := a
            obtain rfl : sp = none := hsp
            have add : ∀ k, (Addr.add ⟨b, o, none⟩ (i * te.w)).add k = ⟨b, o + i * te.w + k, none⟩ := fun k => by
              unfold Addr.add
              split <;> split <;> simp <;> omega
            refine ⟨y, b, o, cs', rfl, trivial, fun j v hj => ?_, hy⟩
            have hj' := (List.getElem?_eq_some_iff.1 hj).1
            have := hat j (by omega)
            rw [add, hj] at this
            exact this
        have pick : ∀ n, n ≤ len → ∃ l : List D, l.length = n ∧ ∀ i (h : i < l.length), RdEl W (fun _ => True) l[i] te (some a) i := by
          intro n
          induction n with
          | zero => exact fun _ => ⟨[], rfl, fun i hi => by simp at hi⟩
          | succ n ihn =>
            intro hn
            obtain ⟨l, hl1, hl2⟩ := ihn (by omega)
            obtain ⟨t, ht⟩ := each n (by omega)
            refine ⟨l ++ [t], by simp [hl1], fun i hi => ?_⟩
            by_cases hin : i < l.length
            · rw [List.getElem_append_left hin]; exact hl2 i hin
            · obtain rfl : i = l.length := by simp at hi; omega
              rw [List.getElem_append_right (by omega)]
              simp [hl1]
              exact ht
        obtain ⟨l, hl1, hl2⟩ := pick len (Nat.le_refl _)
        exact ⟨.r l, E, te, some a, cap, rfl, hte, by rw [hl1], by omega, by omega, hm, rdE_iff.2 fun j hj => by rw [Nat.zero_add]; exact hl2 j hj⟩

theorem open_D {T : TypeId} {t : Ty} (hT : tyOf T = some t) (hM : isMp t = false) {v : Value} {d : DataW H} {p : List MemPlace} {b0 : Nat} {r : Reach} (hv : Value.okWide Try.prog W r b0 T v) (h : DataW.Trod enc Try.prog W base spare held T v d p) (hL : LightD T d) :
    ∃ x cs, Pack t cs v ∧ Rd W (fun b => b < W.heap.size) x t cs := by
  obtain ⟨fuel, hf⟩ := h
  obtain ⟨y, hy⟩ := open_recD fuel _ _ hT hM hf hL
  refine ⟨y, v.cells.toList, ?_, Rd.keeps (fun b o _ ho => ⟨ho, lt_of_heap ho⟩) _ hy⟩
  cases t with
  | int k => obtain ⟨n, rfl⟩ := okWide_int (row_int hT).1 hv; rfl
  | bool => obtain ⟨n, rfl⟩ := okWide_bool (row_bool hT).1 hv; rfl
  | str => obtain ⟨n, rfl⟩ := okWide_string (row_str hT).1 hv; rfl
  | map K V => cases hM
  | row E => obtain ⟨A, l, c, rfl⟩ := okWide_slice (row_row hT).1 hv; rfl
  | st S =>
    obtain ⟨fields, fs, zc, i, hu, -⟩ := row_st hT
    obtain ⟨cs, rfl, -⟩ := okWide_struct hu hv
    simp [Pack, Value.cells]
end

def ArgsV (W : World) : List Ar → List Value → List D → Prop
  | [], vs, ds => vs = [] ∧ ds = []
  | .val t :: l, vs, ds => ∃ v r d ds', vs = v :: r ∧ ds = d :: ds' ∧ (∃ cs, Pack t cs v ∧ Rd W (FFD (fun _ => True) (fun _ => none) []) d t cs) ∧ ArgsV W l r ds'
  | _ :: _, _, _ => False
theorem ArgsV.ok {W : World} {V : List Value} : ∀ {i : Nat} {ar : List Ar} {vs : List Value} {ds : List D}, ArgsV W ar vs ds → ArgsOk V (fun _ => True) (fun _ => none) W (idx i ar) vs ds ∧ vs.length = ar.length
  | _, [], vs, ds, h => ⟨h, by rw [h.1]; rfl⟩
  | i, .val t :: l, vs, ds, ⟨v, r, d, ds', e1, e2, h1, h⟩ => by
    obtain ⟨h2, h3⟩ := ArgsV.ok (V := V) (i := i + 1) h
    exact ⟨⟨v, r, d, ds', e1, e2, h1, h2⟩, by rw [e1]; simp [h3]⟩
  | _, .ref _ :: _, _, _, h => h.elim
  | _, .rref _ :: _, _, _, h => h.elim
  | _, .own _ :: _, _, _, h => h.elim
  | _, .mref _ :: _, _, _, h => h.elim
  | _, .nils :: _, _, _, h => h.elim
  | _, .nilp :: _, _, _, h => h.elim
  | _, .fn _ _ :: _, _, _, h => h.elim
  | _, .cell _ _ :: _, _, _, h => h.elim
theorem law_calls {ct : Ct} {g : List D → Option (List D)} (h : FOk ct g) (hrs : ct.rs = [(.bool, false)]) (hvr : ct.vr = []) {W : World} {vs : List Value} {ds : List D} (ha : ArgsV W ct.ar vs ds) (hg : g ds = some [.b true]) :
    Calls Try.prog ct.f vs.toArray W fun e W' => e = .returned (.bool true) ∧ But Nil W W' := by
  obtain ⟨h1, h2⟩ := ArgsV.ok (V := vs ++ []) (i := 0) ha
  refine (h.call (fun _ => True) (fun _ => none) W vs [] ds _ hg (by constructor <;> simp) h2 (by simpa [Ct.all, hvr, idx] using h1)).mono ?_
  rintro e W' (⟨T, -, ho, -⟩ | ⟨rs, p', rfl, hb, hr, -⟩)
  · cases ho
  rw [hrs] at hr
  obtain ⟨v, r, d, ds', rfl, hd, ⟨cs, hp, hc⟩, rfl⟩ := hr
  simp at hd
  obtain ⟨rfl, rfl⟩ := hd
  obtain ⟨e1, e2⟩ : D.b true = .b true ∧ cs = [.bool true] := ⟨rfl, by
    have hc' : Rd W' (FFD (fun _ => True) p' []) (.b true) .bool cs := hc
    exact hc'.2⟩
  subst e2
  have hpv : [Value.bool true] = [v] := hp
  injection hpv with hpv
  subst hpv
  exact ⟨rfl, hb.but.mono fun i hi _ => by obtain ⟨x, hx⟩ := hi; cases hx⟩
end Go.Proofs.Ytmebmpgffhajbaa

