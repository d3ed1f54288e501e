/-
  term.Valid, and the reference's Count, Size, node, nodes, Valid: the walks.
-/
import Derived.Test.YtloekfnlidclcaaFi
namespace Go.Proofs.Ytloekfnlidclcaa
open Go.RowKit
set_option linter.unusedVariables false

/-- A term is valid. -/
def validT (t : Tm) : Bool := decide (sizeT t ≤ 2000) && fitsT t

mutual
def cntT : Tm → Int → Int
  | .mk _ _ _ l, m => cntL l 1 m
def cntL : List Tm → Int → Int → Int
  | [], n, _ => n
  | t :: l, n, m => if n < m then cntL l (n + cntT t (m - n)) m else n
end

theorem left_cnt (t : Tm) : ∀ x, 0 < x → leftT t x = x - cntT t x := by
  induction t using Tm.ind with
  | h k n s l ih =>
    intro x hx
    have : ∀ (l : List Tm), (∀ a ∈ l, ∀ x, 0 < x → leftT a x = x - cntT a x) → ∀ n m, leftL l (m - n) = m - cntL l n m := by
      intro l
      induction l with
      | nil => intro _ n m; simp [leftL, cntL]
      | cons t l ihl =>
        intro h n m
        simp only [leftL, cntL]
        by_cases hlt : n < m
        · rw [if_pos (by omega), if_pos hlt, h t (by simp) _ (by omega), ← ihl (fun a ha => h a (by simp [ha])) _ m]
          congr 1
          omega
        · rw [if_neg (by omega), if_neg hlt]
    simp only [leftT, cntT]
    exact this l ih 1 x

theorem size_cnt (t : Tm) : cntT t 2001 = sizeT t := by
  have := left_cnt t 2001 (by omega)
  unfold sizeT
  omega

theorem cnt_bd (t : Tm) (m : Int) (hm : 0 < m) : 1 ≤ cntT t m ∧ cntT t m ≤ m := by
  have h1 := left_cnt t m hm
  have h2 := left_bd t m hm
  omega

theorem cntL_drop {l : List Tm} {j : Nat} (hj : j < l.length) {n m : Int} (hn : n < m) : cntL (l.drop j) n m = cntL (l.drop (j + 1)) (n + cntT l[j] (m - n)) m := by
  rw [List.drop_eq_getElem_cons hj]
  simp [cntL, hn]

theorem cntL_stop (l : List Tm) {n m : Int} (hn : ¬ n < m) : cntL l n m = n := by
  cases l <;> simp [cntL, hn]

set_option maxHeartbeats 400000 in
theorem valid_any (t : Tm) (w : World) (v : Value) (h : TmAt w w.heap.size t v) :
    Calls Try.prog 61 #[v] w fun e w' => e = .returned (.bool (validT t)) ∧ But Nil w w' := by
  have h' := h
  cases t with
  | mk k n s l =>
  unfold TmAt TmIn at h'
  obtain ⟨A, len, cap, rfl, h1, h2, h3, rfl, h5, h6, -, h7⟩ := h'
  have hk1 : But Nil w (w.alloc (.cells #[.int .i64 k, .int .i64 n, .string s, .slice A l.length cap] 24)) := (But.refl _ _).alloc _
  go_enter Try.func61, Try.ntmps61
  go_wp2_with fail
  refine (size_any (.mk k n s l) _ _ (TmAt.keeps hk1.size hk1.keeps_nil _ h)).mono ?_
  rintro e w1 ⟨rfl, hb1⟩
  have hk2 := hk1.trans_nil hb1
  obtain ⟨p0, p1, p2, p3⟩ := new4 hb1 id
  by_cases hs : sizeT (.mk k n s l) ≤ 2000
  · go_wp2_with fail
    refine (fits_any (.mk k n s l) _ _ (TmAt.keeps hk2.size hk2.keeps_nil _ h)).mono ?_
    rintro e w2 ⟨rfl, hb2⟩
    have hk3 := hk2.trans_nil hb2
    go_wp2_with fail
    go_ret
    exact ⟨by simp [validT, hs], hk3⟩
  · have hd : decide (sizeT (.mk k n s l) ≤ 2000) = false := by simpa using hs
    go_wp2_with fail
    go_ret
    exact ⟨by simp [validT]; omega, hk2⟩

set_option maxHeartbeats 400000 in
theorem count_any (t : Tm) : ∀ (w : World) (v : Value) (m : Int), TmAt w w.heap.size t v → 0 < m → m ≤ 2001 →
    Calls Try.prog 65 #[v, .int .i64 m] w fun e w' => e = .returned (.int .i64 (cntT t m)) ∧ But Nil w w' := by
  induction t using Tm.ind with
  | h k n s l ih =>
  intro w v m hv hm hm2
  unfold TmAt TmIn at hv
  obtain ⟨A, len, cap, rfl, h1, h2, h3, rfl, h5, h6, -, h7⟩ := hv
  have IH := Lib.hid ih
  clear ih
  go_enter Try.func65, Try.ntmps65
  go_wp2_with fail
  go_loopw [5, 6] (fun c i wr => ∃ (j : Nat) (y : Int), j ≤ l.length ∧ i = .int .i64 j ∧ c = .int .i64 y ∧ 1 ≤ y ∧ y ≤ m ∧ cntL (l.drop j) y m = cntL l 1 m ∧ But Nil w wr ∧
      wr.cell? ⟨w.heap.size, 3, none⟩ = some (.slice A l.length cap)) (fun _ i _ => l.length - (intOf i).toNat)
  case atStart => exact ⟨0, 1, by omega, rfl, rfl, by omega, by omega, by simp, (But.refl _ _).alloc _, cell_of_row _ _ 3 _ _ (0, 0) (heap_alloc_new _ _)⟩
  case round =>
    obtain ⟨j, y, hj, rfl, rfl, hy1, hy2, hcnt, hbut, hpar⟩ := hrel
    have Hcnt := Lib.hid hcnt
    clear hcnt
    by_cases hjl : j < l.length
    · by_cases hy : y < m
      · obtain ⟨b, o, c0, c1, c2, c3, rfl, hb, e0, e1, e2, e3, ht⟩ := argsIn_iff.1 h7 j hjl
        simp only [Nat.zero_add] at e0 e1 e2 e3
        have g0 := hbut.cell id e0
        have g1 := hbut.cell id e1
        have g2 := hbut.cell id e2
        have g3 := hbut.cell id e3
        clear e0 e1 e2 e3
        go_wp2_with fail
        refine (IH.out _ (List.getElem_mem hjl) wr _ _ (TmAt.keeps hbut.size hbut.keeps_nil _ ht) (by omega) (by omega)).mono ?_
        rintro e w1 ⟨rfl, hb1⟩
        have hbut1 := hbut.trans_nil hb1
        have hpar1 := hb1.cell id hpar
        have hbd := cnt_bd l[j] (m - y) (by omega)
        go_wp2_with fail
        go_roundw
        case rel => exact ⟨j + 1, _, by omega, by go_num, rfl, by omega, by omega, by rw [← cntL_drop hjl hy]; exact Hcnt.out, hbut1, hpar1⟩
        case measure => simp [intOf]; omega
      · go_wp2_with fail
        go_ret
        exact ⟨ret_int (by simp only [cntT, ← Hcnt.out]; rw [cntL_stop _ (by omega)]), hbut⟩
    · go_wp2_with fail
      go_ret
      exact ⟨ret_int (by simp only [cntT, ← Hcnt.out]; rw [List.drop_eq_nil_of_le (by omega)]; simp [cntL]), hbut⟩

set_option maxHeartbeats 400000 in
theorem rsize_any (t : Tm) (w : World) (v : Value) (h : TmAt w w.heap.size t v) :
    Calls Try.prog 21 #[v] w fun e w' => e = .returned (.int .i64 (sizeT t)) ∧ But Nil w w' := by
  have h' := h
  cases t with
  | mk k n s l =>
  unfold TmAt TmIn at h'
  obtain ⟨A, len, cap, rfl, h1, h2, h3, rfl, h5, h6, -, h7⟩ := h'
  have hk1 : But Nil w (w.alloc (.cells #[.int .i64 k, .int .i64 n, .string s, .slice A l.length cap] 24)) := (But.refl _ _).alloc _
  go_enter Try.func21, Try.ntmps21
  go_wp2_with fail
  refine (count_any (.mk k n s l) _ _ _ (TmAt.keeps hk1.size hk1.keeps_nil _ h) (by omega) (by omega)).mono ?_
  rintro e w1 ⟨rfl, hb1⟩
  have hk2 := hk1.trans_nil hb1
  go_wp2_with fail
  go_ret
  exact ⟨ret_int (by rw [size_cnt]), hk2⟩

set_option maxRecDepth 100000 in
set_option maxHeartbeats 400000 in
theorem node_any (t : Tm) (w : World) (v : Value) (h : TmAt w w.heap.size t v) :
    Calls Try.prog 84 #[v] w fun e w' => e = .returned (.bool (nodeB t)) ∧ But Nil w w' := by
  cases t with
  | mk k n s l =>
  unfold TmAt TmIn at h
  obtain ⟨A, len, cap, rfl, h1, h2, h3, rfl, h5, h6, -, h7⟩ := h
  clear h7 h1 h2 h5
  have hk1 : But Nil w (w.alloc (.cells #[.int .i64 k, .int .i64 n, .string s, .slice A l.length cap] 24)) := (But.refl _ _).alloc _
  by_cases hn : n = 0
  · subst hn
    go_enter Try.func84, Try.ntmps84
    go_wp2_with fail
    all_goals go_ret
    all_goals refine ⟨?_, hk1⟩
    all_goals first | (simp_all [nodeB]; done) | (simp_all [nodeB]; omega)
  · have hn' : (n == 0) = false := by simpa using hn
    clear hn
    go_enter Try.func84, Try.ntmps84
    go_wp2_with fail
    all_goals go_ret
    all_goals refine ⟨?_, hk1⟩
    all_goals first | (simp_all [nodeB]; done) | (simp_all [nodeB]; omega)

set_option maxHeartbeats 400000 in
theorem nodes_any (t : Tm) : ∀ (w : World) (v : Value), TmAt w w.heap.size t v →
    Calls Try.prog 66 #[v] w fun e w' => e = .returned (.bool (fitsT t)) ∧ But Nil w w' := by
  induction t using Tm.ind with
  | h k n s l ih =>
  intro w v hv
  have hv' := hv
  unfold TmAt TmIn at hv
  obtain ⟨A, len, cap, rfl, h1, h2, h3, rfl, h5, h6, -, h7⟩ := hv
  have IH := Lib.hid ih
  clear ih
  have hk1 : But Nil w (w.alloc (.cells #[.int .i64 k, .int .i64 n, .string s, .slice A l.length cap] 24)) := (But.refl _ _).alloc _
  go_enter Try.func66, Try.ntmps66
  go_wp2_with fail
  refine (node_any (.mk k n s l) _ _ (TmAt.keeps hk1.size hk1.keeps_nil _ hv')).mono ?_
  rintro e w1 ⟨rfl, hb1⟩
  have hk2 := hk1.trans_nil hb1
  have p3 := hb1.cell id (cell_of_row _ _ 3 _ _ (0, 0) (heap_alloc_new w (.cells #[.int .i64 k, .int .i64 n, .string s, .slice A l.length cap] 24)))
  cases hnode : nodeB (.mk k n s l)
  · have Hn := Lib.hid hnode
    clear hnode
    go_wp2_with fail
    go_ret
    exact ⟨by simp [fitsT, Hn.out], hk2⟩
  · have Hn := Lib.hid hnode
    clear hnode
    go_wp2_with fail
    go_loopw [3] (fun i wr => ∃ (j : Nat), j ≤ l.length ∧ i = .int .i64 j ∧ fitsL (l.drop j) = fitsT (.mk k n s l) ∧ But Nil w wr ∧
        wr.cell? ⟨w.heap.size, 3, none⟩ = some (.slice A l.length cap)) (fun i _ => l.length - (intOf i).toNat)
    case atStart => exact ⟨0, by omega, rfl, by simp [fitsT, Hn.out], hk2, p3⟩
    case round =>
      obtain ⟨j, hj, rfl, hfit, hbut, hpar⟩ := hrel
      have Hfit := Lib.hid hfit
      clear hfit
      by_cases hjl : j < l.length
      · obtain ⟨b, o, c0, c1, c2, c3, rfl, hb, e0, e1, e2, e3, ht⟩ := argsIn_iff.1 h7 j hjl
        simp only [Nat.zero_add] at e0 e1 e2 e3
        have g0 := hbut.cell id e0
        have g1 := hbut.cell id e1
        have g2 := hbut.cell id e2
        have g3 := hbut.cell id e3
        clear e0 e1 e2 e3
        go_wp2_with fail
        refine (IH.out _ (List.getElem_mem hjl) wr _ (TmAt.keeps hbut.size hbut.keeps_nil _ ht)).mono ?_
        rintro e w1 ⟨rfl, hb1⟩
        have hbut1 := hbut.trans_nil hb1
        have hpar1 := hb1.cell id hpar
        cases hf : fitsT l[j]
        · have Hf := Lib.hid hf
          clear hf
          go_wp2_with fail
          go_ret
          exact ⟨by rw [← Hfit.out, List.drop_eq_getElem_cons hjl]; simp [fitsL, Hf.out], hbut1⟩
        · have Hf := Lib.hid hf
          clear hf
          go_wp2_with fail
          go_roundw
          case rel => exact ⟨j + 1, by omega, by go_num, by rw [← Hfit.out, List.drop_eq_getElem_cons hjl]; simp [fitsL, Hf.out], hbut1, hpar1⟩
          case measure => simp [intOf]; omega
      · go_wp2_with fail
        go_ret
        exact ⟨by rw [← Hfit.out, List.drop_eq_nil_of_le (by omega)]; simp [fitsL], hbut⟩

set_option maxHeartbeats 400000 in
theorem rvalid_any (t : Tm) (w : World) (v : Value) (h : TmAt w w.heap.size t v) :
    Calls Try.prog 23 #[v] w fun e w' => e = .returned (.bool (validT t)) ∧ But Nil w w' := by
  have h' := h
  cases t with
  | mk k n s l =>
  unfold TmAt TmIn at h'
  obtain ⟨A, len, cap, rfl, h1, h2, h3, rfl, h5, h6, -, h7⟩ := h'
  have hk1 : But Nil w (w.alloc (.cells #[.int .i64 k, .int .i64 n, .string s, .slice A l.length cap] 24)) := (But.refl _ _).alloc _
  go_enter Try.func23, Try.ntmps23
  go_wp2_with fail
  refine (rsize_any (.mk k n s l) _ _ (TmAt.keeps hk1.size hk1.keeps_nil _ h)).mono ?_
  rintro e w1 ⟨rfl, hb1⟩
  have hk2 := hk1.trans_nil hb1
  obtain ⟨p0, p1, p2, p3⟩ := new4 hb1 id
  by_cases hs : sizeT (.mk k n s l) ≤ 2000
  · go_wp2_with fail
    refine (nodes_any (.mk k n s l) _ _ (TmAt.keeps hk2.size hk2.keeps_nil _ h)).mono ?_
    rintro e w2 ⟨rfl, hb2⟩
    have hk3 := hk2.trans_nil hb2
    go_wp2_with fail
    go_ret
    exact ⟨by simp [validT, hs], hk3⟩
  · have hd : decide (sizeT (.mk k n s l) ≤ 2000) = false := by simpa using hs
    go_wp2_with fail
    go_ret
    exact ⟨by simp [validT]; omega, hk2⟩

end Go.Proofs.Ytloekfnlidclcaa

