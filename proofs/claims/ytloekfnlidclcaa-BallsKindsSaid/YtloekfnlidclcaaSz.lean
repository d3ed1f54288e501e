/-
  term.Size counts the nodes of a term, at most 2001. The walk.
-/
import Derived.Test.YtloekfnlidclcaaTm
import Derived.StillTailTactics
import Derived.Laws.EntriesVeiled
namespace Go.Proofs.Ytloekfnlidclcaa
open Go.RowKit
set_option linter.unusedVariables false

mutual
/-- What is left of a budget behind a term. -/
def leftT : Tm → Int → Int
  | .mk _ _ _ l, x => leftL l (x - 1)
def leftL : List Tm → Int → Int
  | [], x => x
  | t :: l, x => if 0 < x then leftL l (leftT t x) else x
end

theorem left_bd (t : Tm) : ∀ x, 0 < x → 0 ≤ leftT t x ∧ leftT t x < x := by
  induction t using Tm.ind with
  | h k n s l ih =>
    intro x hx
    have : ∀ (l : List Tm), (∀ a ∈ l, ∀ x, 0 < x → 0 ≤ leftT a x ∧ leftT a x < x) → ∀ x, 0 ≤ x → 0 ≤ leftL l x ∧ leftL l x ≤ x := by
      intro l
      induction l with
      | nil => intro _ x hx; simp [leftL]; omega
      | cons t l ihl =>
        intro h x hx
        simp only [leftL]
        split
        · have h1 := h t (by simp) x (by omega)
          have h2 := ihl (fun a ha => h a (by simp [ha])) (leftT t x) (by omega)
          omega
        · omega
    simp only [leftT]
    have := this l ih (x - 1) (by omega)
    omega

theorem leftL_drop {l : List Tm} {j : Nat} (hj : j < l.length) {y : Int} (hy : 0 < y) : leftL (l.drop j) y = leftL (l.drop (j + 1)) (leftT l[j] y) := by
  rw [List.drop_eq_getElem_cons hj]
  simp [leftL, hy]

theorem leftL_stop (l : List Tm) {y : Int} (hy : ¬ 0 < y) : leftL l y = y := by
  cases l <;> simp [leftL, hy]

set_option maxHeartbeats 400000 in
theorem size1_any (t : Tm) : ∀ (w : World) (B : Nat) (v : Value) (x : Int) (L K : Nat), TmAt w B t v → 0 < x → x ≤ 2001 → B ≤ L → ¬ TBlk w L → L ≠ K →
    w.heap[L]? = some (.cells #[.int .i64 x] 3 (0, 0)) → w.cell? ⟨K, 0, none⟩ = some (.func (.func 88) #[] #[.pointer (some ⟨L, 0, none⟩), .pointer (some ⟨K, 0, none⟩)]) →
    Calls Try.prog 88 #[v, .pointer (some ⟨L, 0, none⟩), .pointer (some ⟨K, 0, none⟩)] w fun e w' => e = .returned (.tuple #[]) ∧
      w'.heap[L]? = some (.cells #[.int .i64 (leftT t x)] 3 (0, 0)) ∧ But (· = L) w w' := by
  induction t using Tm.ind with
  | h k n s l ih =>
  intro w B v x L K hv hx hx2 hBL hLT hLK hL hK
  unfold TmAt TmIn at hv
  obtain ⟨A, len, cap, rfl, h1, h2, h3, rfl, h5, h6, -, h7⟩ := hv
  have hLc := cell_of_one hL
  have hLf := free_of_one hL
  have hLl := lt_of_heap hL
  have hKl : K < w.heap.size := lt_of_cell hK
  have IH := Lib.hid ih
  clear ih
  go_enter Try.func88, Try.ntmps88
  go_wp2_with fail
  go_loopw [4] (fun i wr => ∃ (j : Nat) (y : Int), j ≤ l.length ∧ i = .int .i64 j ∧ 0 ≤ y ∧ y ≤ 2000 ∧ wr.heap[L]? = some (.cells #[.int .i64 y] 3 (0, 0)) ∧ leftL (l.drop j) y = leftL l (x - 1) ∧ But (· = L) w wr ∧
      wr.cell? ⟨w.heap.size, 3, none⟩ = some (.slice A l.length cap)) (fun i _ => l.length - (intOf i).toNat)
  case atStart =>
    refine ⟨0, x - 1, by omega, rfl, by omega, by omega, ?_, by simp, ?_, ?_⟩
    · exact (Below.heap_alloc _ _ _ (by simpa [World.setCell] using hLl)).trans (one_setCell hL)
    · exact ((But.refl (· = L) w).setCell (p := ⟨L, 0, none⟩) (.inl rfl) _).alloc _
    · rw [show w.heap.size = (w.setCell ⟨L, 0, none⟩ (Value.int IntKind.i64 (x - 1))).heap.size from by simp [World.setCell]]
      exact cell_of_row _ _ 3 _ _ (0, 0) (heap_alloc_new _ _)
  case round =>
    obtain ⟨j, y, hj, rfl, hy0, hy2, hLr, hleft, hbut, hpar⟩ := hrel
    have hLc' := cell_of_one hLr
    have hLl' := lt_of_heap hLr
    have hKr := hbut.cell (fun e => hLK e.symm) hK
    have Hleft := Lib.hid hleft
    clear hLc hLf hL hleft
    by_cases hjl : j < l.length
    · by_cases hy : 0 < y
      · have ha := argsIn_iff.1 h7 j hjl
        obtain ⟨b, o, c0, c1, c2, c3, rfl, hb, e0, e1, e2, e3, ht⟩ := ha
        simp only [Nat.zero_add] at e0 e1 e2 e3
        have hbL : ¬ (b = L) := fun e => hb.elim (fun h => by omega) (fun h => hLT (e ▸ h))
        have g0 := hbut.cell hbL e0
        have g1 := hbut.cell hbL e1
        have g2 := hbut.cell hbL e2
        have g3 := hbut.cell hbL e3
        have HLT := Lib.hid hLT
        clear e0 e1 e2 e3 hbL hLT
        go_wp2_with fail
        go_still_tail 6, (by kernel_rfl)
        change wpList _ _ _ _ _ wr.drew
        go_wp2_with fail
        have hkp : Keeps B w wr.drew := hbut.drew.keeps fun k hk => by subst hk; exact ⟨hBL, HLT.out⟩
        have hnT : ¬ TBlk wr.drew L := by rintro ⟨c, f, h⟩; rw [show wr.drew.heap[L]? = _ from hLr] at h; cases h
        refine (IH.out _ (List.getElem_mem hjl) wr.drew B _ y L K (TmAt.keeps (Nat.le_refl _) hkp _ ht) hy (by omega) hBL hnT hLK hLr hKr).mono ?_
        rintro e w1 ⟨rfl, hL1, hb1⟩
        have hbut1 := hbut.drew.trans_same hb1
        have hpar1 := hb1.cell (by show ¬ (_ = L); simp; omega) (v := .slice (some ⟨b, o, none⟩) l.length cap) hpar
        have hbd := left_bd l[j] y hy
        have HL1 := Lib.hid hL1
        clear hL1
        go_wp2_with fail
        go_roundw
        case rel => exact ⟨j + 1, leftT l[j] y, by omega, by go_num, by omega, by omega, HL1.out, by rw [← leftL_drop hjl hy]; exact Hleft.out, hbut1, hpar1⟩
        case measure => simp [intOf]; omega
      · go_wp2_with fail
        go_end0
        refine ⟨rfl, ?_, hbut⟩
        rw [hLr]
        have := Hleft.out
        rw [leftL_stop _ (by omega)] at this
        simp only [leftT, this]
    · go_wp2_with fail
      go_end0
      refine ⟨rfl, ?_, hbut⟩
      rw [hLr]
      have := Hleft.out
      rw [List.drop_eq_nil_of_le (by omega)] at this
      simp only [leftL] at this
      simp only [leftT, this]

/-- The size of a term, at most 2001. -/
def sizeT (t : Tm) : Int := 2001 - leftT t 2001

set_option maxHeartbeats 400000 in
theorem size_any (t : Tm) (w : World) (v : Value) (h : TmAt w w.heap.size t v) :
    Calls Try.prog 79 #[v] w fun e w' => e = .returned (.int .i64 (sizeT t)) ∧ But Nil w w' := by
  have h' := h
  cases t with
  | mk k n s l =>
  unfold TmAt TmIn at h'
  obtain ⟨A, len, cap, rfl, h1, h2, h3, rfl, h5, h6, -, h7⟩ := h'
  go_enter Try.func79, Try.ntmps79
  go_wp2_with fail
  have hkp : Keeps w.heap.size w (((w.alloc (.cells #[.int .i64 k, .int .i64 n, .string s, .slice A l.length cap] 24)).alloc (.cells #[.int .i64 2001] 3)).alloc
    (.cells #[.func (.func 88) #[] #[.pointer (some ⟨w.heap.size + 1, 0, none⟩), .pointer (some ⟨w.heap.size + 1 + 1, 0, none⟩)]] 67)) :=
    fun _ _ hk _ => heap_old (heap_old (heap_old hk))
  refine (size1_any (.mk k n s l) _ w.heap.size _ 2001 _ _ (TmAt.keeps (Nat.le_refl _) hkp _ h) (by omega) (by omega) (by omega) ?_ (by omega) (heap_old (heap_new (by simp))) (cell_of_one (heap_new (by simp)))).mono ?_
  · rintro ⟨c, f, hc⟩
    rw [heap_old (heap_new (by simp))] at hc
    cases hc
  rintro e w1 ⟨rfl, hL, hb⟩
  have hLc := cell_of_one hL
  have hbd := left_bd (.mk k n s l) 2001 (by omega)
  clear hL
  go_wp2_with fail
  go_ret
  exact ⟨rfl, ((((But.refl _ _).alloc _).alloc _).alloc _).trans hb fun i hi _ => .inr (by omega)⟩

end Go.Proofs.Ytloekfnlidclcaa

