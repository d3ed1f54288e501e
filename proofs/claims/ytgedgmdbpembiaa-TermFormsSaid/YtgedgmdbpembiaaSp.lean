/-
  The law's spoil: it writes into the rows of the term that it is handed, and nowhere else. No condition.
-/
import Derived.Test.YtgedgmdbpembiaaL11
namespace Go.Proofs.Ytgedgmdbpembiaa
open Go.RowKit
set_option linter.unusedVariables false

/-- The elements of a slice lie at places of R. -/
def Kids (R : Nat → Nat → Prop) (A : Option Addr) (len : Nat) : Prop := len ≤ 140737488351232 ∧ ∀ i, i < len → ∃ b o, A = some ⟨b, o, none⟩ ∧ R b (o + i * 4)

/-- At every place of R lies a term whose elements lie at places of R. -/
def Good (R : Nat → Nat → Prop) (w : World) : Prop := ∀ b o, R b o → OBlk w b ∧ ∃ k n s A len cap, w.cell? ⟨b, o, none⟩ = some (.int .i64 k) ∧ w.cell? ⟨b, o + 1, none⟩ = some (.int .i64 n) ∧
  w.cell? ⟨b, o + 2, none⟩ = some (.string s) ∧ w.cell? ⟨b, o + 3, none⟩ = some (.slice A len cap) ∧ Kids R A len

theorem Good.but {R : Nat → Nat → Prop} {S : Nat → Prop} {w w' : World} (h : Good R w) (hb : But S w w') (hS : ∀ b o, R b o → ¬ S b) : Good R w' := fun b o hR => by
  obtain ⟨h1, k, n, s, A, len, cap, c0, c1, c2, c3, hk⟩ := h b o hR
  have hn := hS b o hR
  exact ⟨h1.but hb hn, k, n, s, A, len, cap, hb.cell (p := ⟨b, o, none⟩) hn c0, hb.cell (p := ⟨b, o + 1, none⟩) hn c1, hb.cell (p := ⟨b, o + 2, none⟩) hn c2, hb.cell (p := ⟨b, o + 3, none⟩) hn c3, hk⟩

/-- A term as spoil leaves it. -/
abbrev spoilAt (w : World) (b o : Nat) : World := (((w.setCell ⟨b, o, none⟩ (.int .i64 7)).setCell ⟨b, o + 1, none⟩ (.int .i64 0)).setCell ⟨b, o + 2, none⟩ (.string ⟨#[]⟩)).setCell ⟨b, o + 3, none⟩ (.slice none 0 0)

theorem spoil_cell {w : World} {b o b' o' : Nat} (h : b' ≠ b ∨ (o' < o ∨ o + 3 < o')) : (spoilAt w b o).cell? ⟨b', o', none⟩ = w.cell? ⟨b', o', none⟩ := by
  have ne : ∀ i, i ≤ 3 → (⟨b, o + i, none⟩ : Addr) ≠ ⟨b', o', none⟩ := fun i hi e => by
    injection e with e1 e2
    omega
  have n0 : (⟨b, o, none⟩ : Addr) ≠ ⟨b', o', none⟩ := ne 0 (by omega)
  unfold spoilAt
  rw [World.cell?_setCell_other _ _ _ _ (ne 3 (by omega)), World.cell?_setCell_other _ _ _ _ (ne 2 (by omega)), World.cell?_setCell_other _ _ _ _ (ne 1 (by omega)), World.cell?_setCell_other _ _ _ _ n0]

theorem OBlk.set {w : World} {b k i : Nat} {u : Value} (h : OBlk w b) : OBlk (w.setCell ⟨k, i, none⟩ u) b := by
  obtain ⟨c, hc⟩ := h
  by_cases hk : b = k
  · subst hk; exact ⟨_, set_blk hc u⟩
  · exact ⟨c, set_ne hc hk⟩

theorem Good.spoil {R : Nat → Nat → Prop} {w : World} (h : Good R w) {b o : Nat} (hR : R b o) : Good R (spoilAt w b o) := fun b' o' hR' => by
  obtain ⟨h1, k, n, s, A, len, cap, c0, c1, c2, c3, hk⟩ := h b' o' hR'
  obtain ⟨g1, k', n', s', A', len', cap', d0, d1, d2, d3, hk'⟩ := h b o hR
  refine ⟨h1.set.set.set.set, ?_⟩
  by_cases hb : b' = b
  · subst hb
    rcases Nat.lt_trichotomy o' o with hlt | rfl | hlt
    · have hfar : o' + 3 < o := by
        rcases Nat.lt_or_ge (o' + 3) o with h | h
        · exact h
        · exfalso
          have : o = o' + 1 ∨ o = o' + 2 ∨ o = o' + 3 := by omega
          rcases this with rfl | rfl | rfl
          · rw [show o' + 1 + 1 = o' + 2 by omega, c2] at d1; cases d1
          · rw [c2] at d0; cases d0
          · rw [c3] at d0; cases d0
      exact ⟨k, n, s, A, len, cap, (spoil_cell (.inr (.inl (by omega)))).trans c0, (spoil_cell (.inr (.inl (by omega)))).trans c1, (spoil_cell (.inr (.inl (by omega)))).trans c2, (spoil_cell (.inr (.inl (by omega)))).trans c3, hk⟩
    · have ne : ∀ i j, i ≠ j → (⟨b', o' + i, none⟩ : Addr) ≠ ⟨b', o' + j, none⟩ := fun i j hij e => by
        injection e with e1 e2
        omega
      have n0 : ∀ i, 0 < i → (⟨b', o' + i, none⟩ : Addr) ≠ ⟨b', o', none⟩ := fun i hi e => by
        injection e with e1 e2
        omega
      have m0 : ∀ i, 0 < i → (⟨b', o', none⟩ : Addr) ≠ ⟨b', o' + i, none⟩ := fun i hi e => by
        injection e with e1 e2
        omega
      refine ⟨7, 0, ⟨#[]⟩, none, 0, 0, ?_, ?_, ?_, ?_, by omega, fun i hi => by omega⟩
      · unfold spoilAt
        rw [World.cell?_setCell_other _ _ _ _ (n0 3 (by omega)), World.cell?_setCell_other _ _ _ _ (n0 2 (by omega)), World.cell?_setCell_other _ _ _ _ (n0 1 (by omega)), World.cell?_setCell_same _ _ _ c0]
      · unfold spoilAt
        rw [World.cell?_setCell_other _ _ _ _ (ne 3 1 (by omega)), World.cell?_setCell_other _ _ _ _ (ne 2 1 (by omega))]
        exact World.cell?_setCell_same _ _ _ (u := .int .i64 n) (by rw [World.cell?_setCell_other _ _ _ _ (m0 1 (by omega))]; exact c1)
      · unfold spoilAt
        rw [World.cell?_setCell_other _ _ _ _ (ne 3 2 (by omega))]
        exact World.cell?_setCell_same _ _ _ (u := .string s) (by rw [World.cell?_setCell_other _ _ _ _ (ne 1 2 (by omega)), World.cell?_setCell_other _ _ _ _ (m0 2 (by omega))]; exact c2)
      · unfold spoilAt
        exact World.cell?_setCell_same _ _ _ (u := .slice A len cap) (by rw [World.cell?_setCell_other _ _ _ _ (ne 2 3 (by omega)), World.cell?_setCell_other _ _ _ _ (ne 1 3 (by omega)), World.cell?_setCell_other _ _ _ _ (m0 3 (by omega))]; exact c3)
    · have hfar : o + 3 < o' := by
        rcases Nat.lt_or_ge (o + 3) o' with h | h
        · exact h
        · exfalso
          have : o' = o + 1 ∨ o' = o + 2 ∨ o' = o + 3 := by omega
          rcases this with rfl | rfl | rfl
          · rw [show o + 1 + 1 = o + 2 by omega, d2] at c1; cases c1
          · rw [d2] at c0; cases c0
          · rw [d3] at c0; cases c0
      exact ⟨k, n, s, A, len, cap, (spoil_cell (.inr (.inr (by omega)))).trans c0, (spoil_cell (.inr (.inr (by omega)))).trans c1, (spoil_cell (.inr (.inr (by omega)))).trans c2, (spoil_cell (.inr (.inr (by omega)))).trans c3, hk⟩
  · exact ⟨k, n, s, A, len, cap, (spoil_cell (.inl hb)).trans c0, (spoil_cell (.inl hb)).trans c1, (spoil_cell (.inl hb)).trans c2, (spoil_cell (.inl hb)).trans c3, hk⟩

/-- The places of a term. -/
def Places (D : Nat → Prop) (w : World) : Nat → Nat → Prop := fun b o => D b ∧ ∃ t c0 c1 c2 c3, w.cell? ⟨b, o, none⟩ = some c0 ∧ w.cell? ⟨b, o + 1, none⟩ = some c1 ∧ w.cell? ⟨b, o + 2, none⟩ = some c2 ∧ w.cell? ⟨b, o + 3, none⟩ = some c3 ∧ TmIn w D t (.agg #[c0, c1, c2, c3])

theorem args_kids {D : Nat → Prop} {w : World} {l : List Tm} {A : Option Addr} (h : ArgsIn w D l A 0) (hl : l.length ≤ 140737488351232) : Kids (Places D w) A l.length := by
  refine ⟨hl, fun i hi => ?_⟩
  obtain ⟨b, o, c0, c1, c2, c3, rfl, hb, e0, e1, e2, e3, ht⟩ := argsIn_iff.1 h i hi
  rw [Nat.zero_add] at e0 e1 e2 e3
  exact ⟨b, o, rfl, hb, _, c0, c1, c2, c3, e0, e1, e2, e3, ht⟩

theorem places_good {D : Nat → Prop} {w : World} (hD : ∀ b, D b → OBlk w b) : Good (Places D w) w := fun b o ⟨hb, t, c0, c1, c2, c3, e0, e1, e2, e3, ht⟩ => by
  obtain ⟨A, cap, e, -, -, -, h1, h2, h3, h4⟩ := ht.form
  simp only [Value.agg.injEq, Array.mk.injEq, List.cons.injEq, and_true] at e
  obtain ⟨rfl, rfl, rfl, rfl⟩ := e
  exact ⟨hD b hb, _, _, _, A, _, cap, e0, e1, e2, e3, args_kids h4 h2⟩

theorem spoil_end {a : Act} {w : World} {R : Ending → World → Prop} (h : a.defers = []) (hR : R (.returned (.tuple #[])) w) : bodyPost Try.prog Try.f30 R Exit.normal a w := by
  have : bodyPost Try.prog Try.f30 R Exit.ret a w := bodyPost_ret (v := .tuple #[]) (by simp [results, Try.results30]) h hR
  exact this

set_option maxHeartbeats 2000000 in
theorem spoil_any (R : Nat → Nat → Prop) (D : Nat → Prop) (hRD : ∀ b o, R b o → D b) : ∀ (m : Nat) (w : World) (k n : Int) (s : ByteArray) (A : Option Addr) (len cap : Nat), m ≤ 1000 → Good R w → Kids R A len → (∀ b, D b → b < w.heap.size) →
    Calls Try.prog 30 #[.agg #[.int .i64 k, .int .i64 n, .string s, .slice A len cap], .int .i64 m] w fun e w' => (∃ u, e = .returned u) ∧ But D w w' ∧ Good R w' := by
  intro m
  induction m using Nat.strongRecOn with
  | ind m ih =>
  intro w k n s A len cap hm hG hK hDw
  have IH := Lib.hid ih
  have HG := Lib.hid hG
  have HK := Lib.hid hK
  have hlen := hK.1
  clear ih hG hK
  have hnb : ¬ D w.heap.size := fun h => by have := hDw _ h; omega
  go_enter Try.func30, Try.ntmps30
  go_wp2_with fail
  go_loopw [1, 4] (fun q i wr => ∃ (j q' : Nat), q = .int .i64 q' ∧ i = .int .i64 j ∧ q' ≤ m ∧ j ≤ len ∧ wr.heap[w.heap.size]? = some (.cells #[.int .i64 k, .int .i64 n, .string s, .slice A len cap] 24 (0, 0)) ∧ But D w wr ∧ Good R wr) (fun q i _ => len - (intOf i).toNat)
  case atStart => exact ⟨0, m, rfl, rfl, Nat.le_refl _, by omega, heap_new rfl, (But.refl _ _).alloc _, HG.out.but ((But.refl Nil _).alloc _) fun _ _ _ h => h⟩
  case round =>
    obtain ⟨j, q, rfl, rfl, hq, hj, hblk, hbut, hgood⟩ := hrel
    obtain ⟨x0, x1, x2, x3⟩ := blk4 hblk
    by_cases hjl : j < len
    · by_cases hq0 : 0 < q
      · have d1 : decide ((0 : Int) < (q : Int)) = true := by simp; omega
        obtain ⟨b, o, rfl, hR⟩ := HK.out.2 j hjl
        obtain ⟨hob, k2, n2, s2, A2, len2, cap2, e0, e1, e2, e3, hk2⟩ := hgood b (o + j * 4) hR
        have Hgood := Lib.hid hgood
        have Hblk := Lib.hid hblk
        have hDb := hRD _ _ hR
        have hbl := hDw _ hDb
        have hws := hbut.size
        clear hgood hblk hob
        have hq1 : ((q - 1 : Nat) : Int) = (q : Int) - 1 := by omega
        go_wp2_with fail
        have hcall := IH.out (q - 1) (by omega) wr k2 n2 s2 A2 len2 cap2 (by omega) Hgood.out hk2 (fun b h => by have := hDw b h; omega)
        rw [hq1] at hcall
        refine hcall.mono ?_
        rintro e w2 ⟨⟨u, rfl⟩, hb2, hg2⟩
        have hblk2 := hb2.heap hnb Hblk.out
        obtain ⟨y0, y1, y2, y3⟩ := blk4 hblk2
        obtain ⟨⟨cs2, hcs2⟩, k3, n3, s3, A3, len3, cap3, f0, f1, f2, f3, -⟩ := hg2 b (o + j * 4) hR
        have hz := frz hcs2
        have Hg2 := Lib.hid hg2
        have Hblk2 := Lib.hid hblk2
        clear hg2 hblk2 hcall
        go_wp2_with fail
        go_roundw
        case rel =>
          have hne : w.heap.size ≠ b := by omega
          have hbs : But D w2 (spoilAt w2 b (o + j * 4)) := ((((But.refl D w2).setCell (p := ⟨b, o + j * 4, none⟩) (.inl hDb) _).setCell (p := ⟨b, o + j * 4 + 1, none⟩) (.inl hDb) _).setCell (p := ⟨b, o + j * 4 + 2, none⟩) (.inl hDb) _).setCell (p := ⟨b, o + j * 4 + 3, none⟩) (.inl hDb) _
          exact ⟨j + 1, q - 1, by rw [hq1], by go_num, by omega, by omega, set_ne (set_ne (set_ne (set_ne Hblk2.out hne) hne) hne) hne, (hbut.trans_same hb2).trans_same hbs, Hg2.out.spoil hR⟩
        case measure => simp [intOf]; omega
      · have d1 : decide ((0 : Int) < (q : Int)) = false := by simp; omega
        go_wp2_with fail
        exact spoil_end rfl ⟨⟨_, rfl⟩, hbut, hgood⟩
    · go_wp2_with fail
      exact spoil_end rfl ⟨⟨_, rfl⟩, hbut, hgood⟩

end Go.Proofs.Ytgedgmdbpembiaa
