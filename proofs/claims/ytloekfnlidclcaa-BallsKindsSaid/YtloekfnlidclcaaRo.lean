/-
  A row of terms that a call is building: plain laws. No condition.
-/
import Derived.Test.YtloekfnlidclcaaSa
import Derived.Deep.RegionHeld3
import Derived.Deep.AppendLies
namespace Go.Proofs.Ytloekfnlidclcaa
open Go.RowKit
set_option linter.unusedVariables false

def RowT (w : World) (B : Nat) (va : Value) (ts : List Tm) : Prop :=
  ∃ xs, w.ownsRow B 24 4 va ts.length xs ∧ ∀ i (h : i < ts.length), ∃ A0 cap0, xs[i * 4]? = some (.int .i64 ts[i].kind) ∧ xs[i * 4 + 1]? = some (.int .i64 ts[i].num) ∧
    xs[i * 4 + 2]? = some (.string ts[i].name) ∧ xs[i * 4 + 3]? = some (.slice A0 ts[i].args.length cap0) ∧
    TmIn w (fun b => B ≤ b ∧ OBlk w b ∧ va.ownBlock ≠ some b) ts[i] (.agg #[.int .i64 ts[i].kind, .int .i64 ts[i].num, .string ts[i].name, .slice A0 ts[i].args.length cap0])

theorem RowT.nil (w : World) (B : Nat) : RowT w B (.slice none 0 0) [] := ⟨[], World.ownsRow_nil _ _ _ _, fun i h => by simp at h⟩

theorem own_but {S : Nat → Prop} {w w' : World} {base e size n : Nat} {v : Value} {xs : List Value} (h : w.ownsRow base e size v n xs) (hb : But S w w') (hS : ∀ g, v.ownBlock = some g → ¬ S g) : w'.ownsRow base e size v n xs := by
  obtain ⟨h1, h2⟩ := h
  refine ⟨h1, ?_⟩
  rcases h2 with h2 | ⟨g, cap, cur, rfl, hg, hh, r⟩
  · exact .inl h2
  · exact .inr ⟨g, cap, cur, rfl, hg, hb.heap (hS g rfl) hh, r⟩

theorem own_tblk {w : World} {base size n : Nat} {v : Value} {xs : List Value} (h : w.ownsRow base 24 size v n xs) {g : Nat} (hg : v.ownBlock = some g) : OBlk w g ∧ base ≤ g := by
  rcases h.2 with ⟨rfl, _⟩ | ⟨g', cap, cur, rfl, hg', hh, r⟩
  · cases hg
  · obtain rfl : g' = g := by simpa [Value.ownBlock] using hg
    exact ⟨⟨_, hh⟩, hg'⟩

theorem OBlk.but {S : Nat → Prop} {w w' : World} {b : Nat} (h : OBlk w b) (hb : But S w w') (hS : ¬ S b) : OBlk w' b := let ⟨c, hc⟩ := h; ⟨c, hb.heap hS hc⟩

theorem RowT.but {S : Nat → Prop} {w w' : World} {B : Nat} {va : Value} {ts : List Tm} (h : RowT w B va ts) (hb : But S w w') (hS : ∀ k, S k → k < B ∨ ¬ TBlk w k) : RowT w' B va ts := by
  obtain ⟨xs, ho, hx⟩ := h
  have hn : ∀ k, B ≤ k → TBlk w k → ¬ S k := fun k hk ht hs => (hS k hs).elim (fun hl => by omega) (fun hn => hn ht)
  refine ⟨xs, own_but ho hb fun g hg => hn g (own_tblk ho hg).2 (own_tblk ho hg).1.tblk, fun i hi => ?_⟩
  obtain ⟨A0, cap0, e0, e1, e2, e3, ht⟩ := hx i hi
  exact ⟨A0, cap0, e0, e1, e2, e3, TmIn.keeps (fun k o hk hd => ⟨hb.heap (hn _ hd.1 hd.2.1.tblk) hk, hd.1, hd.2.1.but hb (hn _ hd.1 hd.2.1.tblk), hd.2.2⟩) _ ht⟩

theorem OBlk.grown {w w' : World} {row : Option Nat} {b : Nat} (h : OBlk w b) (hg : w.grownBy w' row) (hne : row ≠ some b) : OBlk w' b := by
  obtain ⟨c, hc⟩ := h
  exact ⟨c, (hg.block b (lt_of_heap hc) (fun e => hne e.symm)).trans hc⟩

/-- What a row's elements are, apart from who owns it. -/
def RowE (w : World) (B : Nat) (va : Value) (ts : List Tm) (xs : List Value) : Prop := ∀ i (h : i < ts.length), ∃ A0 cap0, xs[i * 4]? = some (.int .i64 ts[i].kind) ∧ xs[i * 4 + 1]? = some (.int .i64 ts[i].num) ∧
    xs[i * 4 + 2]? = some (.string ts[i].name) ∧ xs[i * 4 + 3]? = some (.slice A0 ts[i].args.length cap0) ∧
    TmIn w (fun b => B ≤ b ∧ OBlk w b ∧ va.ownBlock ≠ some b) ts[i] (.agg #[.int .i64 ts[i].kind, .int .i64 ts[i].num, .string ts[i].name, .slice A0 ts[i].args.length cap0])

theorem RowE.but {S : Nat → Prop} {w w' : World} {B : Nat} {va : Value} {ts : List Tm} {xs : List Value} (hx : RowE w B va ts xs) (hb : But S w w') (hS : ∀ k, S k → k < B ∨ ¬ TBlk w k) : RowE w' B va ts xs := by
  have hn : ∀ k, B ≤ k → TBlk w k → ¬ S k := fun k hk ht hs => (hS k hs).elim (fun hl => by omega) (fun hn => hn ht)
  intro i hi
  obtain ⟨A0, cap0, e0, e1, e2, e3, ht⟩ := hx i hi
  exact ⟨A0, cap0, e0, e1, e2, e3, TmIn.keeps (fun k o hk hd => ⟨hb.heap (hn _ hd.1 hd.2.1.tblk) hk, hd.1, hd.2.1.but hb (hn _ hd.1 hd.2.1.tblk), hd.2.2⟩) _ ht⟩

/-- One more element. -/
theorem RowT.push {w w' : World} {B B1 g cap : Nat} {va u : Value} {ts : List Tm} {t : Tm} {xs : List Value} {A0 : Option Addr} {cap0 : Nat}
    (ho : w.ownsRow B 24 4 va ts.length xs) (hx : RowE w B va ts xs)
    (hu : u = .agg #[.int .i64 t.kind, .int .i64 t.num, .string t.name, .slice A0 t.args.length cap0]) (ht : TmNew w B1 t u) (hB : B ≤ B1) (hva : ∀ k, va.ownBlock = some k → k < B1)
    (ho' : w'.ownsRow B 24 4 (.slice (some ⟨g, 0, none⟩) (ts.length + 1) cap) (ts.length + 1) (xs ++ [.int .i64 t.kind, .int .i64 t.num, .string t.name, .slice A0 t.args.length cap0]))
    (hg : w.grownBy w' va.ownBlock) (hat : va.ownBlock = some g ∨ w.heap.size ≤ g) : RowT w' B (.slice (some ⟨g, 0, none⟩) (ts.length + 1) cap) (ts ++ [t]) := by
  have hl : xs.length = ts.length * 4 := ho.1
  refine ⟨xs ++ [.int .i64 t.kind, .int .i64 t.num, .string t.name, .slice A0 t.args.length cap0], by simpa using ho', fun i hi => ?_⟩
  by_cases hlt : i < ts.length
  · obtain ⟨A1, cap1, e0, e1, e2, e3, h4⟩ := hx i hlt
    have hti : (ts ++ [t])[i] = ts[i] := List.getElem_append_left hlt
    rw [hti]
    refine ⟨A1, cap1, ?_, ?_, ?_, ?_, TmIn.keeps (fun k o hk hd => ⟨(hg.block k (lt_of_heap hk) (fun e => hd.2.2 e.symm)).trans hk, hd.1, hd.2.1.grown hg hd.2.2, fun e => ?_⟩) _ h4⟩
    · rw [List.getElem?_append_left (by omega)]; exact e0
    · rw [List.getElem?_append_left (by omega)]; exact e1
    · rw [List.getElem?_append_left (by omega)]; exact e2
    · rw [List.getElem?_append_left (by omega)]; exact e3
    · have : g = k := by simpa [Value.ownBlock] using e
      subst this
      rcases hat with h | h
      · exact hd.2.2 h
      · have := lt_of_heap hk; omega
  · obtain rfl : i = ts.length := by simp at hi; omega
    have hti : (ts ++ [t])[ts.length] = t := by simp
    rw [hti]
    refine ⟨A0, cap0, ?_, ?_, ?_, ?_, ?_⟩
    · rw [List.getElem?_append_right (by omega), hl]; simp
    · rw [List.getElem?_append_right (by omega), hl]; simp
    · rw [List.getElem?_append_right (by omega), hl]; simp
    · rw [List.getElem?_append_right (by omega), hl]; simp
    · rw [← hu]
      refine TmIn.keeps (fun k o hk hd => ?_) _ ht
      have hne : va.ownBlock ≠ some k := fun e => by have := hva k e; omega
      refine ⟨(hg.block k (lt_of_heap hk) (fun e => hne e.symm)).trans hk, by omega, hd.2.grown hg hne, fun e => ?_⟩
      have : g = k := by simpa [Value.ownBlock] using e
      subst this
      rcases hat with h | h
      · exact hne h
      · have := lt_of_heap hk; omega

/-- The row as a slice of terms. -/
theorem RowT.args {w : World} {B : Nat} {va : Value} {ts : List Tm} (h : RowT w B va ts) : ∃ A cap, va = .slice A ts.length cap ∧ ts.length ≤ cap ∧ cap ≤ maxLen ∧ ArgsIn w (fun b => B ≤ b ∧ OBlk w b) ts A 0 := by
  obtain ⟨xs, ho, hx⟩ := h
  have h2 := ho.2
  rcases h2 with ⟨rfl, h0⟩ | ⟨g, cap, cur, rfl, hg, hh, hc1, hc2, hc3, hc4⟩
  · have : ts = [] := List.eq_nil_of_length_eq_zero h0
    subst this
    exact ⟨none, 0, rfl, by simp, by unfold maxLen; omega, by unfold ArgsIn; trivial⟩
  · refine ⟨some ⟨g, 0, none⟩, cap, rfl, hc1, hc2, argsIn_iff.2 fun j hj => ?_⟩
    obtain ⟨A0, cap0, e0, e1, e2, e3, ht⟩ := hx j hj
    refine ⟨g, 0, _, _, _, _, rfl, ⟨hg, ⟨_, hh⟩⟩, ?_, ?_, ?_, ?_, TmIn.keeps (fun k o hk hd => ⟨hk, hd.1, hd.2.1⟩) _ ht⟩
    · rw [ho.cellAt _ (by omega)]; simpa using e0
    · rw [ho.cellAt _ (by omega)]; simpa using e1
    · rw [ho.cellAt _ (by omega)]; simpa using e2
    · rw [ho.cellAt _ (by omega)]; simpa using e3

end Go.Proofs.Ytloekfnlidclcaa

