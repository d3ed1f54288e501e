/-
  Maps from int64 to integers that a call makes: what they hold. Plain laws. No condition.
-/
import Derived.Test.YtgedgmdbpembiaaBt
import Derived.Test.YtgedgmdbpembiaaRows
import Derived.Maps.OwnSet
import Derived.Maps.OwnOps
namespace Go.Proofs.Ytgedgmdbpembiaa
open Go.RowKit Go.Maps
set_option linter.unusedVariables false

theorem lawI : Keyed Try.prog 2 := int_keyed Try.underlying2

/-- Block b is a map with the keys ks, and the value f n at n. -/
def MapI (E : TypeId) (w : World) (b : Nat) (ks : List Int) (f : Int → Int) : Prop :=
  ∃ D : DataW Unit, w.ownsMap Try.prog 2 (plainElem Try.prog E) b ks.length D ∧ (∀ n, D.atKey (.int .i64 n) (.lit (.int .i64 0)) = .lit (.int .i64 (if n ∈ ks then f n else 0))) ∧
    (∀ n, Maps.has D (.int .i64 n) = decide (n ∈ ks)) ∧ Maps.size D = ks.length

theorem MapI.made (E : TypeId) (w : World) (f : Int → Int) : MapI E (w.alloc (.map #[] 0)) w.heap.size [] f :=
  ⟨.map [], World.ownsMap_made _ _ _ _, fun n => by simp [DataW.atKey], fun n => by simp [Maps.has], by simp [Maps.size]⟩

theorem MapI.but {E : TypeId} {S : Nat → Prop} {w w' : World} {b : Nat} {ks : List Int} {f : Int → Int} (h : MapI E w b ks f) (hb : But S w w') (hS : ¬ S b) : MapI E w' b ks f := by
  obtain ⟨D, ⟨es, clock, h1, h2⟩, r⟩ := h
  exact ⟨D, ⟨es, clock, hb.heap hS h1, h2⟩, r⟩

theorem MapI.isMap {E : TypeId} {w : World} {b : Nat} {ks : List Int} {f : Int → Int} (h : MapI E w b ks f) : ∃ es clock, w.heap[b]? = some (.map es clock) := by
  obtain ⟨D, ⟨es, clock, h1, h2⟩, r⟩ := h
  exact ⟨es, clock, h1⟩

theorem lit_ne {n m : Int} (h : ¬ n = m) : (Lit.int .i64 n) ≠ Lit.int .i64 m := by
  intro e
  injection e with _ e
  exact h e

/-- A new key. -/
theorem MapI.put {E : TypeId} {w' : World} {b : Nat} {D : DataW Unit} {ks : List Int} {f g : Int → Int} {x c : Int} (hown : w'.ownsMap Try.prog 2 (plainElem Try.prog E) b (ks.length + 1) (D.put (.int .i64 x) (.lit (.int .i64 c))))
    (hD : IsMap D) (hT : Tidy D) (hat : ∀ n, D.atKey (.int .i64 n) (.lit (.int .i64 0)) = .lit (.int .i64 (if n ∈ ks then f n else 0)))
    (hh : ∀ n, Maps.has D (.int .i64 n) = decide (n ∈ ks)) (hs : Maps.size D = ks.length) (hx : ¬ x ∈ ks) (hgx : g x = c) (hg : ∀ n ∈ ks, g n = f n) : MapI E w' b (ks ++ [x]) g := by
  refine ⟨_, by simpa using hown, fun n => ?_, fun n => ?_, ?_⟩
  · by_cases hn : n = x
    · subst hn
      rw [atKey_put_same hD (show WideAt.IsKeyLit (Lit.int .i64 n) from trivial)]
      simp [hgx]
    · rw [atKey_put_other (lit_ne hn), hat n]
      by_cases hk : n ∈ ks
      · simp [hk, hg n hk]
      · simp [hk, hn]
  · by_cases hn : n = x
    · subst hn
      rw [has_put_same hD (show WideAt.IsKeyLit (Lit.int .i64 n) from trivial)]
      simp
    · rw [has_put_other (lit_ne hn), hh n]
      simp [hn]
  · rw [size_put hT, hh x, hs]
    simp [hx]

/-- Distinct integers from 0 to m are m + 1 at most. -/
theorem nodup_le : ∀ (m : Nat) (l : List Int), l.Nodup → (∀ x ∈ l, 0 ≤ x ∧ x < m) → l.length ≤ m
  | 0, l, _, h => by
    cases l with
    | nil => simp
    | cons x l => have := h x (by simp); omega
  | m + 1, l, hn, h => by
    have h1 := nodup_le m (l.erase (m : Int)) (hn.erase _) (fun x hx => by
      have hx' := (List.Nodup.mem_erase_iff hn).1 hx
      have := h x hx'.2
      have hne := hx'.1
      omega)
    have h2 := List.length_erase (a := (m : Int)) (l := l)
    split at h2 <;> omega

end Go.Proofs.Ytgedgmdbpembiaa
