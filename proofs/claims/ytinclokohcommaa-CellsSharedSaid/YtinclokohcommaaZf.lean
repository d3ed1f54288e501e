/-
  Lemmas of the walk and plain laws, put together. No condition.
-/
import Derived.ChangeArms
import Derived.OpenShut
import Derived.ProofKit
import Derived.SizedLaws
import Derived.Test.YtinclokohcommaaRows
import Derived.Test.YtinclokohcommaaZe
namespace Go.Proofs.Ytinclokohcommaa
open Go.RowKit
set_option linter.unusedVariables false
set_option linter.unusedSimpArgs false

theorem addD_mono {t : Te} {q : Sv} {a : Int} (hn : nodesT t = true) (hs : SV q.2) : q.1.cs.length ≤ (addD q t a).2.1.cs.length := by
  have := (addD_len t q a hn hs).1
  omega
theorem addAs_mono {l : List Te} {q : Sv} {to : Nat} (hn : nodesTs l = true) (hs : SV q.2) : q.1.cs.length ≤ (addAs q l to).1.cs.length := by
  have := (addAs_len l q to hn hs).1
  omega
def grow (s : So) (y : Int) (n : Nat) : List Ce := s.cs ++ (⟨4, y⟩ :: List.replicate n ⟨0, 0⟩)
theorem grow_len (s : So) (y : Int) (n : Nat) : (grow s y n).length = s.cs.length + 1 + n := by simp [grow]; omega
mutual
theorem addD_keep : ∀ (t : Te) (q : Sv) (a : Int) (i : Nat), nodesT t = true → SV q.2 → i < q.1.cs.length → (addD q t a).2.1.cs[i]? = q.1.cs[i]?
  | .mk k n nm l, q, a, i, hn, hs, hi => by
    rw [nodesT, Bool.and_eq_true] at hn
    rcases node_cases hn.1 with ⟨rfl, rfl, h1, h2⟩ | ⟨rfl, rfl⟩ | ⟨rfl, rfl, h1⟩ | ⟨rfl, h1, h2, h3⟩
    · rw [addD_0]
      split
      · rfl
      · split
        · exact List.getElem?_append_left hi
        · rfl
    · rw [addD_1]
    · rw [addD_2]
      exact congrArg (·[i]?) (symN_cs q.1 nm 0).1
    · rw [addD_3]
      have hg := grow_len q.1 (symN q.1 nm (l.length : Nat)).1 l.length
      refine (addAs_keep l ({ (symN q.1 nm (l.length : Nat)).2 with cs := grow q.1 (symN q.1 nm (l.length : Nat)).1 l.length }, q.2) (q.1.cs.length + 1) i hn.2 hs (by show _ ≤ (grow _ _ _).length; omega) (by show i < (grow _ _ _).length; omega) (.inl (by omega))).trans ?_
      exact List.getElem?_append_left hi
theorem addAs_keep : ∀ (l : List Te) (q : Sv) (to i : Nat), nodesTs l = true → SV q.2 → to + l.length ≤ q.1.cs.length → i < q.1.cs.length → i < to ∨ to + l.length ≤ i → (addAs q l to).1.cs[i]? = q.1.cs[i]?
  | [], q, to, i, _, _, _, _, _ => by rw [addAs]
  | t :: l, q, to, i, hn, hs, hto, hi, hh => by
    rw [nodesTs, Bool.and_eq_true] at hn
    rw [List.length_cons] at hto hh
    rw [addAs]
    have hm := addD_mono (a := (to : Nat)) hn.1 hs
    have h4 := (addD_len t q (to : Nat) hn.1 hs).2.2.2
    rw [addAs_keep l (setC (addD q t (to : Nat)).2.1 to (addD q t (to : Nat)).1, (addD q t (to : Nat)).2.2) (to + 1) i hn.2 h4 (by rw [setC_len]; omega) (by rw [setC_len]; omega) (by omega)]
    show ((addD q t (to : Nat)).2.1.cs.set to _)[i]? = _
    rw [List.getElem?_set_ne (by omega)]
    exact addD_keep t q _ i hn.1 hs hi
end
theorem symX_pre (ys : List Sy) (y : Sy) : ∃ m, symX ys y = ys ++ m := by
  unfold symX
  split
  · exact ⟨[], by simp⟩
  · exact ⟨[y], rfl⟩
mutual
theorem symsT_pre : ∀ (t : Te) (ys : List Sy), ∃ m, symsT ys t = ys ++ m
  | .mk k n nm l, ys => by
    rw [symsT]
    obtain ⟨m, hm⟩ := symsTs_pre l (if k = 2 ∨ k = 3 then symX ys ⟨nm, (l.length : Nat)⟩ else ys)
    rw [hm]
    split
    · obtain ⟨m2, h2⟩ := symX_pre ys ⟨nm, (l.length : Nat)⟩
      exact ⟨m2 ++ m, by rw [h2, List.append_assoc]⟩
    · exact ⟨m, rfl⟩
theorem symsTs_pre : ∀ (l : List Te) (ys : List Sy), ∃ m, symsTs ys l = ys ++ m
  | [], ys => ⟨[], by simp [symsTs]⟩
  | t :: l, ys => by
    rw [symsTs]
    obtain ⟨m, hm⟩ := symsT_pre t ys
    obtain ⟨m2, h2⟩ := symsTs_pre l (symsT ys t)
    exact ⟨m ++ m2, by rw [h2, hm, List.append_assoc]⟩
end
theorem ofV_ins {v n : Int} {c : Ce} : ∀ {l : List Vc}, ofV l n = none → ofV (insV l n c) v = if v = n then some c else ofV l v
  | [], _ => by
    by_cases h : v = n
    · simp [insV, ofV, h]
    · have h' : ¬ n = v := fun e => h e.symm
      simp [insV, ofV, h, h']
  | x :: l, hn => by
    rw [ofV] at hn
    split at hn
    · cases hn
    rename_i hx
    rw [insV]
    split
    · rw [ofV, ofV, ofV_ins hn]
      by_cases h : v = n
      · subst h
        simp [hx]
      · simp [h]
    · by_cases h : v = n
      · simp [ofV, h]
      · have h' : ¬ n = v := fun e => h e.symm
        rw [ofV, if_neg h', if_neg h]
theorem insV_len (n : Int) (c : Ce) : ∀ l, (insV l n c).length = l.length + 1
  | [] => rfl
  | x :: l => by
    rw [insV]
    split
    · rw [List.length_cons, insV_len n c l, List.length_cons]
    · simp
mutual
/-- The cells of variables stay. -/
theorem addD_of : ∀ (t : Te) (q : Sv) (a : Int), nodesT t = true → ∀ v c, ofV q.2 v = some c → ofV (addD q t a).2.2 v = some c
  | .mk k n nm l, q, a, hn, v, c, hv => by
    rw [nodesT, Bool.and_eq_true] at hn
    rcases node_cases hn.1 with ⟨rfl, rfl, h1, h2⟩ | ⟨rfl, rfl⟩ | ⟨rfl, rfl, h1⟩ | ⟨rfl, h1, h2, h3⟩
    · rw [addD_0]
      cases ho : ofV q.2 n with
      | some c' => exact hv
      | none =>
        have hne : ¬ v = n := fun e => by rw [e, ho] at hv; cases hv
        by_cases ha : a < 0
        · simp only [if_pos ha]
          rw [ofV_ins ho, if_neg hne, hv]
        · simp only [if_neg ha]
          rw [ofV_ins ho, if_neg hne, hv]
    · rw [addD_1]; exact hv
    · rw [addD_2]; exact hv
    · rw [addD_3]
      exact addAs_of l _ _ hn.2 v c hv
theorem addAs_of : ∀ (l : List Te) (q : Sv) (to : Nat), nodesTs l = true → ∀ v c, ofV q.2 v = some c → ofV (addAs q l to).2 v = some c
  | [], q, to, _, v, c, hv => by rw [addAs]; exact hv
  | t :: l, q, to, hn, v, c, hv => by
    rw [nodesTs, Bool.and_eq_true] at hn
    rw [addAs]
    exact addAs_of l _ _ hn.2 v c (addD_of t q _ hn.1 v c hv)
end
theorem inV_mk (V : List Int) (k n : Int) (s : ByteArray) (l : List Te) : inV V (.mk k n s l) ↔ (k = 0 → n ∈ V) ∧ inVs V l := by rw [inV]
mutual
/-- Which variables have cells then, and how many. -/
theorem addD_vars : ∀ (t : Te) (q : Sv) (a : Int) (vs : List Int), nodesT t = true → (∀ v, v ∈ vs ↔ (ofV q.2 v).isSome = true) → (∀ v, v ∈ varsT vs t ↔ (ofV (addD q t a).2.2 v).isSome = true) ∧ (addD q t a).2.2.length + vs.length = q.2.length + (varsT vs t).length
  | .mk k n nm l, q, a, vs, hn, hv => by
    rw [nodesT, Bool.and_eq_true] at hn
    rcases node_cases hn.1 with ⟨rfl, rfl, h1, h2⟩ | ⟨rfl, rfl⟩ | ⟨rfl, rfl, h1⟩ | ⟨rfl, h1, h2, h3⟩
    · rw [addD_0, varsT_t]
      simp only [Te.k, Te.n, Te.l, varsTs, true_and]
      cases ho : ofV q.2 n with
      | some c' =>
        have : n ∈ vs := (hv n).2 (by rw [ho]; rfl)
        rw [if_neg (fun h => h this)]
        exact ⟨hv, rfl⟩
      | none =>
        have hnv : n ∉ vs := fun h => by
          have := (hv n).1 h
          rw [ho] at this
          cases this
        rw [if_pos hnv]
        have key : ∀ c, (∀ v, v ∈ vs ++ [n] ↔ (ofV (insV q.2 n c) v).isSome = true) ∧ (insV q.2 n c).length + vs.length = q.2.length + (vs ++ [n]).length := fun c => by
          refine ⟨fun v => ?_, by rw [insV_len]; simp; omega⟩
          rw [ofV_ins ho]
          by_cases h : v = n
          · simp [h]
          · simp [h, hv v]
        by_cases ha : a < 0
        · simp only [if_pos ha]
          exact key _
        · simp only [if_neg ha]
          exact key _
    · rw [addD_1, varsT_t]
      simp only [Te.k, Te.l, varsTs]
      exact ⟨hv, rfl⟩
    · rw [addD_2, varsT_t]
      simp only [Te.k, Te.l, varsTs]
      exact ⟨hv, rfl⟩
    · rw [addD_3, varsT_t]
      simp only [Te.k, Te.l]
      exact addAs_vars l ({ (symN q.1 nm (l.length : Nat)).2 with cs := q.1.cs ++ (⟨4, (symN q.1 nm (l.length : Nat)).1⟩ :: List.replicate l.length ⟨0, 0⟩) }, q.2) _ vs hn.2 hv
theorem addAs_vars : ∀ (l : List Te) (q : Sv) (to : Nat) (vs : List Int), nodesTs l = true → (∀ v, v ∈ vs ↔ (ofV q.2 v).isSome = true) → (∀ v, v ∈ varsTs vs l ↔ (ofV (addAs q l to).2 v).isSome = true) ∧ (addAs q l to).2.length + vs.length = q.2.length + (varsTs vs l).length
  | [], q, to, vs, _, hv => by rw [addAs, varsTs]; exact ⟨hv, rfl⟩
  | t :: l, q, to, vs, hn, hv => by
    rw [nodesTs, Bool.and_eq_true] at hn
    rw [addAs, varsTs]
    obtain ⟨h1, h2⟩ := addD_vars t q (to : Nat) vs hn.1 hv
    obtain ⟨h3, h4⟩ := addAs_vars l (setC (addD q t (to : Nat)).2.1 to (addD q t (to : Nat)).1, (addD q t (to : Nat)).2.2) (to + 1) (varsT vs t) hn.2 h1
    simp only at h4
    exact ⟨h3, by omega⟩
end
end Go.Proofs.Ytinclokohcommaa


namespace Go.Proofs.Ytinclokohcommaa
open Go.RowKit
set_option linter.unusedVariables false
set_option linter.unusedSimpArgs false

mutual
/-- A cell represents a term; f: what represents a variable. -/
def Rh (S : So) (f : Int → Ce) : Te → Ce → Prop
  | .mk k n nm l, c => (k = 0 ∧ c = f n) ∨ (k = 1 ∧ c = ⟨1, n⟩) ∨ (k = 2 ∧ c.t = 2 ∧ ∃ y : Nat, c.n = (y : Int) ∧ S.ys[y]? = some ⟨nm, 0⟩) ∨
    (k = 3 ∧ c.t = 3 ∧ ∃ p y : Nat, c.n = (p : Int) ∧ S.cs[p]? = some ⟨4, y⟩ ∧ S.ys[y]? = some ⟨nm, (l.length : Nat)⟩ ∧ Rhs S f l (p + 1))
def Rhs (S : So) (f : Int → Ce) : List Te → Nat → Prop
  | [], _ => True
  | t :: l, p => (∃ c, S.cs[p]? = some c ∧ Rh S f t c) ∧ Rhs S f l (p + 1)
end
theorem Rh_1 {S : So} {f : Int → Ce} {n : Int} {nm : ByteArray} {l : List Te} : Rh S f (.mk 1 n nm l) ⟨1, n⟩ := by rw [Rh]; exact .inr (.inl ⟨rfl, rfl⟩)
theorem fnd_at {nm : ByteArray} {ar : Int} : ∀ (k : Nat) (l : List Sy), 0 ≤ fnd nm ar k l → ∃ j : Nat, fnd nm ar k l = ((k + j : Nat) : Int) ∧ l[j]? = some ⟨nm, ar⟩
  | k, [], h => by simp [fnd] at h
  | k, y :: l, h => by
    unfold fnd at h ⊢
    split
    · rename_i hy
      obtain ⟨rfl, rfl⟩ := hy
      exact ⟨0, rfl, rfl⟩
    · rename_i hy
      rw [if_neg hy] at h
      obtain ⟨j, e, hj⟩ := fnd_at (k + 1) l h
      exact ⟨j + 1, by rw [e]; congr 1; omega, by simpa using hj⟩
theorem symN_at (s : So) (nm : ByteArray) (ar : Int) : ∃ y : Nat, (symN s nm ar).1 = (y : Int) ∧ (symN s nm ar).2.ys[y]? = some ⟨nm, ar⟩ := by
  unfold symN
  by_cases h : 0 ≤ findS s nm ar
  · rw [if_pos h]
    obtain ⟨j, e, hj⟩ := fnd_at 0 s.ys h
    exact ⟨j, by rw [← Nat.zero_add j]; exact e, hj⟩
  · rw [if_neg h]
    exact ⟨s.ys.length, rfl, by simp⟩
theorem ys_up {ys m : List Sy} {i : Nat} {y : Sy} (h : ys[i]? = some y) : (ys ++ m)[i]? = some y := by
  rw [List.getElem?_append_left (List.getElem?_eq_some_iff.1 h).1]
  exact h
def NewOk (S : So) (f : Int → Ce) (P : Te → Prop) (i : Nat) : Prop :=
  (∃ y k : Nat, ∃ nm, S.cs[i]? = some ⟨4, y⟩ ∧ S.ys[y]? = some ⟨nm, k⟩ ∧ 1 ≤ k ∧ k ≤ 8 ∧ ∀ j, 1 ≤ j → j ≤ k → ∃ t c, P t ∧ S.cs[i + j]? = some c ∧ Rh S f t c) ∨ ∃ t c, P t ∧ S.cs[i]? = some c ∧ Rh S f t c
theorem Rhs_at {S : So} {f : Int → Ce} : ∀ {l : List Te} {p j : Nat}, Rhs S f l p → j < l.length → ∃ c, S.cs[p + j]? = some c ∧ Rh S f (l.getD j default) c
  | t :: l, p, 0, h, _ => by rw [Rhs] at h; exact h.1
  | t :: l, p, j + 1, h, hj => by
    rw [Rhs] at h
    obtain ⟨c, h1, h2⟩ := Rhs_at h.2 (j := j) (by simpa using hj)
    exact ⟨c, by rw [← h1]; congr 1; omega, by simpa using h2⟩

mutual
theorem addD_rep {S : So} {f : Int → Ce} {P : Te → Prop} (hP : ∀ k n nm l, P (.mk k n nm l) → ∀ t ∈ l, P t) : ∀ (t : Te) (q : Sv) (a : Int), P t → nodesT t = true → SV q.2 → (∀ i, q.1.cs.length ≤ i → i < (addD q t a).2.1.cs.length → S.cs[i]? = (addD q t a).2.1.cs[i]?) → (∀ (i : Nat) y, (addD q t a).2.1.ys[i]? = some y → S.ys[i]? = some y) → (∀ v c, ofV (addD q t a).2.2 v = some c → f v = keptC c) →
    Rh S f t (addD q t a).1 ∧ ∀ i, q.1.cs.length ≤ i → i < (addD q t a).2.1.cs.length → NewOk S f P i
  | .mk k n nm l, q, a, hp, hn, hs, hc, hy, hf => by
    rw [nodesT, Bool.and_eq_true] at hn
    rcases node_cases hn.1 with ⟨rfl, rfl, h1, h2⟩ | ⟨rfl, rfl⟩ | ⟨rfl, rfl, h1⟩ | ⟨rfl, h1, h2, h3⟩
    · rw [addD_0] at hc hy hf ⊢
      cases ho : ofV q.2 n with
      | some c =>
        simp only [ho] at hc hf ⊢
        refine ⟨?_, fun i h1 h2 => by omega⟩
        rw [Rh]
        exact .inl ⟨rfl, (hf n c ho).symm⟩
      | none =>
        by_cases ha : a < 0
        · simp only [ho, if_pos ha] at hc hf ⊢
          have e := hf n _ (by rw [ofV_ins ho, if_pos rfl])
          have hr : Rh S f (.mk 0 n nm []) ⟨0, (q.1.cs.length : Nat)⟩ := by
            rw [Rh]
            exact .inl ⟨rfl, by rw [e]; rfl⟩
          refine ⟨hr, fun i h1 h2 => ?_⟩
          have : i = q.1.cs.length := by simp at h2; omega
          subst this
          exact .inr ⟨_, _, hp, by rw [hc _ h1 h2]; simp, hr⟩
        · simp only [ho, if_neg ha] at hc hf ⊢
          have e := hf n _ (by rw [ofV_ins ho, if_pos rfl])
          refine ⟨?_, fun i h1 h2 => by omega⟩
          rw [Rh]
          exact .inl ⟨rfl, by rw [e]; rfl⟩
    · rw [addD_1]
      exact ⟨Rh_1, fun i h1 h2 => by simp only at h2; omega⟩
    · rw [addD_2] at hy ⊢
      obtain ⟨y, e, hy'⟩ := symN_at q.1 nm 0
      refine ⟨?_, fun i h1 h2 => ?_⟩
      · rw [Rh]
        exact .inr (.inr (.inl ⟨rfl, rfl, y, e, hy _ _ hy'⟩))
      · have e1 := (symN_cs q.1 nm 0).1
        simp only [e1] at h2
        omega
    · rw [addD_3] at hc hy hf ⊢
      obtain ⟨y, e, hy'⟩ := symN_at q.1 nm (l.length : Nat)
      have hg := grow_len q.1 (symN q.1 nm (l.length : Nat)).1 l.length
      have hm : q.1.cs.length + 1 + l.length ≤ (addAs ({ (symN q.1 nm (l.length : Nat)).2 with cs := grow q.1 (symN q.1 nm (l.length : Nat)).1 l.length }, q.2) l (q.1.cs.length + 1)).1.cs.length := by
        rw [← hg]
        exact addAs_mono (q := ({ (symN q.1 nm (l.length : Nat)).2 with cs := grow q.1 (symN q.1 nm (l.length : Nat)).1 l.length }, q.2)) hn.2 hs
      have hk := addAs_keep l ({ (symN q.1 nm (l.length : Nat)).2 with cs := grow q.1 (symN q.1 nm (l.length : Nat)).1 l.length }, q.2) (q.1.cs.length + 1) q.1.cs.length hn.2 hs (by show _ ≤ (grow _ _ _).length; omega) (by show _ < (grow _ _ _).length; omega) (.inl (by omega))
      have hys := (addAs_len l ({ (symN q.1 nm (l.length : Nat)).2 with cs := grow q.1 (symN q.1 nm (l.length : Nat)).1 l.length }, q.2) (q.1.cs.length + 1) hn.2 hs).2.1
      have hpl := hP _ _ _ _ hp
      have ih := addAs_rep hP l ({ (symN q.1 nm (l.length : Nat)).2 with cs := grow q.1 (symN q.1 nm (l.length : Nat)).1 l.length }, q.2) (q.1.cs.length + 1) hpl hn.2 hs (by show _ ≤ (grow _ _ _).length; omega) (fun i h1 h2 => hc i (by have h1 : (grow _ _ _).length ≤ i := h1; omega) h2) (fun i h1 h2 => hc i (by omega) (by
        have : q.1.cs.length + 1 + l.length ≤ (addAs ({ (symN q.1 nm (l.length : Nat)).2 with cs := grow q.1 (symN q.1 nm (l.length : Nat)).1 l.length }, q.2) l (q.1.cs.length + 1)).1.cs.length := hm
        exact Nat.lt_of_lt_of_le h2 this)) hy hf
      obtain ⟨i1, i2, i3⟩ := ih
      obtain ⟨m, hpre⟩ := symsTs_pre l (symN q.1 nm (l.length : Nat)).2.ys
      have hhead : S.cs[q.1.cs.length]? = some ⟨4, y⟩ := by
        rw [hc _ (Nat.le_refl _) (by
          have : q.1.cs.length + 1 + l.length ≤ (addAs ({ (symN q.1 nm (l.length : Nat)).2 with cs := grow q.1 (symN q.1 nm (l.length : Nat)).1 l.length }, q.2) l (q.1.cs.length + 1)).1.cs.length := hm
          exact Nat.lt_of_lt_of_le (by omega) this)]
        refine Eq.trans hk ?_
        show (grow _ _ _)[q.1.cs.length]? = _
        rw [grow, List.getElem?_append_right (Nat.le_refl _), Nat.sub_self, e]
        rfl
      have hsy : S.ys[y]? = some ⟨nm, (l.length : Nat)⟩ := by
        refine hy _ _ ?_
        refine Eq.trans (congrArg (·[y]?) hys) ?_
        show (symsTs (symN q.1 nm (l.length : Nat)).2.ys l)[y]? = _
        rw [hpre]
        exact ys_up hy'
      refine ⟨?_, fun i h4 h5 => ?_⟩
      · rw [Rh]
        exact .inr (.inr (.inr ⟨rfl, rfl, q.1.cs.length, y, rfl, hhead, hsy, i1⟩))
      · rcases Nat.lt_or_ge i (q.1.cs.length + 1) with h6 | h6
        · have : i = q.1.cs.length := by omega
          subst this
          refine .inl ⟨y, l.length, nm, hhead, hsy, h2, h3, fun j g1 g2 => ?_⟩
          obtain ⟨c, g3, g4⟩ := Rhs_at i1 (j := j - 1) (by omega)
          exact ⟨_, c, hpl _ (getD_mem (by omega)), by rw [← g3]; congr 1; omega, g4⟩
        rcases Nat.lt_or_ge i (q.1.cs.length + 1 + l.length) with h7 | h7
        · exact i3 i h6 h7
        · exact i2 i (by show (grow _ _ _).length ≤ i; omega) h5
theorem addAs_rep {S : So} {f : Int → Ce} {P : Te → Prop} (hP : ∀ k n nm l, P (.mk k n nm l) → ∀ t ∈ l, P t) : ∀ (l : List Te) (q : Sv) (to : Nat), (∀ t ∈ l, P t) → nodesTs l = true → SV q.2 → to + l.length ≤ q.1.cs.length → (∀ i, q.1.cs.length ≤ i → i < (addAs q l to).1.cs.length → S.cs[i]? = (addAs q l to).1.cs[i]?) → (∀ i, to ≤ i → i < to + l.length → S.cs[i]? = (addAs q l to).1.cs[i]?) → (∀ (i : Nat) y, (addAs q l to).1.ys[i]? = some y → S.ys[i]? = some y) → (∀ v c, ofV (addAs q l to).2 v = some c → f v = keptC c) →
    Rhs S f l to ∧ (∀ i, q.1.cs.length ≤ i → i < (addAs q l to).1.cs.length → NewOk S f P i) ∧ ∀ i, to ≤ i → i < to + l.length → NewOk S f P i
  | [], q, to, _, _, _, _, hc, hc2, hy, hf => by
    rw [addAs]
    refine ⟨?_, fun i h1 h2 => by omega, fun i h1 h2 => ?_⟩
    · rw [Rhs]; trivial
    · simp only [List.length_nil] at h2; omega
  | t :: l, q, to, hp, hn, hs, hto, hc, hc2, hy, hf => by
    rw [nodesTs, Bool.and_eq_true] at hn
    rw [List.length_cons] at hto hc2
    rw [addAs] at hc hc2 hy hf ⊢
    obtain ⟨g1, g2, g3, g4⟩ := addD_len t q (to : Nat) hn.1 hs
    have hm := addD_mono (a := (to : Nat)) hn.1 hs
    have hL := setC_len (addD q t (to : Nat)).2.1 to (addD q t (to : Nat)).1
    have hkeep := fun i h1 h2 h3 => addAs_keep l (setC (addD q t (to : Nat)).2.1 to (addD q t (to : Nat)).1, (addD q t (to : Nat)).2.2) (to + 1) i hn.2 g4 h1 h2 h3
    have hys := (addAs_len l (setC (addD q t (to : Nat)).2.1 to (addD q t (to : Nat)).1, (addD q t (to : Nat)).2.2) (to + 1) hn.2 g4).2.1
    have hm2 := addAs_mono (to := to + 1) (q := (setC (addD q t (to : Nat)).2.1 to (addD q t (to : Nat)).1, (addD q t (to : Nat)).2.2)) hn.2 g4
    have hof := addAs_of l (setC (addD q t (to : Nat)).2.1 to (addD q t (to : Nat)).1, (addD q t (to : Nat)).2.2) (to + 1) hn.2
    simp only at hm2
    rw [hL] at hm2
    have hset : ∀ i, i ≠ to → (setC (addD q t (to : Nat)).2.1 to (addD q t (to : Nat)).1).cs[i]? = (addD q t (to : Nat)).2.1.cs[i]? := fun i h => List.getElem?_set_ne (fun e => h e.symm)
    obtain ⟨m, hpre⟩ := symsTs_pre l (addD q t (to : Nat)).2.1.ys
    obtain ⟨r1, r2⟩ := addD_rep hP t q (to : Nat) (hp t List.mem_cons_self) hn.1 hs (fun i h1 h2 => by
      rw [hc i h1 (Nat.lt_of_lt_of_le h2 hm2), hkeep i (by rw [hL]; omega) (by rw [hL]; omega) (.inr (by omega)), hset i (by omega)]) (fun i y h => by
      refine hy i y ?_
      refine Eq.trans (congrArg (·[i]?) hys) ?_
      show (symsTs (addD q t (to : Nat)).2.1.ys l)[i]? = _
      rw [hpre]
      exact ys_up h) (fun v c h => hf v c (hof v c h))
    have hat : S.cs[to]? = some (addD q t (to : Nat)).1 := by
      rw [hc2 to (Nat.le_refl _) (by omega), hkeep to (by rw [hL]; omega) (by rw [hL]; omega) (.inl (by omega))]
      show ((addD q t (to : Nat)).2.1.cs.set to _)[to]? = _
      rw [List.getElem?_set_self (by omega)]
    obtain ⟨s1, s2, s3⟩ := addAs_rep hP l (setC (addD q t (to : Nat)).2.1 to (addD q t (to : Nat)).1, (addD q t (to : Nat)).2.2) (to + 1) (fun u hu => hp u (List.mem_cons_of_mem _ hu)) hn.2 g4 (by rw [hL]; omega) (fun i h1 h2 => hc i (by rw [hL] at h1; omega) h2) (fun i h1 h2 => hc2 i (by omega) (by omega)) hy hf
    refine ⟨?_, fun i h1 h2 => ?_, fun i h1 h2 => ?_⟩
    · rw [Rhs]
      exact ⟨⟨_, hat, r1⟩, s1⟩
    · rcases Nat.lt_or_ge i (addD q t (to : Nat)).2.1.cs.length with h3 | h3
      · exact r2 i h1 h3
      · exact s2 i (by rw [hL]; exact h3) h2
    · rw [List.length_cons] at h2
      rcases Nat.lt_or_ge to i with h3 | h3
      · exact s3 i h3 (by omega)
      · have : i = to := by omega
        subst this
        exact .inr ⟨_, _, hp t List.mem_cons_self, hat, r1⟩
end
mutual
/-- New variables: their cells hold themselves. -/
theorem addD_new {S : So} : ∀ (t : Te) (q : Sv) (a : Int), nodesT t = true → SV q.2 → (∀ i, q.1.cs.length ≤ i → i < (addD q t a).2.1.cs.length → S.cs[i]? = (addD q t a).2.1.cs[i]?) → (0 ≤ a → S.cs[a.toNat]? = some (addD q t a).1) → ∀ v c, ofV (addD q t a).2.2 v = some c → ofV q.2 v = some c ∨ ∃ p : Nat, c = ⟨0, p⟩ ∧ S.cs[p]? = some c ∧ (q.1.cs.length ≤ p ∨ a = p)
  | .mk k n nm l, q, a, hn, hs, hc, ha, v, c, hv => by
    rw [nodesT, Bool.and_eq_true] at hn
    rcases node_cases hn.1 with ⟨rfl, rfl, h1, h2⟩ | ⟨rfl, rfl⟩ | ⟨rfl, rfl, h1⟩ | ⟨rfl, h1, h2, h3⟩
    · rw [addD_0] at hc ha hv
      cases ho : ofV q.2 n with
      | some c' => simp only [ho] at hv; exact .inl hv
      | none =>
        by_cases h0 : a < 0
        · simp only [ho, if_pos h0] at hc hv
          rw [ofV_ins ho] at hv
          split at hv
          · cases hv
            refine .inr ⟨_, rfl, ?_, .inl (Nat.le_refl _)⟩
            rw [hc _ (Nat.le_refl _) (by simp)]
            simp
          · exact .inl hv
        · simp only [ho, if_neg h0] at ha hv
          rw [ofV_ins ho] at hv
          split at hv
          · cases hv
            have e : (a.toNat : Int) = a := Int.toNat_of_nonneg (by omega)
            refine .inr ⟨a.toNat, by rw [e], ha (by omega), .inr e.symm⟩
          · exact .inl hv
    · rw [addD_1] at hv; exact .inl hv
    · rw [addD_2] at hv; exact .inl hv
    · rw [addD_3] at hc hv
      have hg := grow_len q.1 (symN q.1 nm (l.length : Nat)).1 l.length
      have hm : q.1.cs.length + 1 + l.length ≤ (addAs ({ (symN q.1 nm (l.length : Nat)).2 with cs := grow q.1 (symN q.1 nm (l.length : Nat)).1 l.length }, q.2) l (q.1.cs.length + 1)).1.cs.length := by
        rw [← hg]
        exact addAs_mono (q := ({ (symN q.1 nm (l.length : Nat)).2 with cs := grow q.1 (symN q.1 nm (l.length : Nat)).1 l.length }, q.2)) hn.2 hs
      rcases addAs_new l ({ (symN q.1 nm (l.length : Nat)).2 with cs := grow q.1 (symN q.1 nm (l.length : Nat)).1 l.length }, q.2) (q.1.cs.length + 1) hn.2 hs (by show _ ≤ (grow _ _ _).length; omega) (fun i h1 h2 => hc i (by have h1 : (grow _ _ _).length ≤ i := h1; omega) h2) (fun i h1 h2 => hc i (by omega) (Nat.lt_of_lt_of_le h2 hm)) v c hv with h | ⟨p, e1, e2, e3⟩
      · exact .inl h
      · refine .inr ⟨p, e1, e2, .inl ?_⟩
        rcases e3 with e3 | e3
        · have e3 : (grow _ _ _).length ≤ p := e3
          omega
        · omega
theorem addAs_new {S : So} : ∀ (l : List Te) (q : Sv) (to : Nat), nodesTs l = true → SV q.2 → to + l.length ≤ q.1.cs.length → (∀ i, q.1.cs.length ≤ i → i < (addAs q l to).1.cs.length → S.cs[i]? = (addAs q l to).1.cs[i]?) → (∀ i, to ≤ i → i < to + l.length → S.cs[i]? = (addAs q l to).1.cs[i]?) → ∀ v c, ofV (addAs q l to).2 v = some c → ofV q.2 v = some c ∨ ∃ p : Nat, c = ⟨0, p⟩ ∧ S.cs[p]? = some c ∧ (q.1.cs.length ≤ p ∨ to ≤ p)
  | [], q, to, _, _, _, _, _, v, c, hv => by rw [addAs] at hv; exact .inl hv
  | t :: l, q, to, hn, hs, hto, hc, hc2, v, c, hv => by
    rw [nodesTs, Bool.and_eq_true] at hn
    rw [List.length_cons] at hto hc2
    rw [addAs] at hc hc2 hv
    obtain ⟨g1, g2, g3, g4⟩ := addD_len t q (to : Nat) hn.1 hs
    have hm := addD_mono (a := (to : Nat)) hn.1 hs
    have hL := setC_len (addD q t (to : Nat)).2.1 to (addD q t (to : Nat)).1
    have hkeep := fun i h1 h2 h3 => addAs_keep l (setC (addD q t (to : Nat)).2.1 to (addD q t (to : Nat)).1, (addD q t (to : Nat)).2.2) (to + 1) i hn.2 g4 h1 h2 h3
    have hm2 := addAs_mono (to := to + 1) (q := (setC (addD q t (to : Nat)).2.1 to (addD q t (to : Nat)).1, (addD q t (to : Nat)).2.2)) hn.2 g4
    simp only at hm2
    rw [hL] at hm2
    have hset : ∀ i, i ≠ to → (setC (addD q t (to : Nat)).2.1 to (addD q t (to : Nat)).1).cs[i]? = (addD q t (to : Nat)).2.1.cs[i]? := fun i h => List.getElem?_set_ne (fun e => h e.symm)
    have hat : S.cs[to]? = some (addD q t (to : Nat)).1 := by
      rw [hc2 to (Nat.le_refl _) (by omega), hkeep to (by rw [hL]; omega) (by rw [hL]; omega) (.inl (by omega))]
      show ((addD q t (to : Nat)).2.1.cs.set to _)[to]? = _
      rw [List.getElem?_set_self (by omega)]
    rcases addAs_new l (setC (addD q t (to : Nat)).2.1 to (addD q t (to : Nat)).1, (addD q t (to : Nat)).2.2) (to + 1) hn.2 g4 (by rw [hL]; omega) (fun i h1 h2 => hc i (by rw [hL] at h1; omega) h2) (fun i h1 h2 => hc2 i (by omega) (by omega)) v c hv with h | ⟨p, e1, e2, e3⟩
    · rcases addD_new t q (to : Nat) hn.1 hs (fun i h1 h2 => by
        rw [hc i h1 (Nat.lt_of_lt_of_le h2 hm2), hkeep i (by rw [hL]; omega) (by rw [hL]; omega) (.inr (by omega)), hset i (by omega)]) (fun _ => by simpa using hat) v c h with h | ⟨p, e1, e2, e3⟩
      · exact .inl h
      · exact .inr ⟨p, e1, e2, by omega⟩
    · exact .inr ⟨p, e1, e2, by rw [hL] at e3; omega⟩
end
end Go.Proofs.Ytinclokohcommaa


namespace Go.Proofs.Ytinclokohcommaa
open Go.RowKit
set_option linter.unusedVariables false
set_option linter.unusedSimpArgs false

theorem cell_of {S : So} {p : Nat} {c : Ce} (h : S.cs[p]? = some c) : inS S p = true ∧ cellAt S p = c := by
  have hl := (List.getElem?_eq_some_iff.1 h).1
  refine ⟨inS_iff.2 ⟨by omega, by omega⟩, ?_⟩
  show S.cs.getD ((p : Nat) : Int).toNat default = c
  rw [Int.toNat_natCast, List.getD_eq_getElem?_getD, h]
  rfl
theorem ar_of {S : So} {y : Nat} {nm : ByteArray} {k : Int} (h : S.ys[y]? = some ⟨nm, k⟩) : arS S y = k ∧ syAt S y = ⟨nm, k⟩ := by
  have hl := (List.getElem?_eq_some_iff.1 h).1
  have e : S.ys.getD y default = ⟨nm, k⟩ := by
    rw [List.getD_eq_getElem?_getD, h]
    rfl
  have e2 : syAt S y = ⟨nm, k⟩ := by
    show S.ys.getD ((y : Nat) : Int).toNat default = _
    rw [Int.toNat_natCast, e]
  refine ⟨?_, e2⟩
  unfold arS
  rw [if_pos ⟨by omega, by omega⟩, Int.toNat_natCast, e]
mutual
/-- A term with terms for its variables. -/
def subT (g : Int → Te) : Te → Te
  | .mk k n s l => if k = 0 then g n else .mk k n s (subTs g l)
def subTs (g : Int → Te) : List Te → List Te
  | [] => []
  | t :: l => subT g t :: subTs g l
end
theorem der_id {S : So} {c : Ce} (hv : vcR S c = true) (h : c.t ≠ 0 ∨ cellAt S c.n = c) : derS S c = c := by
  rw [derS, if_pos hv, derN, if_neg]
  rintro ⟨h1, h2, h3⟩
  rcases h with h | h
  · exact h h1
  · exact h3 h
def cellsFrom (S : So) : Nat → Nat → List Ce
  | p, 0 => []
  | p, k + 1 => cellAt S p :: cellsFrom S (p + 1) k
theorem args_from (S : So) : ∀ (k p : Nat), (List.range k).map (fun j : Nat => cellAt S ((p : Nat) + (j : Nat))) = cellsFrom S p k
  | 0, p => rfl
  | k + 1, p => by
    rw [List.range_succ_eq_map, List.map_cons, List.map_map, cellsFrom, ← args_from S k (p + 1)]
    congr 1
    refine List.map_congr_left fun j _ => ?_
    show cellAt S ((p : Int) + ((j + 1 : Nat) : Int)) = cellAt S (((p + 1 : Nat) : Int) + (j : Int))
    congr 1
    omega
theorem argsOf_from (S : So) (p k : Nat) : argsOf S (p : Nat) k = cellsFrom S (p + 1) k := by
  rw [← args_from]
  rfl
theorem node_form {k n : Int} {s : ByteArray} {l : List Te} (h : nodeT (.mk k n s l) = true) : (k = 1 → s = ⟨#[]⟩ ∧ l = []) ∧ (k = 2 → n = 0 ∧ l = []) ∧ (k = 3 → n = 0) := by
  have hc := node_cases h
  rw [nodeT_k] at h
  refine ⟨fun e => ?_, fun e => ?_, fun e => ?_⟩
  · subst e
    simp at h
    exact ⟨h.1, h.2⟩
  · subst e
    simp at h
    exact ⟨h.1, h.2.2⟩
  · subst e
    simp at h
    exact h.1
section
variable {S : So} {f : Int → Ce} {g : Int → Te} {V : List Int}
mutual
theorem get_rep (hg : ∀ v ∈ V, ∀ (m : Nat) (l : Int), szT (g v) ≤ m → (szT (g v) : Int) ≤ l → getN S m (f v) l = (g v, l - szT (g v))) : ∀ (t : Te) (c : Ce), inV V t → nodesT t = true → Rh S f t c → ∀ (m : Nat) (l : Int), szT (subT g t) ≤ m → (szT (subT g t) : Int) ≤ l → getN S m c l = (subT g t, l - szT (subT g t))
  | .mk k n nm l, c, hi, hn, hr, m, a, hm, ha => by
    rw [inV_mk] at hi
    rw [nodesT, Bool.and_eq_true] at hn
    obtain ⟨f1, f2, f3⟩ := node_form hn.1
    rw [Rh] at hr
    rcases hr with ⟨rfl, rfl⟩ | ⟨rfl, rfl⟩ | ⟨rfl, ht, y, hy, hs⟩ | ⟨rfl, ht, p, y, hp, hc, hs, hl⟩
    · rw [subT, if_pos rfl] at hm ha ⊢
      exact hg n (hi.1 rfl) m a hm ha
    · obtain ⟨rfl, rfl⟩ := f1 rfl
      rw [subT, if_neg (by decide), subTs] at hm ha ⊢
      simp only [szT, szTs] at hm ha ⊢
      obtain ⟨m, rfl⟩ : ∃ m', m = m' + 1 := ⟨m - 1, by omega⟩
      have hd : derS S ⟨1, n⟩ = ⟨1, n⟩ := der_id rfl (.inl (fun h => absurd h (by decide : ¬ (1 : Int) = 0)))
      rw [getN, if_neg (by omega), hd]
      rfl
    · obtain ⟨rfl, rfl⟩ := f2 rfl
      obtain ⟨q1, q2⟩ := ar_of hs
      rw [subT, if_neg (by decide), subTs] at hm ha ⊢
      simp only [szT, szTs] at hm ha ⊢
      obtain ⟨m, rfl⟩ : ∃ m', m = m' + 1 := ⟨m - 1, by omega⟩
      have hv : vcR S c = true := by
        unfold vcR
        rw [if_neg (by omega), if_neg (by omega), if_pos ht, hy, q1]
        rfl
      have hd : derS S c = c := der_id hv (.inl (by omega))
      rw [getN, if_neg (by omega), hd, if_neg (by omega), if_pos ht, hy, q2]
      rfl
    · have hn0 := f3 rfl
      subst hn0
      obtain ⟨q1, q2⟩ := ar_of hs
      obtain ⟨q3, q4⟩ := cell_of hc
      rw [subT, if_neg (by decide)] at hm ha ⊢
      simp only [szT] at hm ha ⊢
      obtain ⟨m, rfl⟩ : ∃ m', m = m' + 1 := ⟨m - 1, by omega⟩
      have hv : vcR S c = true := by
        unfold vcR
        rw [if_neg (by omega), if_neg (by omega), if_neg (by omega), if_pos ht, hp, tagS_in q3, q4]
        rfl
      have hd : derS S c = c := der_id hv (.inl (by omega))
      have ih := gets_rep hg l (p + 1) hi.2 hn.2 hl m (a - 1) (by omega) (by omega)
      rw [getN, if_neg (by omega), hd, if_neg (by omega), if_neg (by omega), if_pos ht, hp, q4]
      simp only [q1, q2, argsOf_from, Int.toNat_natCast, ih]
      congr 1
      omega
theorem gets_rep (hg : ∀ v ∈ V, ∀ (m : Nat) (l : Int), szT (g v) ≤ m → (szT (g v) : Int) ≤ l → getN S m (f v) l = (g v, l - szT (g v))) : ∀ (l : List Te) (p : Nat), inVs V l → nodesTs l = true → Rhs S f l p → ∀ (m : Nat) (a : Int), szTs (subTs g l) ≤ m → (szTs (subTs g l) : Int) ≤ a → getL (getN S m) (cellsFrom S p l.length) a = (subTs g l, a - szTs (subTs g l))
  | [], p, _, _, _, m, a, _, _ => by
    simp only [List.length_nil, cellsFrom, getL, subTs, szTs]
    congr 1
    omega
  | t :: l, p, hi, hn, hr, m, a, hm, ha => by
    rw [inVs] at hi
    rw [nodesTs, Bool.and_eq_true] at hn
    rw [Rhs] at hr
    obtain ⟨⟨c, hc, hrt⟩, hrl⟩ := hr
    obtain ⟨q3, q4⟩ := cell_of hc
    rw [subTs] at hm ha ⊢
    rw [szTs] at hm ha ⊢
    have h1 := szT_pos (subT g t)
    have ih := get_rep hg t c hi.1 hn.1 hrt m a (by omega) (by omega)
    have ih2 := gets_rep hg l (p + 1) hi.2 hn.2 hrl m (a - szT (subT g t)) (by omega) (by omega)
    rw [List.length_cons, cellsFrom, q4, getL, if_neg (by omega), ih]
    simp only [ih2]
    congr 1
    omega
end
end

structure Ext (s S : So) : Prop where
  cs : ∀ i : Nat, i < s.cs.length → S.cs[i]? = s.cs[i]?
  len : s.cs.length ≤ S.cs.length
  ys : ∀ (i : Nat) y, s.ys[i]? = some y → S.ys[i]? = some y
section
variable {s S : So}
theorem Ext.inS (E : Ext s S) {i : Int} (h : inS s i = true) : inS S i = true ∧ cellAt S i = cellAt s i := by
  have q := inS_iff.1 h
  have hl := E.len
  refine ⟨inS_iff.2 ⟨q.1, by omega⟩, ?_⟩
  unfold cellAt
  rw [List.getD_eq_getElem?_getD, List.getD_eq_getElem?_getD, E.cs _ (by omega)]
theorem Ext.tag (E : Ext s S) {i : Int} (h : i < s.cs.length) : tagS S i = tagS s i := by
  cases hi : Go.Proofs.Ytinclokohcommaa.inS s i with
  | true => rw [tagS_in hi, tagS_in (E.inS hi).1, (E.inS hi).2]
  | false =>
    rw [tagS_out hi, tagS_out]
    cases h2 : Go.Proofs.Ytinclokohcommaa.inS S i with
    | false => rfl
    | true =>
      have q := inS_iff.1 h2
      rw [inS_iff.2 ⟨q.1, h⟩] at hi
      cases hi
theorem Ext.ar (E : Ext s S) {n : Int} (h : 0 ≤ arS s n) : arS S n = arS s n ∧ syAt S n = syAt s n := by
  obtain ⟨h0, h1, h2⟩ := ar_rng h
  have hy : s.ys[n.toNat]? = some (syAt s n) := by
    unfold syAt
    rw [List.getD_eq_getElem?_getD, List.getElem?_eq_getElem (by omega)]
    rfl
  have hY := E.ys _ _ hy
  have hn : n = ((n.toNat : Nat) : Int) := by omega
  generalize hz : syAt s n = z at hY hy
  obtain ⟨nm, k⟩ := z
  have a1 := ar_of hy
  have a2 := ar_of hY
  rw [← hn] at a1 a2
  exact ⟨a2.1.trans a1.1.symm, a2.2⟩
theorem Ext.vc (E : Ext s S) {c : Ce} (h : vcR s c = true) : vcR S c = true := by
  rcases vcR_tag h with ht | ht | ht | ht | ht
  · obtain ⟨h1, h2⟩ := vc_ref h ht
    obtain ⟨h3, h4⟩ := E.inS h1
    unfold vcR
    rw [if_pos ht, tagS_in h3, h3, h4]
    simp [h2]
  · unfold vcR
    rw [if_neg (by omega), if_pos ht]
  · unfold vcR at h ⊢
    rw [if_neg (by omega), if_neg (by omega), if_pos ht] at h ⊢
    have h := of_decide_eq_true h
    rw [(E.ar (by omega)).1, h]
    rfl
  · unfold vcR at h ⊢
    rw [if_neg (by omega), if_neg (by omega), if_neg (by omega), if_pos ht] at h ⊢
    have h := of_decide_eq_true h
    rw [E.tag (inS_iff.1 (tag_in' (by decide) h)).2, h]
    rfl
  · unfold vcR at h ⊢
    rw [if_neg (by omega), if_neg (by omega), if_neg (by omega), if_neg (by omega), if_pos ht] at h ⊢
    have h := of_decide_eq_true h
    rw [E.tag (inS_iff.1 (tag_in' (by decide) h)).2, h]
    rfl
theorem Ext.ends (E : Ext s S) (h : validR s = true) : ∀ (k : Nat) (n : Int), Go.Proofs.Ytinclokohcommaa.inS s n = true → endsN s k n = true → endsN S k n = true
  | 0, n, _, h1 => by cases h1
  | k + 1, n, hi, h1 => by
    have hT := E.tag (inS_iff.1 hi).2
    have hC := (E.inS hi).2
    by_cases hn : Ns s n
    · have hn' : Ns S n := ⟨hT.trans hn.1, by rw [hC]; exact hn.2⟩
      rw [endsN_ns hn] at h1
      rw [endsN_ns hn', nx, hC]
      exact Ext.ends E h k _ (vr_nx h hn) h1
    · exact endsN_st fun q => hn ⟨hT.symm.trans q.1, by have := q.2; rwa [hC] at this⟩
theorem Ext.derN (E : Ext s S) (h : validR s = true) : ∀ (k : Nat) {c : Ce}, vcR s c = true → Go.Proofs.Ytinclokohcommaa.derN S k c = Go.Proofs.Ytinclokohcommaa.derN s k c
  | 0, c, _ => rfl
  | k + 1, c, hc => by
    unfold Go.Proofs.Ytinclokohcommaa.derN
    by_cases ht : c.t = 0
    · obtain ⟨h1, h2⟩ := vc_ref hc ht
      obtain ⟨h3, h4⟩ := E.inS h1
      rw [h1, h3, h4]
      by_cases he : cellAt s c.n = c
      · rw [if_neg (fun q => q.2.2 he), if_neg (fun q => q.2.2 he)]
      · rw [if_pos ⟨ht, rfl, he⟩, if_pos ⟨ht, rfl, he⟩]
        exact Ext.derN E h k (vr_vc h h1 h2)
    · rw [if_neg (fun q => ht q.1), if_neg (fun q => ht q.1)]
end
end Go.Proofs.Ytinclokohcommaa


namespace Go.Proofs.Ytinclokohcommaa
open Go.RowKit
set_option linter.unusedVariables false
set_option linter.unusedSimpArgs false

theorem symsB_iff {ys : List Sy} : symsB ys = true ↔ ys.length ≤ 1048576 ∧ ys.Nodup ∧ ∀ y ∈ ys, okY y = true := by
  unfold symsB
  rw [Bool.and_eq_true, decide_eq_true_eq, List.all_eq_true]
  refine and_congr Iff.rfl ?_
  constructor
  · intro h
    have h' : ∀ k, k < ys.length → symAt ys k = true := fun k hk => h k (List.mem_range.2 hk)
    refine ⟨List.pairwise_iff_getElem.2 fun i j hi hj hij e => ?_, fun y hy => ?_⟩
    · have := h' j hj
      simp only [symAt, Bool.and_eq_true, Bool.not_eq_true', decide_eq_false_iff_not] at this
      refine this.2 ?_
      rw [show ys.getD j default = ys[i] by rw [e]; simp [List.getD_eq_getElem?_getD, hj]]
      exact List.mem_iff_getElem.2 ⟨i, by simp; omega, by simp⟩
    · obtain ⟨k, hk, rfl⟩ := List.mem_iff_getElem.1 hy
      have := h' k hk
      simp only [symAt, Bool.and_eq_true] at this
      simpa [List.getD_eq_getElem?_getD, hk] using this.1
  · rintro ⟨hn, ho⟩ k hk
    have hk := List.mem_range.1 hk
    simp only [symAt, Bool.and_eq_true, Bool.not_eq_true', decide_eq_false_iff_not]
    have e : ys.getD k default = ys[k] := by simp [List.getD_eq_getElem?_getD, hk]
    rw [e]
    refine ⟨ho _ (List.getElem_mem hk), fun hm => ?_⟩
    obtain ⟨i, hi, he⟩ := List.mem_iff_getElem.1 hm
    have hi2 : i < k := by simp at hi; omega
    rw [List.getElem_take] at he
    exact List.pairwise_iff_getElem.1 hn i k (by omega) hk hi2 he
def okYs (ys : List Sy) : Prop := ys.Nodup ∧ ∀ y ∈ ys, okY y = true
theorem symX_ok {ys : List Sy} {y : Sy} (h : okYs ys) (hy : okY y = true) : okYs (symX ys y) := by
  unfold symX
  split
  · exact h
  · rename_i hm
    refine ⟨List.nodup_append.2 ⟨h.1, by simp, fun a ha b hb e => ?_⟩, fun z hz => ?_⟩
    · rw [List.mem_singleton.1 hb] at e
      exact hm (e ▸ ha)
    · rcases List.mem_append.1 hz with hz | hz
      · exact h.2 z hz
      · rw [List.mem_singleton.1 hz]; exact hy
mutual
theorem symsT_ok : ∀ (t : Te) (ys : List Sy), nodesT t = true → okYs ys → okYs (symsT ys t)
  | .mk k n nm l, ys, hn, h => by
    rw [nodesT, Bool.and_eq_true] at hn
    rw [symsT]
    refine symsTs_ok l _ hn.2 ?_
    rcases node_cases hn.1 with ⟨rfl, rfl, h1, h2⟩ | ⟨rfl, rfl⟩ | ⟨rfl, rfl, h1⟩ | ⟨rfl, h1, h2, h3⟩
    · exact h
    · exact h
    · refine symX_ok h ?_
      simp [okY]
      omega
    · refine symX_ok h ?_
      simp [okY]
      omega
theorem symsTs_ok : ∀ (l : List Te) (ys : List Sy), nodesTs l = true → okYs ys → okYs (symsTs ys l)
  | [], ys, _, h => by rw [symsTs]; exact h
  | t :: l, ys, hn, h => by
    rw [nodesTs, Bool.and_eq_true] at hn
    rw [symsTs]
    exact symsTs_ok l _ hn.2 (symsT_ok t ys hn.1 h)
end
structure Vgood (S : So) (c : Ce) : Prop where
  vc : vcR S c = true
  no5 : c.t ≠ 5
  ends : c.t = 0 → endsN S S.cs.length c.n = true
section
variable {s S : So} {f : Int → Ce} {V : List Int}
theorem Rh_good (hf : ∀ v ∈ V, Vgood S (f v)) {t : Te} {c : Ce} (hi : inV V t) (hn : nodesT t = true) (h : Rh S f t c) : Vgood S c := by
  obtain ⟨k, n, nm, l⟩ := t
  rw [inV_mk] at hi
  rw [Rh] at h
  rcases h with ⟨rfl, rfl⟩ | ⟨rfl, rfl⟩ | ⟨rfl, ht, y, hy, hs⟩ | ⟨rfl, ht, p, y, hp, hc, hs, hl⟩
  · exact hf n (hi.1 rfl)
  · exact ⟨rfl, fun h => absurd h (by decide : ¬ (1 : Int) = 5), fun h => absurd h (by decide : ¬ (1 : Int) = 0)⟩
  · obtain ⟨q1, q2⟩ := ar_of hs
    refine ⟨?_, by omega, fun h => by omega⟩
    unfold vcR
    rw [if_neg (by omega), if_neg (by omega), if_pos ht, hy, q1]
    rfl
  · obtain ⟨q3, q4⟩ := cell_of hc
    refine ⟨?_, by omega, fun h => by omega⟩
    unfold vcR
    rw [if_neg (by omega), if_neg (by omega), if_neg (by omega), if_pos ht, hp, tagS_in q3, q4]
    rfl
theorem Vgood.no4 {c : Ce} (h : Vgood S c) : c.t ≠ 4 := fun e => by
  rcases vcR_tag h.vc with q | q | q | q | q <;> omega
theorem group_ext (E : Ext s S) (hs : S.ser = s.ser) {i : Int} (h : groupS s i = true) : groupS S i = true := by
  simp only [groupS, Bool.and_eq_true, decide_eq_true_eq, Bool.not_eq_true', decide_eq_false_iff_not] at h ⊢
  obtain ⟨h1, h2, h3, h4, h5, h6⟩ := h
  have i1 := tag_in' (by decide) h1
  have i2 := tag_nn h4
  rw [E.tag (inS_iff.1 i1).2, E.tag (inS_iff.1 i2).2, (E.inS i1).2, hs]
  exact ⟨h1, h2, h3, h4, h5, h6⟩
theorem cellR_ext (E : Ext s S) (h : validR s = true) (hs : S.ser = s.ser) {i : Int} (hi : inS s i = true) : cellR S i = true := by
  have hc := vr_cell h hi
  have he := vr_ends_len h hi
  have hl := E.len
  unfold cellR at hc ⊢
  rw [(E.inS hi).2]
  split at hc
  · rename_i ht
    rw [if_pos ht]
    simp only [Bool.and_eq_true, decide_eq_true_eq, List.all_eq_true, List.mem_range, Bool.not_eq_true', decide_eq_false_iff_not] at hc ⊢
    obtain ⟨h1, h2, h3⟩ := hc
    rw [(E.ar (by omega)).1]
    have q := inS_iff.1 h2
    refine ⟨h1, (E.inS h2).1, fun j hj => ?_⟩
    rw [E.tag (by omega)]
    exact h3 j hj
  · rename_i ht
    rw [if_neg ht]
    simp only [Bool.and_eq_true, Bool.or_eq_true, decide_eq_true_eq] at hc ⊢
    obtain ⟨h1, h2, h3⟩ := hc
    refine ⟨E.vc h1, ?_, h3.imp id fun q => ⟨q.1, group_ext E hs q.2⟩⟩
    exact endsN_le (by omega) (E.ends h _ _ hi he)
theorem old_ext (E : Ext s S) (hs : S.ser = s.ser) {u : Un} (h : oldR s u = true) : oldR S u = true := by
  simp only [oldR, oldB, Bool.and_eq_true] at h ⊢
  obtain ⟨h1, h2⟩ := h
  have q := inS_iff.1 h1
  refine ⟨(E.inS h1).1, ?_⟩
  split at h2
  · rename_i h3
    rw [if_pos h3]; exact h2
  rename_i h3
  rw [if_neg h3]
  split at h2
  · rename_i h4
    rw [if_pos h4]
    simp only [Bool.and_eq_true] at h2 ⊢
    refine ⟨h2.1, group_ext E hs h2.2.1, ?_⟩
    rw [E.tag (by omega)]
    exact h2.2.2
  rename_i h4
  rw [if_neg h4]
  split at h2
  · rename_i h5
    rw [if_pos h5]; exact E.vc h2
  · cases h2
theorem wake_ext (E : Ext s S) (hs : S.ser = s.ser) {w : Wk} (h : wkB vcR s w = true) : wkB vcR S w = true := by
  simp only [wkB, Bool.and_eq_true] at h ⊢
  rw [hs]
  exact ⟨h.1, h.2.1, E.vc h.2.2.1, E.vc h.2.2.2⟩
theorem cellR_new (hf : ∀ v ∈ V, Vgood S (f v)) {i : Nat} (h : NewOk S f (fun t => nodesT t = true ∧ inV V t) i) : cellR S i = true := by
  have e1 : ∀ k : Nat, (k : Int).toNat = k := fun k => Int.toNat_natCast k
  rcases h with ⟨y, k, nm, hc, hy, h1, h2, hj⟩ | ⟨t, c, ⟨hn, hi⟩, hc, hr⟩
  · obtain ⟨q1, q2⟩ := cell_of hc
    obtain ⟨q3, q4⟩ := ar_of hy
    unfold cellR
    rw [q2, if_pos rfl]
    simp only [q3, e1, Bool.and_eq_true, decide_eq_true_eq, List.all_eq_true, List.mem_range, Bool.not_eq_true', decide_eq_false_iff_not]
    refine ⟨by omega, ?_, fun j hjk => ?_⟩
    · obtain ⟨t, c, -, g1, -⟩ := hj k h1 (Nat.le_refl _)
      exact (cell_of g1).1
    · obtain ⟨t, c, ⟨g0, g00⟩, g1, g2⟩ := hj (j + 1) (by omega) (by omega)
      obtain ⟨g3, g4⟩ := cell_of g1
      have e : ((i : Int) + ((j : Int) + 1)) = ((i + (j + 1) : Nat) : Int) := by omega
      rw [e, tagS_in g3, g4]
      exact (Rh_good hf g00 g0 g2).no4
  · obtain ⟨q1, q2⟩ := cell_of hc
    have hg := Rh_good hf hi hn hr
    unfold cellR
    rw [q2, if_neg hg.no4, hg.vc]
    simp only [Bool.true_and, Bool.and_eq_true, Bool.or_eq_true]
    refine ⟨?_, .inl (by simp [hg.no5])⟩
    unfold endsB
    by_cases hN : Ns S i
    · rw [endsN_ns hN, nx, q2]
      refine hg.ends ?_
      have := hN.1
      rwa [tagS_in q1, q2] at this
    · exact endsN_st hN
theorem valid_new (h : validR s = true) (E : Ext s S) (hm : S.mx = s.mx) (ht : S.tr = s.tr) (hw : S.wk = s.wk) (hs : S.ser = s.ser) (hc : (S.cs.length : Int) ≤ S.mx) (hy : symsB S.ys = true) (hf : ∀ v ∈ V, Vgood S (f v)) (hn : ∀ i, s.cs.length ≤ i → i < S.cs.length → NewOk S f (fun t => nodesT t = true ∧ inV V t) i) : validR S = true := by
  have hh := vr_head h
  have h0 := h
  simp only [validR, headB, Bool.and_eq_true, decide_eq_true_eq] at h hh ⊢
  obtain ⟨-, h2, h3, h4⟩ := h
  rw [hm, hs, ht, hw]
  refine ⟨⟨hh.1, hh.2.1, by rw [← hm]; exact hc, hh.2.2.2.1, hy⟩, all_yes fun i hi => ?_, all_yes fun i hi => old_ext E hs (all_of h3 hi), all_yes fun i hi => wake_ext E hs (all_of h4 hi)⟩
  rcases Nat.lt_or_ge i s.cs.length with h5 | h5
  · exact cellR_ext E h0 hs (inS_iff.2 ⟨by omega, by omega⟩)
  · exact cellR_new hf (hn i h5 hi)
end
end Go.Proofs.Ytinclokohcommaa


namespace Go.Proofs.Ytinclokohcommaa
open Go.RowKit
set_option linter.unusedVariables false
set_option linter.unusedSimpArgs false

def Fr (all : List Vc) (n : Nat) (H : Nat → Prop) : Prop := ∀ v c, ofV all v = some c → ∃ p : Nat, c = ⟨0, p⟩ ∧ p < n ∧ ¬ H p
def Inj (all : List Vc) : Prop := ∀ v w c, ofV all v = some c → ofV all w = some c → v = w
theorem Inj.ins {all : List Vc} {n : Int} {c : Ce} (h : Inj all) (ho : ofV all n = none) (hc : ∀ v, ofV all v ≠ some c) : Inj (insV all n c) := fun v w d hv hw => by
  rw [ofV_ins ho] at hv hw
  split at hv <;> split at hw
  · rename_i h1 h2; exact h1.trans h2.symm
  · cases hv; exact absurd hw (hc w)
  · cases hw; exact absurd hv (hc v)
  · exact h v w d hv hw
mutual
theorem addD_inj : ∀ (t : Te) (q : Sv) (a : Int) (H : Nat → Prop), nodesT t = true → SV q.2 → Fr q.2 q.1.cs.length H → (0 ≤ a → H a.toNat) → (∀ p, H p → p < q.1.cs.length) → Inj q.2 → Inj (addD q t a).2.2 ∧ Fr (addD q t a).2.2 (addD q t a).2.1.cs.length (fun p => H p ∧ (p : Int) ≠ a)
  | .mk k n nm l, q, a, H, hn, hs, hf, ha, hH, hi => by
    have hm := addD_mono (a := a) hn hs
    rw [nodesT, Bool.and_eq_true] at hn
    rcases node_cases hn.1 with ⟨rfl, rfl, h1, h2⟩ | ⟨rfl, rfl⟩ | ⟨rfl, rfl, h1⟩ | ⟨rfl, h1, h2, h3⟩
    · rw [addD_0] at hm ⊢
      cases ho : ofV q.2 n with
      | some c =>
        simp only [ho] at hm ⊢
        exact ⟨hi, fun v c hv => (hf v c hv).imp fun p ⟨e1, e2, e3⟩ => ⟨e1, e2, fun q => e3 q.1⟩⟩
      | none =>
        by_cases h0 : a < 0
        · simp only [ho, if_pos h0] at hm ⊢
          refine ⟨hi.ins ho fun v hv => ?_, fun v c hv => ?_⟩
          · obtain ⟨p, e1, e2, -⟩ := hf v _ hv
            have := congrArg Ce.n e1
            simp only at this
            omega
          · rw [ofV_ins ho] at hv
            split at hv
            · cases hv
              exact ⟨_, rfl, by simp, fun h => absurd (hH _ h.1) (Nat.lt_irrefl _)⟩
            · obtain ⟨p, e1, e2, e3⟩ := hf v c hv
              exact ⟨p, e1, by omega, fun q => e3 q.1⟩
        · simp only [ho, if_neg h0] at hm ⊢
          have e : (a.toNat : Int) = a := Int.toNat_of_nonneg (by omega)
          have haH := ha (by omega)
          refine ⟨hi.ins ho fun v hv => ?_, fun v c hv => ?_⟩
          · obtain ⟨p, e1, e2, e3⟩ := hf v _ hv
            have := congrArg Ce.n e1
            simp only at this
            have : p = a.toNat := by omega
            subst this
            exact e3 haH
          · rw [ofV_ins ho] at hv
            split at hv
            · cases hv
              exact ⟨a.toNat, by rw [e], hH _ haH, fun h => h.2 e⟩
            · obtain ⟨p, e1, e2, e3⟩ := hf v c hv
              exact ⟨p, e1, by omega, fun q => e3 q.1⟩
    · rw [addD_1]
      exact ⟨hi, fun v c hv => (hf v c hv).imp fun p ⟨e1, e2, e3⟩ => ⟨e1, e2, fun q => e3 q.1⟩⟩
    · rw [addD_2] at hm ⊢
      exact ⟨hi, fun v c hv => (hf v c hv).imp fun p ⟨e1, e2, e3⟩ => ⟨e1, by have hm := hm; simp only at hm ⊢; omega, fun q => e3 q.1⟩⟩
    · rw [addD_3] at hm ⊢
      have hg := grow_len q.1 (symN q.1 nm (l.length : Nat)).1 l.length
      have ih := addAs_inj l ({ (symN q.1 nm (l.length : Nat)).2 with cs := grow q.1 (symN q.1 nm (l.length : Nat)).1 l.length }, q.2) (q.1.cs.length + 1) (fun p => H p ∨ q.1.cs.length + 1 ≤ p ∧ p < q.1.cs.length + 1 + l.length) hn.2 hs (fun v c hv => by
        obtain ⟨p, e1, e2, e3⟩ := hf v c hv
        refine ⟨p, e1, ?_, ?_⟩
        · show p < (grow _ _ _).length
          omega
        · rintro (h | h)
          · exact e3 h
          · omega) (fun p hp => by
        show p < (grow _ _ _).length
        rcases hp with h | h
        · have := hH p h
          omega
        · omega) (fun i g1 g2 => .inr ⟨g1, g2⟩) hi
      obtain ⟨i1, i2⟩ := ih
      refine ⟨i1, fun v c hv => ?_⟩
      obtain ⟨p, e1, e2, e3⟩ := i2 v c hv
      refine ⟨p, e1, e2, fun h => e3 ⟨.inl h.1, fun r => ?_⟩⟩
      have := hH p h.1
      omega
theorem addAs_inj : ∀ (l : List Te) (q : Sv) (to : Nat) (H : Nat → Prop), nodesTs l = true → SV q.2 → Fr q.2 q.1.cs.length H → (∀ p, H p → p < q.1.cs.length) → (∀ i, to ≤ i → i < to + l.length → H i) → Inj q.2 → Inj (addAs q l to).2 ∧ Fr (addAs q l to).2 (addAs q l to).1.cs.length (fun p => H p ∧ ¬ (to ≤ p ∧ p < to + l.length))
  | [], q, to, H, _, _, hf, _, _, hi => by
    rw [addAs]
    exact ⟨hi, fun v c hv => (hf v c hv).imp fun p ⟨e1, e2, e3⟩ => ⟨e1, e2, fun q => e3 q.1⟩⟩
  | t :: l, q, to, H, hn, hs, hf, hH, hr, hi => by
    rw [nodesTs, Bool.and_eq_true] at hn
    rw [List.length_cons] at hr
    rw [addAs]
    have h4 := (addD_len t q (to : Nat) hn.1 hs).2.2.2
    have hm := addD_mono (a := (to : Nat)) hn.1 hs
    obtain ⟨i1, i2⟩ := addD_inj t q (to : Nat) H hn.1 hs hf (fun _ => by rw [Int.toNat_natCast]; exact hr to (Nat.le_refl _) (by omega)) hH hi
    have hL := setC_len (addD q t (to : Nat)).2.1 to (addD q t (to : Nat)).1
    obtain ⟨j1, j2⟩ := addAs_inj l (setC (addD q t (to : Nat)).2.1 to (addD q t (to : Nat)).1, (addD q t (to : Nat)).2.2) (to + 1) (fun p => H p ∧ (p : Int) ≠ (to : Nat)) hn.2 h4 (by rw [hL]; exact i2) (fun p hp => by
      rw [hL]
      have := hH p hp.1
      omega) (fun i g1 g2 => ⟨hr i (by omega) (by omega), by omega⟩) i1
    refine ⟨j1, fun v c hv => ?_⟩
    obtain ⟨p, e1, e2, e3⟩ := j2 v c hv
    refine ⟨p, e1, e2, fun h => e3 ⟨⟨h.1, fun r => ?_⟩, fun r => ?_⟩⟩
    · have h2 := h.2
      rw [List.length_cons] at h2
      omega
    · have h2 := h.2
      rw [List.length_cons] at h2
      omega
end
theorem ofV_some {l : List Vc} (h : SV l) {x : Vc} (hx : x ∈ l) : ofV l x.v = some x.c := by
  have h1 := h.1
  clear h
  induction l with
  | nil => cases hx
  | cons y l ih =>
    rw [List.pairwise_cons] at h1
    rw [ofV]
    rcases List.mem_cons.1 hx with rfl | hx
    · rw [if_pos rfl]
    · have := h1.1 x hx
      rw [if_neg (by omega)]
      exact ih hx h1.2

def fOf (all : List Vc) (v : Int) : Ce := keptC ((ofV all v).getD default)
theorem fOf_some {all : List Vc} {v : Int} {c : Ce} (h : ofV all v = some c) : fOf all v = keptC c := by rw [fOf, h]; rfl
structure PutOk (s : So) (t : Te) (l : List Vc) (c : Ce) (all : List Vc) (S : So) : Prop where
  ext : Ext s S
  rst : Rst s S
  valid : validR S = true
  rep : Rh S (fOf all) t c
  sv : SV all
  of : ∀ v d, ofV l v = some d → ofV all v = some d
  new : ∀ v d, ofV all v = some d → ofV l v = some d ∨ ∃ p : Nat, d = ⟨0, p⟩ ∧ S.cs[p]? = some d
  vc : vcR S c = true
  vv : vvP S all = true
  len : S.cs.length = s.cs.length + nedT t l
  ys : ∃ m, S.ys = s.ys ++ m
  vars : ∀ v, v ∈ varsT (l.map Vc.v) t ↔ (ofV all v).isSome = true
  varsG : ∀ vs : List Int, (∀ v, v ∈ vs ↔ (ofV l v).isSome = true) → (∀ v, v ∈ varsT vs t ↔ (ofV all v).isSome = true) ∧ all.length + vs.length = l.length + (varsT vs t).length
  cnt : all.length = (varsT (l.map Vc.v) t).length
  inj : ∀ H : Inj l, (∀ v d, ofV l v = some d → ∃ p : Nat, d = ⟨0, p⟩ ∧ p < s.cs.length) → Inj all ∧ ∀ v d, ofV all v = some d → ∃ p : Nat, d = ⟨0, p⟩ ∧ p < S.cs.length
theorem mem_of {l : List Vc} (v : Int) : v ∈ l.map Vc.v ↔ (ofV l v).isSome = true := by
  induction l with
  | nil => simp [ofV]
  | cons x l ih =>
    rw [List.map_cons, List.mem_cons, ih, ofV]
    by_cases h : x.v = v
    · simp [h]
    · have h' : ¬ v = x.v := fun e => h e.symm
      simp [h, h']
theorem kept_good {s S : So} (h : validR s = true) (E : Ext s S) (hl : 0 < S.cs.length) {c : Ce} (hc : vcR s c = true) : Vgood S (keptC c) := by
  have hL := E.len
  unfold keptC
  split
  · rename_i h5
    have ht : tagS s c.n = 5 := by
      unfold vcR at hc
      rw [if_neg (by omega), if_neg (by omega), if_neg (by omega), if_neg (by omega), if_pos h5] at hc
      exact of_decide_eq_true hc
    have hi := tag_in' (by decide) ht
    have hT := E.tag (inS_iff.1 hi).2
    have hI := (E.inS hi).1
    refine ⟨?_, fun h => absurd h (by decide : ¬ (0 : Int) = 5), fun _ => ?_⟩
    · unfold vcR
      rw [if_pos rfl]
      simp only [hI, hT, ht]
      rfl
    · obtain ⟨k, hk⟩ : ∃ k, S.cs.length = k + 1 := ⟨S.cs.length - 1, by omega⟩
      rw [hk]
      exact endsN_st fun q => by have := q.1; simp only [hT, ht] at this; omega
  · rename_i h5
    refine ⟨E.vc hc, h5, fun h0 => ?_⟩
    have := (vc_ref hc h0).1
    exact endsN_le hL (E.ends h _ _ this (vr_ends_len h this))
theorem self_good {S : So} {p : Nat} (h : S.cs[p]? = some ⟨0, p⟩) : Vgood S ⟨0, p⟩ := by
  obtain ⟨h1, h2⟩ := cell_of h
  have hl := (List.getElem?_eq_some_iff.1 h).1
  refine ⟨?_, fun h => absurd h (by decide : ¬ (0 : Int) = 5), fun _ => ?_⟩
  · unfold vcR
    rw [if_pos rfl]
    simp only [h1, tagS_in h1, h2]
    rfl
  · obtain ⟨k, hk⟩ : ∃ k, S.cs.length = k + 1 := ⟨S.cs.length - 1, by omega⟩
    rw [hk]
    refine endsN_st fun q => q.2 ?_
    show (cellAt S (p : Nat)).n = _
    rw [h2]
theorem put_ok {s : So} {t : Te} {l : List Vc} (hs : validR s = true) (ht : validT t = true) (hl : vvP s l = true) (hr : roomB s t l = true) : PutOk s t l (addD (s, l) t (-1)).1 (addD (s, l) t (-1)).2.2 (addD (s, l) t (-1)).2.1 := by
  have hA := room_add hs ht hl hr
  simp only [addQ, Bool.and_eq_true, decide_eq_true_eq] at hA
  obtain ⟨hn, hsv, hcs, hmx, hys, -⟩ := hA
  obtain ⟨g1, g2, ⟨r1, r2, r3, r4⟩, g4⟩ := addD_len t (s, l) (-1) hn hsv
  have hk := fun i h => addD_keep t (s, l) (-1) i hn hsv h
  have hof := addD_of t (s, l) (-1) hn
  obtain ⟨v1, v2⟩ := addD_vars t (s, l) (-1) (l.map Vc.v) hn (fun v => mem_of v)
  have hvg := fun vs h => addD_vars t (s, l) (-1) vs hn h
  have hnew := addD_new (S := (addD (s, l) t (-1)).2.1) t (s, l) (-1) hn hsv (fun i _ _ => rfl) (fun h => absurd h (by decide))
  have hinj := fun H h1 h2 h3 h4 => addD_inj t (s, l) (-1) H hn hsv h1 h2 h3 h4
  have hm := addD_mono (a := -1) (q := (s, l)) hn hsv
  rw [if_pos (by decide)] at g1 hcs
  obtain ⟨hd1, hd2, hd3, hd4⟩ := vr_hd hs
  obtain ⟨m, hpre⟩ := symsT_pre t s.ys
  have hrep := addD_rep (S := (addD (s, l) t (-1)).2.1) (f := fOf (addD (s, l) t (-1)).2.2) (P := fun u => nodesT u = true ∧ inV (varsT (l.map Vc.v) t) u) (fun k n nm l' hp u hu => by
    rw [nodesT, Bool.and_eq_true, inV_mk] at hp
    exact ⟨nodesTs_iff.1 hp.1.2 u hu, inVs_iff.1 hp.2.2 u hu⟩) t (s, l) (-1) ⟨hn, varsT_in t _⟩ hn hsv (fun i _ _ => rfl) (fun i y h => h) (fun v c h => fOf_some h)
  have hcz := cntT_sz t
  simp only [validT, Bool.and_eq_true, decide_eq_true_eq] at ht
  generalize addD (s, l) t (-1) = R at *
  obtain ⟨rep, news⟩ := hrep
  have E : Ext s R.2.1 := ⟨fun i h => hk i h, hm, fun i y h => by rw [g2]; show (symsT s.ys t)[i]? = _; rw [hpre]; exact ys_up h⟩
  have hvs := validR_vs hs
  have hlv := (vvP_iff.1 hl).2
  have hvP : ∀ c, vcP s c = vcR s c := hvs.vc
  have hsome : ∀ v d, ofV R.2.2 v = some d → Vgood R.2.1 (keptC d) := fun v d hv => by
    rcases hnew v d hv with h | ⟨p, e, h, -⟩
    · have hmem := ofV_mem h
      have hvd : vcR s d = true := by rw [← hvP]; exact hlv _ hmem
      have hpos : 0 < R.2.1.cs.length ∨ d.t ≠ 0 ∧ d.t ≠ 5 := by
        rcases Nat.eq_zero_or_pos R.2.1.cs.length with h0 | h0
        · right
          have hs0 : s.cs.length = 0 := by have : s.cs.length ≤ R.2.1.cs.length := hm; omega
          refine ⟨fun q => ?_, fun q => ?_⟩
          · have := inS_iff.1 (vc_ref hvd q).1
            omega
          · unfold vcR at hvd
            rw [if_neg (by omega), if_neg (by omega), if_neg (by omega), if_neg (by omega), if_pos q] at hvd
            have := inS_iff.1 (tag_in' (by decide) (of_decide_eq_true hvd))
            omega
        · exact .inl h0
      rcases hpos with h0 | h0
      · exact kept_good hs E h0 hvd
      · have : keptC d = d := if_neg h0.2
        rw [this]
        exact ⟨E.vc hvd, h0.2, fun q => absurd q h0.1⟩
    · subst e
      exact self_good h
  have hgood : ∀ v ∈ varsT (l.map Vc.v) t, Vgood R.2.1 (fOf R.2.2 v) := fun v hv => by
    have := (v1 v).1 hv
    cases ho : ofV R.2.2 v with
    | none => rw [ho] at this; cases this
    | some d => rw [fOf_some ho]; exact hsome v d ho
  have hsy : symsB R.2.1.ys = true := by
    have h0 := symsB_iff.1 (vr_syms hs)
    refine symsB_iff.2 ⟨by rw [g2]; exact hys, ?_⟩
    rw [g2]
    exact symsT_ok t s.ys hn ⟨h0.2.1, h0.2.2⟩
  have hval : validR R.2.1 = true := valid_new (V := varsT (l.map Vc.v) t) (f := fOf R.2.2) hs E r1 r2 r3 r4 (by rw [g1, r1]; show ((s.cs.length + nedT t l : Nat) : Int) ≤ s.mx; have hcs : (s.cs.length : Int) + ((nedT t l : Nat) : Int) ≤ s.mx := hcs; omega) hsy hgood news
  have hvP2 : ∀ c, vcP R.2.1 c = vcR R.2.1 c := (validR_vs hval).vc
  refine ⟨E, ⟨r1, r2, r3, r4⟩, hval, rep, g4, hof, fun v d hv => (hnew v d hv).imp id fun ⟨p, e, h, _⟩ => ⟨p, e, h⟩, (Rh_good hgood (varsT_in t _) hn rep).vc, vvP_iff.2 ⟨g4, fun x hx => ?_⟩, g1, ⟨m, by rw [g2]; exact hpre⟩, v1, hvg, ?_, fun H hb => ?_⟩
  · rw [hvP2]
    rcases hnew _ _ (ofV_some g4 hx) with h | ⟨p, e, h, -⟩
    · exact E.vc (by rw [← hvP]; exact hlv _ (ofV_mem h))
    · rw [e] at h ⊢
      exact (self_good h).vc
  · rw [List.length_map] at v2
    have v2 : R.2.2.length + l.length = l.length + (varsT (l.map Vc.v) t).length := v2
    omega
  · obtain ⟨i1, i2⟩ := hinj (fun _ => False) (fun v c hv => (hb v c hv).imp fun p ⟨e1, e2⟩ => ⟨e1, e2, id⟩) (fun h => absurd h (by decide)) (fun p h => h.elim) H
    exact ⟨i1, fun v d hv => (i2 v d hv).imp fun p ⟨e1, e2, _⟩ => ⟨e1, e2⟩⟩
end Go.Proofs.Ytinclokohcommaa


namespace Go.Proofs.Ytinclokohcommaa
open Go.RowKit
set_option linter.unusedVariables false
set_option linter.unusedSimpArgs false

def varsS (t : Te) : List Int := if validT t then varsT [] t else []
def gVarsS : List D → Option (List D)
  | [t] => some [eIs (varsS (dT t))]
  | _ => none
theorem ok_ref03_Vars : FOk q1z gVarsS := fok_ref03_Vars q3s ok_ref03_vars fun ds outs hw hg => by
  obtain ⟨d, r, rfl, hd, rfl⟩ := hw
  obtain ⟨t, rfl, ht⟩ := wfT hd
  simp only [gVarsS, dT_eT, Option.some.injEq] at hg
  subst hg
  simp only [q4i, q00, go_br, q01, q02, allSay, X.says, X.ev, X.evs, evl, tblS, List.getD_cons_zero, List.getD_cons_succ, List.getElem?_cons_zero, List.getElem?_cons_succ, tt_b, int_i, str_s, rs_r, Option.isSome_some, Option.getD_some, decide_eq_true_eq, decide_eq_false_iff_not, dS_eS, dC_eC, dU_eU, dW_eW, dY_eY, eC_0, eC_1, eU_0, eU_1, eW_0, eW_1, eW_2, eY_0, eY_1, eS_0, eS_1, eS_2, eS_3, eS_4, eS_5, List.length_map, i_inj, b_inj, s_inj, eC_eq, eU_eq, eW_eq, eY_eq, eS_eq, rng64, List.take_succ_cons, List.take_zero, List.nil_append, List.cons_append, decide_true, decide_false, Bool.or_true, true_and, and_true, dT_eT, eT_0, eT_1, eT_2, eT_3, eT_eq, eT_z, gTb, gVars, varsS]
  cases hv : validT t
  · simp [eIs]
  · have h2 := hv
    simp only [validT, Bool.and_eq_true, decide_eq_true_eq] at h2
    have e : dIs (.r []) = [] := rfl
    have : (dIs (.r [])).length + szT t ≤ 1000000 := by rw [e]; simp; omega
    have h3 : szT t ≤ 1000000 := by omega
    simp only [if_pos this, e]
    simp [h3]
def canS (t : Te) : Te := if validT t then numT (varsT [] t) t else zT
theorem ok_ref03_Canon : FOk q1s (gTT canS) := fok_ref03_Canon q3s ok_ref03_vars ok_ref03_number fun ds outs hw hg => by
  obtain ⟨d, r, rfl, hd, rfl⟩ := hw
  obtain ⟨t, rfl, ht⟩ := wfT hd
  simp only [gTT, dT_eT, Option.some.injEq] at hg
  subst hg
  simp only [q43, q00, go_br, q01, q02, allSay, X.says, X.ev, X.evs, evl, tblS, List.getD_cons_zero, List.getD_cons_succ, List.getElem?_cons_zero, List.getElem?_cons_succ, tt_b, int_i, str_s, rs_r, Option.isSome_some, Option.getD_some, decide_eq_true_eq, decide_eq_false_iff_not, dS_eS, dC_eC, dU_eU, dW_eW, dY_eY, eC_0, eC_1, eU_0, eU_1, eW_0, eW_1, eW_2, eY_0, eY_1, eS_0, eS_1, eS_2, eS_3, eS_4, eS_5, List.length_map, i_inj, b_inj, s_inj, eC_eq, eU_eq, eW_eq, eY_eq, eS_eq, rng64, List.take_succ_cons, List.take_zero, List.nil_append, List.cons_append, decide_true, decide_false, Bool.or_true, true_and, and_true, dT_eT, eT_0, eT_1, eT_2, eT_3, eT_eq, eT_z, gTb, gVars, gNum, canS]
  cases hv : validT t
  · simp [eT_z]
  · have h2 := hv
    simp only [validT, Bool.and_eq_true, decide_eq_true_eq] at h2
    have e : dIs (.r []) = [] := rfl
    have : (dIs (.r [])).length + szT t ≤ 1000000 := by rw [e]; simp; omega
    have h3 : szT t ≤ 1000000 := by omega
    simp only [if_pos this, e]
    simp [h3, dIs_eIs]
def varS (u t : Te) : Bool := validT u && (validT t && decide (canS u = canS t))
theorem ok_ref03_Variant : FOk q1g (gTTb varS) := fok_ref03_Variant q3s ok_ref03_Canon ok_ref03_identical fun ds outs hw hg => by
  obtain ⟨d, r, rfl, hd, e, r', rfl, he, rfl⟩ := hw
  obtain ⟨t, rfl, ht⟩ := wfT hd
  obtain ⟨u, rfl, hu⟩ := wfT he
  simp only [gTTb, dT_eT, Option.some.injEq] at hg
  subst hg
  have e1 : idT (canS t) (canS u) = decide (canS t = canS u) := by
    rw [Bool.eq_iff_iff, idT_iff, decide_eq_true_eq]
  simp [q3f, q00, go_br, q01, q02, allSay, X.says, X.ev, X.evs, evl, tblS, List.getD_cons_zero, List.getD_cons_succ, List.getElem?_cons_zero, List.getElem?_cons_succ, tt_b, int_i, str_s, rs_r, Option.isSome_some, Option.getD_some, decide_eq_true_eq, decide_eq_false_iff_not, dS_eS, dC_eC, dU_eU, dW_eW, dY_eY, eC_0, eC_1, eU_0, eU_1, eW_0, eW_1, eW_2, eY_0, eY_1, eS_0, eS_1, eS_2, eS_3, eS_4, eS_5, List.length_map, i_inj, b_inj, s_inj, eC_eq, eU_eq, eW_eq, eY_eq, eS_eq, rng64, List.take_succ_cons, List.take_zero, List.nil_append, List.cons_append, decide_true, decide_false, Bool.or_true, true_and, and_true, dT_eT, eT_0, eT_1, eT_2, eT_3, eT_eq, eT_z, gTb, gTT, gTTb, varS, e1, Bool.and_assoc]
theorem can_map {t : Te} {f : Int → Int} (hi : ∀ x ∈ varsT [] t, ∀ y ∈ varsT [] t, f x = f y → x = y) (hr : ∀ x ∈ varsT [] t, 0 ≤ f x ∧ f x ≤ 1099511627776) (hv : validT t = true) : varsT [] (mapV f t) = (varsT [] t).map f ∧ validT (mapV f t) = true ∧ canS (mapV f t) = canS t := by
  have h1 := varsT_map (f := f) t [] hi
  have h2 := validT_map hr (varsT_in t []) hv
  refine ⟨h1, h2, ?_⟩
  have h1' : varsT [] (mapV f t) = (varsT [] t).map f := h1
  rw [canS, canS, if_pos h2, if_pos hv, h1']
  show mapV _ _ = mapV _ _
  rw [mapV_comp]
  exact mapV_congr (fun x hx => posL_map hx fun y hy e => hi y hy x hx e) t (varsT_in t [])
mutual
theorem sub_map {g : Int → Te} {f : Int → Int} (h : ∀ v, g v = .mk 0 (f v) ⟨#[]⟩ []) : ∀ t : Te, nodesT t = true → subT g t = mapV f t
  | .mk k n s l, hn => by
    rw [nodesT, Bool.and_eq_true] at hn
    rw [subT, mapV, subs_map h l hn.2]
    by_cases h0 : k = 0
    · subst h0
      have := hn.1
      rw [nodeT_k] at this
      simp at this
      rw [if_pos rfl, if_pos rfl, h, this.2.2.1, this.2.2.2]
      rfl
    · rw [if_neg h0, if_neg h0]
theorem subs_map {g : Int → Te} {f : Int → Int} (h : ∀ v, g v = .mk 0 (f v) ⟨#[]⟩ []) : ∀ l : List Te, nodesTs l = true → subTs g l = mapVs f l
  | [], _ => rfl
  | t :: l, hn => by
    rw [nodesTs, Bool.and_eq_true] at hn
    rw [subTs, mapVs, sub_map h t hn.1, subs_map h l hn.2]
end
def adr (all : List Vc) (v : Int) : Int := (fOf all v).n
theorem get_self {S : So} {p : Nat} (h : S.cs[p]? = some ⟨0, p⟩) {m : Nat} {l : Int} (hm : 1 ≤ m) (hl : 1 ≤ l) : getN S m ⟨0, p⟩ l = (.mk 0 p ⟨#[]⟩ [], l - 1) := by
  obtain ⟨h1, h2⟩ := cell_of h
  obtain ⟨m, rfl⟩ : ∃ m', m = m' + 1 := ⟨m - 1, by omega⟩
  have hd : derS S ⟨0, p⟩ = ⟨0, p⟩ := der_id (self_good h).vc (.inr h2)
  rw [getN, if_neg (by omega), hd]
  rfl
theorem get_new {s S S' : So} {t : Te} {c : Ce} {all : List Vc} {V : List Int} (hrep : Rh S' (fOf all) t c) (hn : nodesT t = true) (hV : inV V t) (hself : ∀ v ∈ V, ∃ p : Nat, ofV all v = some ⟨0, p⟩ ∧ S'.cs[p]? = some ⟨0, p⟩) {m : Nat} {l : Int} (hm : szT t ≤ m) (hl : (szT t : Int) ≤ l) : getN S' m c l = (mapV (adr all) t, l - szT t) := by
  have hg : ∀ v, (fun v => Te.mk 0 (adr all v) ⟨#[]⟩ []) v = .mk 0 (adr all v) ⟨#[]⟩ [] := fun _ => rfl
  have e := sub_map hg t hn
  have hz : szT (subT (fun v => Te.mk 0 (adr all v) ⟨#[]⟩ []) t) = szT t := by rw [e, szT_mapV]
  have := get_rep (g := fun v => Te.mk 0 (adr all v) ⟨#[]⟩ []) (V := V) (f := fOf all) (S := S') (fun v hv m l hm hl => by
    obtain ⟨p, h1, h2⟩ := hself v hv
    have hf : fOf all v = ⟨0, p⟩ := by rw [fOf_some h1]; rfl
    have ha : adr all v = p := by rw [adr, hf]
    simp only [szT, szTs] at hm hl ⊢
    rw [hf, ha]
    exact get_self h2 (by omega) (by omega)) t c hV hn hrep m l (by rw [hz]; exact hm) (by rw [hz]; exact hl)
  rw [hz, e] at this
  exact this
end Go.Proofs.Ytinclokohcommaa


namespace Go.Proofs.Ytinclokohcommaa
open Go.RowKit
set_option linter.unusedVariables false
set_option linter.unusedSimpArgs false

end Go.Proofs.Ytinclokohcommaa


namespace Go.Proofs.Ytinclokohcommaa
open Go.RowKit
set_option linter.unusedVariables false
set_option linter.unusedSimpArgs false

mutual
theorem Rh_ext {S S' : So} {f f' : Int → Ce} {V : List Int} (E : Ext S S') (hf : ∀ v ∈ V, f' v = f v) : ∀ (t : Te) (c : Ce), inV V t → Rh S f t c → Rh S' f' t c
  | .mk k n nm l, c, hi, h => by
    rw [inV_mk] at hi
    rw [Rh] at h ⊢
    rcases h with ⟨rfl, rfl⟩ | ⟨rfl, rfl⟩ | ⟨rfl, ht, y, hy, hs⟩ | ⟨rfl, ht, p, y, hp, hc, hs, hl⟩
    · exact .inl ⟨rfl, (hf n (hi.1 rfl)).symm⟩
    · exact .inr (.inl ⟨rfl, rfl⟩)
    · exact .inr (.inr (.inl ⟨rfl, ht, y, hy, E.ys _ _ hs⟩))
    · exact .inr (.inr (.inr ⟨rfl, ht, p, y, hp, by rw [E.cs p (List.getElem?_eq_some_iff.1 hc).1]; exact hc, E.ys _ _ hs, Rhs_ext E hf l (p + 1) hi.2 hl⟩))
theorem Rhs_ext {S S' : So} {f f' : Int → Ce} {V : List Int} (E : Ext S S') (hf : ∀ v ∈ V, f' v = f v) : ∀ (l : List Te) (p : Nat), inVs V l → Rhs S f l p → Rhs S' f' l p
  | [], p, _, _ => by rw [Rhs]; trivial
  | t :: l, p, hi, h => by
    rw [inVs] at hi
    rw [Rhs] at h ⊢
    obtain ⟨⟨c, hc, hr⟩, hl⟩ := h
    exact ⟨⟨c, by rw [E.cs p (List.getElem?_eq_some_iff.1 hc).1]; exact hc, Rh_ext E hf t c hi.1 hr⟩, Rhs_ext E hf l (p + 1) hi.2 hl⟩
end
def gF : List D → Option (List D)
  | [nm, l] => some [eT (.mk 3 0 nm.str (l.rs.map dT))]
  | _ => none
theorem map_dT (l : List Te) : (l.map eT).map dT = l := by
  rw [List.map_map]
  exact List.map_id'' (fun t => dT_eT t) l
theorem ok_law30_f : FOk q1r gF := fok_law30_f fun ds outs hw hg => by
  obtain ⟨d, r, rfl, hd, e, r', rfl, he, rfl⟩ := hw
  obtain ⟨nm, rfl, hn⟩ := hd.str
  obtain ⟨l, rfl, hl, -⟩ := wfTs he
  simp only [gF, rs_r, str_s, map_dT, Option.some.injEq] at hg
  subst hg
  simp only [q4g, q00, go_br, q01, q02, allSay, X.says, X.ev, X.evs, evl, tblS, List.getD_cons_zero, List.getD_cons_succ, List.getElem?_cons_zero, List.getElem?_cons_succ, tt_b, int_i, str_s, rs_r, Option.isSome_some, Option.getD_some, decide_eq_true_eq, decide_eq_false_iff_not, dS_eS, dC_eC, dU_eU, dW_eW, dY_eY, eC_0, eC_1, eU_0, eU_1, eW_0, eW_1, eW_2, eY_0, eY_1, eS_0, eS_1, eS_2, eS_3, eS_4, eS_5, List.length_map, i_inj, b_inj, s_inj, eC_eq, eU_eq, eW_eq, eY_eq, eS_eq, rng64, List.take_succ_cons, List.take_zero, List.nil_append, List.cons_append, decide_true, decide_false, Bool.or_true, true_and, and_true, dT_eT, eT_0, eT_1, eT_2, eT_3, eT_eq, eT_z]
  rw [eT_mk]
  rfl
def two (t u : Te) : Te := .mk 3 0 ⟨#[116, 119, 111]⟩ [t, u]
theorem two_valid {t u : Te} (h : nodesT t = true) (k : nodesT u = true) (hz : szT t + szT u ≤ 1999) : validT (two t u) = true := by
  simp only [validT, two, szT, szTs, nodesT, nodesTs, h, k, Bool.and_true, Bool.and_eq_true, decide_eq_true_eq]
  refine ⟨by omega, ?_⟩
  rw [nodeT_k, if_neg (by decide), if_neg (by decide), if_neg (by decide), if_pos rfl]
  rfl
theorem two_map (f : Int → Int) (t u : Te) : two (mapV f t) (mapV f u) = mapV f (two t u) := rfl
theorem two_vars (t u : Te) : varsT [] (two t u) = varsT (varsT [] t) u := by
  rw [two, varsT_t]
  rfl
theorem law_CellsShared : FOk q1p gYes := fok_law30_CellsShared ok_ref30_Valid q3s ok_ref03_Size ok_law30_awake ok_ref30_Clone ok_cells_Put ok_cells_Get ok_ref03_Vars ok_law30_count ok_law30_f ok_ref03_Variant fun ds outs hw hg => by
  obtain ⟨d, r, rfl, hd, e, r', rfl, he, f, r2, rfl, hf, rfl⟩ := hw
  obtain ⟨s, rfl, hs⟩ := wfS hd
  obtain ⟨t, rfl, ht⟩ := wfT he
  obtain ⟨u, rfl, hu⟩ := wfT hf
  simp only [gYes, Option.some.injEq] at hg
  subst hg
  rw [q2m]
  cases hv : validR s
  · simp [q00, go_br, q01, q02, allSay, X.says, X.ev, X.evs, evl, tblS, List.getD_cons_zero, List.getD_cons_succ, List.getElem?_cons_zero, List.getElem?_cons_succ, tt_b, int_i, str_s, rs_r, Option.isSome_some, Option.getD_some, decide_eq_true_eq, decide_eq_false_iff_not, dS_eS, dC_eC, dU_eU, dW_eW, dY_eY, eC_0, eC_1, eU_0, eU_1, eW_0, eW_1, eW_2, eY_0, eY_1, eS_0, eS_1, eS_2, eS_3, eS_4, eS_5, List.length_map, i_inj, b_inj, s_inj, eC_eq, eU_eq, eW_eq, eY_eq, eS_eq, rng64, List.take_succ_cons, List.take_zero, List.nil_append, List.cons_append, decide_true, decide_false, Bool.or_true, true_and, and_true, dT_eT, eT_0, eT_1, eT_2, eT_3, eT_eq, eT_z, gSb, gTb, hv, gYes]
  cases hvt : validT t
  · simp [q00, go_br, q01, q02, allSay, X.says, X.ev, X.evs, evl, tblS, List.getD_cons_zero, List.getD_cons_succ, List.getElem?_cons_zero, List.getElem?_cons_succ, tt_b, int_i, str_s, rs_r, Option.isSome_some, Option.getD_some, decide_eq_true_eq, decide_eq_false_iff_not, dS_eS, dC_eC, dU_eU, dW_eW, dY_eY, eC_0, eC_1, eU_0, eU_1, eW_0, eW_1, eW_2, eY_0, eY_1, eS_0, eS_1, eS_2, eS_3, eS_4, eS_5, List.length_map, i_inj, b_inj, s_inj, eC_eq, eU_eq, eW_eq, eY_eq, eS_eq, rng64, List.take_succ_cons, List.take_zero, List.nil_append, List.cons_append, decide_true, decide_false, Bool.or_true, true_and, and_true, dT_eT, eT_0, eT_1, eT_2, eT_3, eT_eq, eT_z, gSb, gTb, hv, hvt, gYes]
  cases hvu : validT u
  · simp [q00, go_br, q01, q02, allSay, X.says, X.ev, X.evs, evl, tblS, List.getD_cons_zero, List.getD_cons_succ, List.getElem?_cons_zero, List.getElem?_cons_succ, tt_b, int_i, str_s, rs_r, Option.isSome_some, Option.getD_some, decide_eq_true_eq, decide_eq_false_iff_not, dS_eS, dC_eC, dU_eU, dW_eW, dY_eY, eC_0, eC_1, eU_0, eU_1, eW_0, eW_1, eW_2, eY_0, eY_1, eS_0, eS_1, eS_2, eS_3, eS_4, eS_5, List.length_map, i_inj, b_inj, s_inj, eC_eq, eU_eq, eW_eq, eY_eq, eS_eq, rng64, List.take_succ_cons, List.take_zero, List.nil_append, List.cons_append, decide_true, decide_false, Bool.or_true, true_and, and_true, dT_eT, eT_0, eT_1, eT_2, eT_3, eT_eq, eT_z, gSb, gTb, hv, hvt, hvu, gYes]
  have hv2 := hvt
  have hv3 := hvu
  simp only [validT, Bool.and_eq_true, decide_eq_true_eq] at hv2 hv3
  have hmt : min (szT t : Int) 2001 = szT t := by omega
  have hmu : min (szT u : Int) 2001 = szT u := by omega
  by_cases hz1 : 900 < szT t
  · have : (900 : Int) < szT t := by omega
    simp [q00, go_br, q01, q02, allSay, X.says, X.ev, X.evs, evl, tblS, List.getD_cons_zero, List.getD_cons_succ, List.getElem?_cons_zero, List.getElem?_cons_succ, tt_b, int_i, str_s, rs_r, Option.isSome_some, Option.getD_some, decide_eq_true_eq, decide_eq_false_iff_not, dS_eS, dC_eC, dU_eU, dW_eW, dY_eY, eC_0, eC_1, eU_0, eU_1, eW_0, eW_1, eW_2, eY_0, eY_1, eS_0, eS_1, eS_2, eS_3, eS_4, eS_5, List.length_map, i_inj, b_inj, s_inj, eC_eq, eU_eq, eW_eq, eY_eq, eS_eq, rng64, List.take_succ_cons, List.take_zero, List.nil_append, List.cons_append, decide_true, decide_false, Bool.or_true, true_and, and_true, dT_eT, eT_0, eT_1, eT_2, eT_3, eT_eq, eT_z, gSb, gTb, gTi, hv, hvt, hvu, gYes, hmt, hmu, this]
  by_cases hz2 : 900 < szT u
  · have : (900 : Int) < szT u := by omega
    simp [q00, go_br, q01, q02, allSay, X.says, X.ev, X.evs, evl, tblS, List.getD_cons_zero, List.getD_cons_succ, List.getElem?_cons_zero, List.getElem?_cons_succ, tt_b, int_i, str_s, rs_r, Option.isSome_some, Option.getD_some, decide_eq_true_eq, decide_eq_false_iff_not, dS_eS, dC_eC, dU_eU, dW_eW, dY_eY, eC_0, eC_1, eU_0, eU_1, eW_0, eW_1, eW_2, eY_0, eY_1, eS_0, eS_1, eS_2, eS_3, eS_4, eS_5, List.length_map, i_inj, b_inj, s_inj, eC_eq, eU_eq, eW_eq, eY_eq, eS_eq, rng64, List.take_succ_cons, List.take_zero, List.nil_append, List.cons_append, decide_true, decide_false, Bool.or_true, true_and, and_true, dT_eT, eT_0, eT_1, eT_2, eT_3, eT_eq, eT_z, gSb, gTb, gTi, hv, hvt, hvu, gYes, hmt, hmu, this]
  have hn1 : ¬ ((900 : Int) < szT t) := by omega
  have hn2 : ¬ ((900 : Int) < szT u) := by omega
  have hcl : gClone [eS s] = some [eS s] := by simp only [gClone, dS_eS, clQ_of hs, if_true]
  have hdv : dVs (.r []) = [] := rfl
  have hvv : vvP s [] = true := rfl
  cases hr : roomB s t []
  · have hput : gPut [eS s, eT t, .r []] = some [eC ⟨0, 0⟩, .r [], .i 13, eS s] := by
      simp only [gPut, dS_eS, dT_eT, hdv, if_pos hv, putV, hvt, hvv, hr, Bool.and_self, if_true]
      rfl
    simp [q00, go_br, q01, q02, allSay, X.says, X.ev, X.evs, evl, tblS, List.getD_cons_zero, List.getD_cons_succ, List.getElem?_cons_zero, List.getElem?_cons_succ, tt_b, int_i, str_s, rs_r, Option.isSome_some, Option.getD_some, decide_eq_true_eq, decide_eq_false_iff_not, dS_eS, dC_eC, dU_eU, dW_eW, dY_eY, eC_0, eC_1, eU_0, eU_1, eW_0, eW_1, eW_2, eY_0, eY_1, eS_0, eS_1, eS_2, eS_3, eS_4, eS_5, List.length_map, i_inj, b_inj, s_inj, eC_eq, eU_eq, eW_eq, eY_eq, eS_eq, rng64, List.take_succ_cons, List.take_zero, List.nil_append, List.cons_append, decide_true, decide_false, Bool.or_true, true_and, and_true, dT_eT, eT_0, eT_1, eT_2, eT_3, eT_eq, eT_z, gSb, gTb, gTi, hv, hvt, hvu, gYes, hmt, hmu, hn1, hn2, hcl, hput]
  have P := put_ok hv hvt hvv hr
  have hput : gPut [eS s, eT t, .r []] = some [eC (addD (s, []) t (-1)).1, .r ((addD (s, []) t (-1)).2.2.map eV), .i 0, eS (addD (s, []) t (-1)).2.1] := by
    simp only [gPut, dS_eS, dT_eT, hdv, if_pos hv, putV, hvt, hvv, hr, Bool.and_self, if_true]
  generalize addD (s, []) t (-1) = R at P hput
  obtain ⟨c, S, all⟩ := R
  simp only at P hput
  cases hr2 : roomB S u all
  · have hput2 : gPut [eS S, eT u, .r (all.map eV)] = some [eC ⟨0, 0⟩, .r [], .i 13, eS S] := by
      simp only [gPut, dS_eS, dT_eT, dVs_eVs, if_pos P.valid, putV, hvu, P.vv, hr2, Bool.and_self, if_true]
      rfl
    simp [q00, go_br, q01, q02, allSay, X.says, X.ev, X.evs, evl, tblS, List.getD_cons_zero, List.getD_cons_succ, List.getElem?_cons_zero, List.getElem?_cons_succ, tt_b, int_i, str_s, rs_r, Option.isSome_some, Option.getD_some, decide_eq_true_eq, decide_eq_false_iff_not, dS_eS, dC_eC, dU_eU, dW_eW, dY_eY, eC_0, eC_1, eU_0, eU_1, eW_0, eW_1, eW_2, eY_0, eY_1, eS_0, eS_1, eS_2, eS_3, eS_4, eS_5, List.length_map, i_inj, b_inj, s_inj, eC_eq, eU_eq, eW_eq, eY_eq, eS_eq, rng64, List.take_succ_cons, List.take_zero, List.nil_append, List.cons_append, decide_true, decide_false, Bool.or_true, true_and, and_true, dT_eT, eT_0, eT_1, eT_2, eT_3, eT_eq, eT_z, gSb, gTb, gTi, hv, hvt, hvu, gYes, hmt, hmu, hn1, hn2, hcl, hput, hput2]
  have Q := put_ok P.valid hvu P.vv hr2
  have hput2 : gPut [eS S, eT u, .r (all.map eV)] = some [eC (addD (S, all) u (-1)).1, .r ((addD (S, all) u (-1)).2.2.map eV), .i 0, eS (addD (S, all) u (-1)).2.1] := by
    simp only [gPut, dS_eS, dT_eT, dVs_eVs, if_pos P.valid, putV, hvu, P.vv, hr2, Bool.and_self, if_true]
  generalize addD (S, all) u (-1) = R at Q hput2
  obtain ⟨d, S2, more⟩ := R
  simp only at Q hput2
  have hV := P.vars
  simp only [List.map_nil] at hV
  obtain ⟨hW, hcnt⟩ := Q.varsG (varsT [] t) hV
  have hcnt1 := P.cnt
  simp only [List.map_nil] at hcnt1
  have hsome : ∀ v, (ofV more v).isSome = true → ∃ p : Nat, ofV more v = some ⟨0, p⟩ ∧ S2.cs[p]? = some ⟨0, p⟩ := fun v this => by
    cases ho : ofV more v with
    | none => rw [ho] at this; cases this
    | some d =>
      rcases Q.new v d ho with h | ⟨p, e, h⟩
      · rcases P.new v d h with h | ⟨p, e, h⟩
        · cases h
        · subst e
          exact ⟨p, rfl, by rw [Q.ext.cs p (List.getElem?_eq_some_iff.1 h).1]; exact h⟩
      · subst e
        exact ⟨p, rfl, h⟩
  have hself : ∀ v ∈ varsT (varsT [] t) u, ∃ p : Nat, ofV more v = some ⟨0, p⟩ ∧ S2.cs[p]? = some ⟨0, p⟩ := fun v hv => hsome v ((hW v).1 hv)
  have hadr : ∀ v ∈ varsT (varsT [] t) u, ∃ p : Nat, ofV more v = some ⟨0, p⟩ ∧ adr more v = p ∧ p < S2.cs.length := fun v hv => by
    obtain ⟨p, h1, h2⟩ := hself v hv
    exact ⟨p, h1, by rw [adr, fOf_some h1]; rfl, (List.getElem?_eq_some_iff.1 h2).1⟩
  have hSd := vr_hd Q.valid
  have hin1 : inV (varsT (varsT [] t) u) t := inV_mono (fun x hx => varsT_sub hx) t (varsT_in t [])
  have hin2 : inV (varsT (varsT [] t) u) u := varsT_in u _
  have hrep1 : Rh S2 (fOf more) t c := Rh_ext Q.ext (V := varsT [] t) (fun v hv => by
    have := (hV v).1 hv
    cases ho : ofV all v with
    | none => rw [ho] at this; cases this
    | some d => rw [fOf_some ho, fOf_some (Q.of v d ho)]) t c (varsT_in t []) P.rep
  have hget1N := get_new (s := s) (S := S2) (m := 2001) (l := 2000) hrep1 hv2.2 hin1 hself (by omega) (by omega)
  have hget2N := get_new (s := s) (S := S2) (m := 2001) (l := 2000) Q.rep hv3.2 hin2 hself (by omega) (by omega)
  have hget1 : gGet [eS S2, eC c] = some [eT (mapV (adr more) t), .i 0] := by
    simp only [gGet, dS_eS, dC_eC, if_pos Q.valid, getS, Q.ext.vc P.vc, hget1N, if_true]
    rw [if_neg (by omega)]
  have hget2 : gGet [eS S2, eC d] = some [eT (mapV (adr more) u), .i 0] := by
    simp only [gGet, dS_eS, dC_eC, if_pos Q.valid, getS, Q.vc, hget2N, if_true]
    rw [if_neg (by omega)]
  have hinj1 := P.inj (fun v w c h => by cases h) (fun v d h => by cases h)
  have hinj := Q.inj hinj1.1 hinj1.2
  have htw := two_valid hv2.2 hv3.2 (by omega)
  obtain ⟨c1, c2, c3⟩ := can_map (t := two t u) (f := adr more) (fun x hx y hy e => by
    rw [two_vars] at hx hy
    obtain ⟨p, h1, h2, -⟩ := hadr x hx
    obtain ⟨q, h3, h4, -⟩ := hadr y hy
    have : p = q := by omega
    subst this
    exact hinj.1 x y _ h1 h3) (fun x hx => by
    rw [two_vars] at hx
    obtain ⟨p, h1, h2, h3⟩ := hadr x hx
    omega) htw
  have hvar : varS (two (mapV (adr more) t) (mapV (adr more) u)) (two t u) = true := by
    rw [two_map]
    simp [varS, c2, htw, c3]
  have hcount : gCot [eT u, eIs (varsT [] t)] = some [.i (nedT u all)] := by
    simp only [gCot, dT_eT, dIs_eIs]
    rw [if_pos ⟨hv3.2, hv3.1⟩]
    congr 4
    unfold cotT nedT
    have : u.n ∉ varsT [] t ↔ ofV all u.n = none := by
      rw [hV]
      cases ofV all u.n <;> simp
    simp only [this]
  have hvl : (varsS t) = varsT [] t := if_pos hvt
  have hvtw : (varsS (two t u)) = varsT (varsT [] t) u := by rw [varsS, if_pos htw, two_vars]
  have hlen := Q.len
  have hfa : gF [.s ⟨#[116, 119, 111]⟩, .r [eT t, eT u]] = some [eT (two t u)] := by
    simp only [gF, rs_r, str_s, List.map_cons, List.map_nil, dT_eT, two]
  have hfb : gF [.s ⟨#[116, 119, 111]⟩, .r [eT (mapV (adr more) t), eT (mapV (adr more) u)]] = some [eT (two (mapV (adr more) t) (mapV (adr more) u))] := by
    simp only [gF, rs_r, str_s, List.map_cons, List.map_nil, dT_eT, two]
  have hl1 : ((S2.cs.length : Int) = S.cs.length + (nedT u all : Nat)) = True := eq_true (by omega)
  simp only [q00, go_br, q01, q02, q00, go_br, q01, q02, allSay, X.says, X.ev, X.evs, evl, tblS, List.getD_cons_zero, List.getD_cons_succ, List.getElem?_cons_zero, List.getElem?_cons_succ, tt_b, int_i, str_s, rs_r, Option.isSome_some, Option.getD_some, decide_eq_true_eq, decide_eq_false_iff_not, dS_eS, dC_eC, dU_eU, dW_eW, dY_eY, eC_0, eC_1, eU_0, eU_1, eW_0, eW_1, eW_2, eY_0, eY_1, eS_0, eS_1, eS_2, eS_3, eS_4, eS_5, List.length_map, i_inj, b_inj, s_inj, eC_eq, eU_eq, eW_eq, eY_eq, eS_eq, rng64, List.take_succ_cons, List.take_zero, List.nil_append, List.cons_append, decide_true, decide_false, Bool.or_true, true_and, and_true, dT_eT, eT_0, eT_1, eT_2, eT_3, eT_eq, eT_z, gSb, gTb, gTi, hv, hvt, hvu, gYes, hmt, hmu, hn1, hn2, hcl, hput, hput2, hget1, hget2, gVarsS, hvl, hcount, hfa, hfb]
  have hl2 : decide ((S2.cs.length : Int) = S.cs.length + (nedT u all : Nat)) = true := decide_eq_true (by omega)
  have hr64 : rngB .i64 ((S.cs.length : Int) + (nedT u all : Nat)) = true := by simp [rngB]; omega
  simp only [hl2, hr64, Bool.not_true, Bool.not_false, Bool.or_false, Bool.false_or, Bool.true_or, Bool.or_true, Bool.false_eq_true, false_imp_iff, forall_const, true_imp_iff, true_and, and_true, and_self]
  have hml := SV.len Q.sv
  rw [q1l]
  refine ⟨fun st => ∃ k : Nat, 1 ≤ k ∧ k ≤ more.length + 1 ∧ st = [.b false, .i k], fun st => more.length - (st.getD 1 .u).int.toNat, ⟨1, Nat.le_refl _, by omega, rfl⟩, ?_⟩
  rintro st - ⟨k, hk1, hk, rfl⟩
  rw [go_br]
  refine ⟨fun hlt => ?_, fun hlt => ?_⟩
  · simp only [q00, go_br, q01, q02, allSay, X.says, X.ev, X.evs, evl, tblS, List.getD_cons_zero, List.getD_cons_succ, List.getElem?_cons_zero, List.getElem?_cons_succ, tt_b, int_i, str_s, rs_r, Option.isSome_some, Option.getD_some, decide_eq_true_eq, decide_eq_false_iff_not, dS_eS, dC_eC, dU_eU, dW_eW, dY_eY, eC_0, eC_1, eU_0, eU_1, eW_0, eW_1, eW_2, eY_0, eY_1, eS_0, eS_1, eS_2, eS_3, eS_4, eS_5, List.length_map, i_inj, b_inj, s_inj, eC_eq, eU_eq, eW_eq, eY_eq, eS_eq, rng64, List.take_succ_cons, List.take_zero, List.nil_append, List.cons_append, decide_true, decide_false, Bool.or_true, true_and, and_true, dT_eT, eT_0, eT_1, eT_2, eT_3, eT_eq, eT_z, gSb, gTb, hv, hvt, hvu, hcl, hput, hput2] at hlt
    have hkl : k < more.length := by omega
    have hkp : k - 1 < more.length := by omega
    have e1 : ((k : Int) - 1) = ((k - 1 : Nat) : Int) := by omega
    have hlt2 := List.pairwise_iff_getElem.1 Q.sv.1 (k - 1) k hkp hkl (by omega)
    rw [← getD_el hkp, ← getD_el hkl] at hlt2
    simp only [q00, go_br, q01, q02, q00, go_br, q01, q02, allSay, X.says, X.ev, X.evs, evl, tblS, List.getD_cons_zero, List.getD_cons_succ, List.getElem?_cons_zero, List.getElem?_cons_succ, tt_b, int_i, str_s, rs_r, Option.isSome_some, Option.getD_some, decide_eq_true_eq, decide_eq_false_iff_not, dS_eS, dC_eC, dU_eU, dW_eW, dY_eY, eC_0, eC_1, eU_0, eU_1, eW_0, eW_1, eW_2, eY_0, eY_1, eS_0, eS_1, eS_2, eS_3, eS_4, eS_5, List.length_map, i_inj, b_inj, s_inj, eC_eq, eU_eq, eW_eq, eY_eq, eS_eq, rng64, List.take_succ_cons, List.take_zero, List.nil_append, List.cons_append, decide_true, decide_false, Bool.or_true, true_and, and_true, dT_eT, eT_0, eT_1, eT_2, eT_3, eT_eq, eT_z, gSb, gTb, gTi, hv, hvt, hvu, gYes, hcl, hput, hput2, e1, get_n eV hkl, get_n eV hkp, eV_0]
    refine ⟨⟨by omega, by omega, by omega, by omega, by omega, by omega⟩, fun h => by omega, fun _ => ⟨⟨by omega, by omega⟩, ?_⟩⟩
    rw [updB, if_pos rfl]
    exact ⟨⟨k + 1, by omega, by omega, by simp⟩, by simp [D.int]; omega⟩
  · have hmo : more.length = (varsT (varsT [] t) u).length := by omega
    simp only [q00, go_br, q01, q02, q00, go_br, q01, q02, allSay, X.says, X.ev, X.evs, evl, tblS, List.getD_cons_zero, List.getD_cons_succ, List.getElem?_cons_zero, List.getElem?_cons_succ, tt_b, int_i, str_s, rs_r, Option.isSome_some, Option.getD_some, decide_eq_true_eq, decide_eq_false_iff_not, dS_eS, dC_eC, dU_eU, dW_eW, dY_eY, eC_0, eC_1, eU_0, eU_1, eW_0, eW_1, eW_2, eY_0, eY_1, eS_0, eS_1, eS_2, eS_3, eS_4, eS_5, List.length_map, i_inj, b_inj, s_inj, eC_eq, eU_eq, eW_eq, eY_eq, eS_eq, rng64, List.take_succ_cons, List.take_zero, List.nil_append, List.cons_append, decide_true, decide_false, Bool.or_true, true_and, and_true, dT_eT, eT_0, eT_1, eT_2, eT_3, eT_eq, eT_z, gSb, gTb, gTi, gTTb, hv, hvt, hvu, gYes, hcl, hput, hput2, hget1, hget2, hfa, hfb, hvar, gVarsS, hvtw, eIs_len]
    simp [hmo]
end Go.Proofs.Ytinclokohcommaa


namespace Go.Proofs.Ytinclokohcommaa
open Go.RowKit
set_option linter.unusedVariables false
set_option linter.unusedSimpArgs false

end Go.Proofs.Ytinclokohcommaa


namespace Go.Proofs.Ytinclokohcommaa
open Go.RowKit
set_option linter.unusedVariables false
set_option linter.unusedSimpArgs false

end Go.Proofs.Ytinclokohcommaa


namespace Go.Proofs.Ytinclokohcommaa
open Go.ChangeShapes Go.WideShapes Go.ChangeAt Go.RowKit
set_option linter.unusedVariables false
set_option maxRecDepth 100000

theorem own_knobD : ownKnob Try.prog.godebug = none := by kernel_rfl
theorem laid_outD : laidOutB Try.prog = true := by kernel_rfl

section
variable {H : Type} {enc : TypeId × Value → H} {W : World} {base : Nat} {spare : Nat → Bool} {held : Bool}

def LightD (t : TypeId) (d : DataW H) : Prop := ∀ n ∈ d.weights Try.prog t, n ≤ reachBytes

theorem weightsAll_memD {e : TypeId} : ∀ {l : List (DataW H)} {d : DataW H}, d ∈ l → ∀ n ∈ d.weights Try.prog e, n ∈ DataW.weightsAll Try.prog e l
  | [], _, h, _, _ => by cases h
  | x :: l, d, h, n, hn => by
    simp only [DataW.weightsAll, List.mem_append]
    rcases List.mem_cons.1 h with rfl | h
    · exact .inl hn
    · exact .inr (weightsAll_memD h n hn)

theorem LightD.each {ts : List TypeId} {l : List (DataW H)} {k : Nat} {t : TypeId} {d : DataW H} (h : ∀ n ∈ DataW.weightsEach Try.prog ts l, n ≤ reachBytes) (ht : ts[k]? = some t) (hd : l[k]? = some d) : LightD t d := fun n hn =>
  h n (DataW.weights_mem_each ht hd n hn)

theorem reach_eqD : reachBytes = LIM := rfl

theorem cells_w {T : TypeId} {t : Ty} (h : tyOf T = some t) : Try.prog.cellsOf T = t.w := by
  obtain ⟨i, hi, h1, -⟩ := row_info h
  simp [Program.cellsOf, hi, h1]

theorem rng_wf {k : IntKind} {t : TypeId} (ht : tyOf t = some (.int k)) {n : Int} (h : (Lit.int k n).wf = true) : rngB k n = true := by
  have h0 := (row_int ht).2.1
  cases k <;> first | (simp [rngB] at h0; done) | (simp [Lit.wf, IntKind.min, IntKind.max, IntKind.signed, IntKind.bits] at h; simp [rngB]; omega)

theorem spot_noneD {a : Addr} {v : Value} (h : W.cell? a = some v) : a.spot = none := by
  unfold World.cell? at h
  split at h
  · split at h
    · cases h
    · rename_i hs; simpa using hs
  · cases h

theorem rdF_of {F : Nat → Prop} {cs : List Value} : ∀ {fl : List Field} {fs : List Ty} {o : Nat}, fieldsB fl fs o = true → (∀ (j : Nat) (f : Field) (t : Ty), fl[j]? = some f → fs[j]? = some t → ∃ y, Rd W F y t ((cs.drop f.offset).take t.w)) → cs.length = o + widths fs → ∃ ds, RdF W F ds fs (cs.drop o)
  | [], [], o, _, _, hl => by
    simp [widths] at hl
    exact ⟨[], rfl, by rw [List.drop_eq_nil_iff]; omega⟩
  | f :: l, t :: ts, o, hb, hf, hl => by
    simp only [fieldsB, Bool.and_eq_true] at hb
    obtain ⟨⟨⟨h1, -⟩, -⟩, h3⟩ := hb
    have ho := Nat.eq_of_beq_eq_true h1
    rw [widths_cons] at hl
    obtain ⟨ds, hds⟩ := rdF_of h3 (fun j f' t' hj ht => hf (j + 1) f' t' (by simpa using hj) (by simpa using ht)) (by omega)
    obtain ⟨y, hy⟩ := hf 0 f t rfl rfl
    refine ⟨y :: ds, t, ts, (cs.drop o).take t.w, cs.drop (o + t.w), rfl, ?_, by rw [← ho]; exact hy, hds⟩
    rw [← List.drop_drop, List.take_append_drop]
  | [], _ :: _, o, hb, _, _ => by cases hb
  | _ :: _, [], o, hb, _, _ => by cases hb

theorem open_recD : ∀ (fuel : Nat) {T : TypeId} {t : Ty} (cs : List Value) (x : DataW H × List MemPlace), tyOf T = some t → isMp t = false → DataW.trod enc Try.prog W base spare held fuel T cs = some x → LightD T x.1 → ∃ y, Rd W (fun _ => True) y t cs := by
  intro fuel
  induction fuel with
  | zero => intro T t cs x _ _ h; simp [DataW.trod] at h
  | succ fuel ih =>
    intro T t cs x hT hM h hL
    cases t with
    | map K V => cases hM
    | int k =>
      obtain ⟨n, rfl, -, hw⟩ := DataW.trod_int (row_int hT).1 h
      exact ⟨.i n, k, rfl, rfl, rng_wf hT hw⟩
    | bool =>
      obtain ⟨b, rfl, -⟩ := DataW.trod_bool (row_bool hT).1 h
      exact ⟨.b b, rfl, rfl⟩
    | str =>
      obtain ⟨s, rfl, rfl, -⟩ := DataW.trod_string (row_str hT).1 h
      have := hL s.data.toList.length (by simp [DataW.weights])
      exact ⟨.s s, rfl, rfl, by rw [reach_eqD] at this; simpa using this⟩
    | st S =>
      obtain ⟨fields, fs, zc, i, hu, hfs, hfb, hi, hsz, -, -, -, -⟩ := row_st hT
      obtain ⟨xs, n, hn, hx, hlen, hxl, hf⟩ := DataW.trod_struct hu h
      obtain rfl : fuel = n := by omega
      have hw : ∀ n ∈ DataW.weightsEach Try.prog (fields.toList.map (·.type)) (xs.map (·.1)), n ≤ reachBytes := fun n hn => hL n (by rw [hx]; simp only [DataW.weights, hu]; exact hn)
      have hcl : cs.length = 0 + widths fs := by rw [hlen, cells_w hT, (fld_okD hfs).1]; omega
      obtain ⟨ds, hds⟩ := rdF_of (W := W) (F := fun _ => True) hfb (fun j f t hj ht => by
        obtain ⟨f', hf', ho, hty, -⟩ := fieldsB_get hfb ht
        obtain rfl := Option.some.inj (hj.symm.trans hf')
        have h5 := hf j f (by rw [← Array.getElem?_toList]; exact hj)
        have hjl : j < fields.toList.length := (List.getElem?_eq_some_iff.1 hj).1
        have hjx : j < xs.length := by rw [hxl]; simpa using hjl
        rw [cells_w hty, List.getElem?_eq_getElem hjx] at h5
        refine ih _ _ hty (fld_noM hfs (List.mem_of_getElem? ht)) h5 (LightD.each (k := j) hw ?_ ?_)
        · rw [List.getElem?_map, hj]; rfl
        · rw [List.getElem?_map, List.getElem?_eq_getElem hjx]; rfl) hcl
      exact ⟨.a ds, S, fs, rfl, hfs, by simpa using hds⟩
    | row E =>
      obtain ⟨hu, ⟨te, hte⟩, -⟩ := row_row hT
      rcases DataW.trod_slice hu h with ⟨rfl, hx⟩ | ⟨a, len, cap, elems, rest, n, hn, rfl, hx, hb, hl, hm, hlen, hel, -⟩
      · exact ⟨.r [], E, te, none, 0, rfl, hte, rfl, by simp, by simp, by simp [maxLen], by simp [RdE]⟩
      · obtain rfl : fuel = n := by omega
        have hwd := tyOf_pos hte
        rw [cells_w hte] at hel
        have hw := hL
        rw [hx] at hw
        simp only [LightD, DataW.weights, hu, List.mem_cons, List.mem_append] at hw
        have hlen2 : len ≤ LM te := by
          have := hw _ (.inl rfl)
          rw [reach_eqD] at this
          have hbe : Try.prog.bytesOf E = te.by := by
            obtain ⟨i, hi, -⟩ := row_info hte
            simp [Program.bytesOf, hi, row_bytes hte hi]
          refine (Nat.le_div_iff_mul_le (by_pos hte).1).2 ?_
          simp [hbe] at this
          have h2 : len * te.by ≤ (elems.length + rest.length) * te.by := Nat.mul_le_mul_right _ (by omega)
          exact Nat.le_trans h2 this
        have spot : 0 < len → a.spot = none := fun h0 => by
          have h2 := hel 0 h0
          rw [List.getElem?_eq_getElem (by omega)] at h2
          cases hc0 : W.cells? base (a.add (0 * te.w)) te.w with
          | none => rw [hc0] at h2; cases h2
          | some cs0 =>
            obtain ⟨_, hcl0, hat0⟩ := World.cells?_some hc0
            have hp : 0 < cs0.length := by omega
            have := hat0 0 (by omega)
            rw [List.getElem?_eq_getElem hp] at this
            exact spot_noneD (a := a) (v := cs0[0]) (by simpa [Addr.add] using this)
        have each : ∀ i, i < len → ∃ y, RdEl W (fun _ => True) y te (some a) i := fun i hi => by
          have h1 := hel i hi
          rw [List.getElem?_eq_getElem (by omega)] at h1
          cases hc : W.cells? base (a.add (i * te.w)) te.w with
          | none => rw [hc] at h1; cases h1
          | some cs' =>
            rw [hc] at h1
            obtain ⟨_, hcl, hat⟩ := World.cells?_some hc
            obtain ⟨y, hy⟩ := ih cs' _ hte (row_noM hT hte) h1 (fun n hn => hw n (.inr (.inl (weightsAll_memD (List.mem_map.2 ⟨_, List.getElem_mem (by omega), rfl⟩) n hn))))
            have hsp := spot (by omega)
            obtain ⟨b, o, sp⟩ := a
            obtain rfl : sp = none := hsp
            have add : ∀ k, (Addr.add ⟨b, o, none⟩ (i * te.w)).add k = ⟨b, o + i * te.w + k, none⟩ := fun k => by
              unfold Addr.add
              split <;> split <;> simp <;> omega
            refine ⟨y, b, o, cs', rfl, trivial, fun j v hj => ?_, hy⟩
            have hj' := (List.getElem?_eq_some_iff.1 hj).1
            have := hat j (by omega)
            rw [add, hj] at this
            exact this
        have pick : ∀ n, n ≤ len → ∃ l : List D, l.length = n ∧ ∀ i (h : i < l.length), RdEl W (fun _ => True) l[i] te (some a) i := by
          intro n
          induction n with
          | zero => exact fun _ => ⟨[], rfl, fun i hi => by simp at hi⟩
          | succ n ihn =>
            intro hn
            obtain ⟨l, hl1, hl2⟩ := ihn (by omega)
            obtain ⟨t, ht⟩ := each n (by omega)
            refine ⟨l ++ [t], by simp [hl1], fun i hi => ?_⟩
            by_cases hin : i < l.length
            · rw [List.getElem_append_left hin]; exact hl2 i hin
            · obtain rfl : i = l.length := by simp at hi; omega
              rw [List.getElem_append_right (by omega)]
              simp [hl1]
              exact ht
        obtain ⟨l, hl1, hl2⟩ := pick len (Nat.le_refl _)
        exact ⟨.r l, E, te, some a, cap, rfl, hte, by rw [hl1], by omega, by omega, hm, rdE_iff.2 fun j hj => by rw [Nat.zero_add]; exact hl2 j hj⟩

theorem open_D {T : TypeId} {t : Ty} (hT : tyOf T = some t) (hM : isMp t = false) {v : Value} {d : DataW H} {p : List MemPlace} {b0 : Nat} {r : Reach} (hv : Value.okWide Try.prog W r b0 T v) (h : DataW.Trod enc Try.prog W base spare held T v d p) (hL : LightD T d) :
    ∃ x cs, Pack t cs v ∧ Rd W (fun b => b < W.heap.size) x t cs := by
  obtain ⟨fuel, hf⟩ := h
  obtain ⟨y, hy⟩ := open_recD fuel _ _ hT hM hf hL
  refine ⟨y, v.cells.toList, ?_, Rd.keeps (fun b o _ ho => ⟨ho, lt_of_heap ho⟩) _ hy⟩
  cases t with
  | int k => obtain ⟨n, rfl⟩ := okWide_int (row_int hT).1 hv; rfl
  | bool => obtain ⟨n, rfl⟩ := okWide_bool (row_bool hT).1 hv; rfl
  | str => obtain ⟨n, rfl⟩ := okWide_string (row_str hT).1 hv; rfl
  | map K V => cases hM
  | row E => obtain ⟨A, l, c, rfl⟩ := okWide_slice (row_row hT).1 hv; rfl
  | st S =>
    obtain ⟨fields, fs, zc, i, hu, -⟩ := row_st hT
    obtain ⟨cs, rfl, -⟩ := okWide_struct hu hv
    simp [Pack, Value.cells]
end

def ArgsV (W : World) : List Ar → List Value → List D → Prop
  | [], vs, ds => vs = [] ∧ ds = []
  | .val t :: l, vs, ds => ∃ v r d ds', vs = v :: r ∧ ds = d :: ds' ∧ (∃ cs, Pack t cs v ∧ Rd W (FFD (fun _ => True) (fun _ => none) []) d t cs) ∧ ArgsV W l r ds'
  | _ :: _, _, _ => False
theorem ArgsV.ok {W : World} {V : List Value} : ∀ {i : Nat} {ar : List Ar} {vs : List Value} {ds : List D}, ArgsV W ar vs ds → ArgsOk V (fun _ => True) (fun _ => none) W (idx i ar) vs ds ∧ vs.length = ar.length
  | _, [], vs, ds, h => ⟨h, by rw [h.1]; rfl⟩
  | i, .val t :: l, vs, ds, ⟨v, r, d, ds', e1, e2, h1, h⟩ => by
    obtain ⟨h2, h3⟩ := ArgsV.ok (V := V) (i := i + 1) h
    exact ⟨⟨v, r, d, ds', e1, e2, h1, h2⟩, by rw [e1]; simp [h3]⟩
  | _, .ref _ :: _, _, _, h => h.elim
  | _, .rref _ :: _, _, _, h => h.elim
  | _, .own _ :: _, _, _, h => h.elim
  | _, .mref _ :: _, _, _, h => h.elim
  | _, .nils :: _, _, _, h => h.elim
  | _, .nilp :: _, _, _, h => h.elim
  | _, .fn _ _ :: _, _, _, h => h.elim
  | _, .cell _ _ :: _, _, _, h => h.elim
theorem law_calls {ct : Ct} {g : List D → Option (List D)} (h : FOk ct g) (hrs : ct.rs = [(.bool, false)]) (hvr : ct.vr = []) {W : World} {vs : List Value} {ds : List D} (ha : ArgsV W ct.ar vs ds) (hg : g ds = some [.b true]) :
    Calls Try.prog ct.f vs.toArray W fun e W' => e = .returned (.bool true) ∧ But Nil W W' := by
  obtain ⟨h1, h2⟩ := ArgsV.ok (V := vs ++ []) (i := 0) ha
  refine (h.call (fun _ => True) (fun _ => none) W vs [] ds _ hg (by constructor <;> simp) h2 (by simpa [Ct.all, hvr, idx] using h1)).mono ?_
  rintro e W' (⟨T, -, ho, -⟩ | ⟨rs, p', rfl, hb, hr, -⟩)
  · cases ho
  rw [hrs] at hr
  obtain ⟨v, r, d, ds', rfl, hd, ⟨cs, hp, hc⟩, rfl⟩ := hr
  simp at hd
  obtain ⟨rfl, rfl⟩ := hd
  obtain ⟨e1, e2⟩ : D.b true = .b true ∧ cs = [.bool true] := ⟨rfl, by
    have hc' : Rd W' (FFD (fun _ => True) p' []) (.b true) .bool cs := hc
    exact hc'.2⟩
  subst e2
  have hpv : [Value.bool true] = [v] := hp
  injection hpv with hpv
  subst hpv
  exact ⟨rfl, hb.but.mono fun i hi _ => by obtain ⟨x, hx⟩ := hi; cases hx⟩
end Go.Proofs.Ytinclokohcommaa

