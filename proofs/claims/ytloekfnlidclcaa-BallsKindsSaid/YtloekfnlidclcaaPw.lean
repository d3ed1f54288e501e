/-
  Plain laws on terms: variables put in for variables, occurrences, lists of variables. No condition.
-/
import Derived.Test.YtloekfnlidclcaaRs
namespace Go.Proofs.Ytloekfnlidclcaa
open Go.RowKit
set_option linter.unusedVariables false

/-- The variable number n. -/
abbrev V (n : Int) : Tm := .mk 0 n ⟨#[]⟩ []

mutual
def substT (f : Int → Tm) : Tm → Tm
  | .mk k n s l => if k = 0 then f n else .mk k n s (substL f l)
def substL (f : Int → Tm) : List Tm → List Tm
  | [] => []
  | t :: l => substT f t :: substL f l
end
mutual
def occT : Tm → List Int
  | .mk k n _ l => if k = 0 then [n] else occL l
def occL : List Tm → List Int
  | [] => []
  | t :: l => occT t ++ occL l
end

theorem fits_cons {t : Tm} {l : List Tm} : fitsL (t :: l) = true ↔ fitsT t = true ∧ fitsL l = true := by simp [fitsL]
theorem fits_mk {k n : Int} {s : ByteArray} {l : List Tm} : fitsT (.mk k n s l) = true ↔ nodeB (.mk k n s l) = true ∧ fitsL l = true := by simp [fitsT]

theorem substL_len (f : Int → Tm) : ∀ l : List Tm, (substL f l).length = l.length
  | [] => rfl
  | t :: l => by simp [substL, substL_len f l]

/-- An induction on a term and the rows of its arguments. -/
theorem ind2 {P : Tm → Prop} {PL : List Tm → Prop} (h0 : PL []) (h1 : ∀ t l, P t → PL l → PL (t :: l)) (h2 : ∀ k n s l, PL l → P (.mk k n s l)) (t : Tm) : P t :=
  Tm.rec (motive_1 := P) (motive_2 := PL) h2 h0 h1 t

theorem appT_sub {g : Unit → Tm → Unit × Tm} {f : Int → Tm} (hg : ∀ n nm l, nodeB (.mk 0 n nm l) = true → (g () (.mk 0 n nm l)).2 = f n) (t : Tm) : fitsT t = true → (appT g () t).2 = substT f t :=
  ind2 (P := fun t => fitsT t = true → (appT g () t).2 = substT f t) (PL := fun l => fitsL l = true → (appL g () l).2 = substL f l) (fun _ => by simp [appL, substL])
    (fun t l h1 h2 h => by
      rw [fits_cons] at h
      simp only [appL, substL]
      rw [h1 h.1]
      exact congrArg _ (h2 h.2))
    (fun k n s l hl h => by
      rw [fits_mk] at h
      simp only [appT, substT]
      by_cases hk : k = 0
      · subst hk
        rw [if_pos rfl, if_pos rfl]
        exact hg n s l h.1
      · rw [if_neg hk, if_neg hk, hl h.2]) t

theorem node_len {k n : Int} {s : ByteArray} {l l' : List Tm} (h : l.length = l'.length) : nodeB (.mk k n s l) = nodeB (.mk k n s l') := by simp [nodeB, h]

theorem fits_sub {f : Int → Tm} (t : Tm) : fitsT t = true → (∀ n ∈ occT t, fitsT (f n) = true) → fitsT (substT f t) = true :=
  ind2 (P := fun t => fitsT t = true → (∀ n ∈ occT t, fitsT (f n) = true) → fitsT (substT f t) = true) (PL := fun l => fitsL l = true → (∀ n ∈ occL l, fitsT (f n) = true) → fitsL (substL f l) = true)
    (fun _ _ => by simp [fitsL, substL])
    (fun t l h1 h2 h hf => by
      rw [fits_cons] at h
      simp only [occL, List.mem_append] at hf
      simp only [substL]
      rw [fits_cons]
      exact ⟨h1 h.1 fun n hn => hf n (.inl hn), h2 h.2 fun n hn => hf n (.inr hn)⟩)
    (fun k n s l hl h hf => by
      rw [fits_mk] at h
      simp only [occT] at hf
      simp only [substT]
      by_cases hk : k = 0
      · rw [if_pos hk] at hf ⊢
        exact hf n (by simp)
      · rw [if_neg hk] at hf ⊢
        rw [fits_mk, node_len (substL_len f l)]
        exact ⟨h.1, hl h.2 hf⟩) t

def sumL (f : Int → Int) : List Int → Int
  | [] => 0
  | n :: l => f n + sumL f l

theorem sumL_append (f : Int → Int) : ∀ l m : List Int, sumL f (l ++ m) = sumL f l + sumL f m
  | [], m => by simp [sumL]
  | n :: l, m => by simp only [List.cons_append, sumL, sumL_append f l m]; omega

theorem var_leaf {k n : Int} {s : ByteArray} {l : List Tm} (hk : k = 0) (h : nodeB (.mk k n s l) = true) : l = [] := var_args (t := .mk k n s l) hk h

theorem nodes_sub {f : Int → Tm} (t : Tm) : fitsT t = true → (nodesT (substT f t) : Int) = nodesT t + sumL (fun n => nodesT (f n) - 1) (occT t) :=
  ind2 (P := fun t => fitsT t = true → (nodesT (substT f t) : Int) = nodesT t + sumL (fun n => nodesT (f n) - 1) (occT t)) (PL := fun l => fitsL l = true → (nodesL (substL f l) : Int) = nodesL l + sumL (fun n => nodesT (f n) - 1) (occL l))
    (fun _ => by simp [nodesL, substL, occL, sumL])
    (fun t l h1 h2 h => by
      rw [fits_cons] at h
      have e1 := h1 h.1
      have e2 := h2 h.2
      simp only [substL, nodesL, occL, sumL_append]
      push_cast
      omega)
    (fun k n s l hl h => by
      rw [fits_mk] at h
      simp only [substT, occT]
      by_cases hk : k = 0
      · rw [if_pos hk, if_pos hk]
        have : l = [] := var_leaf hk h.1
        subst this
        simp only [nodesT, nodesL, sumL]
        omega
      · rw [if_neg hk, if_neg hk]
        have := hl h.2
        simp only [nodesT]
        push_cast
        omega) t

theorem occ_sub {f : Int → Tm} (t : Tm) : occT (substT f t) = (occT t).flatMap fun n => occT (f n) :=
  ind2 (P := fun t => occT (substT f t) = (occT t).flatMap fun n => occT (f n)) (PL := fun l => occL (substL f l) = (occL l).flatMap fun n => occT (f n))
    (by simp [substL, occL])
    (fun t l h1 h2 => by simp only [substL, occL, List.flatMap_append, h1, h2])
    (fun k n s l hl => by
      simp only [substT, occT]
      by_cases hk : k = 0
      · rw [if_pos hk, if_pos hk]; simp
      · rw [if_neg hk, if_neg hk]
        simp only [occT, if_neg hk]
        exact hl) t

theorem occ_len (t : Tm) : (occT t).length ≤ nodesT t :=
  ind2 (P := fun t => (occT t).length ≤ nodesT t) (PL := fun l => (occL l).length ≤ nodesL l) (by simp [occL])
    (fun t l h1 h2 => by simp only [occL, nodesL, List.length_append]; omega)
    (fun k n s l hl => by
      simp only [occT, nodesT]
      split
      · simp
      · omega) t

theorem occ_bd (t : Tm) : fitsT t = true → ∀ n ∈ occT t, 0 ≤ n ∧ n ≤ 1099511627776 :=
  ind2 (P := fun t => fitsT t = true → ∀ n ∈ occT t, 0 ≤ n ∧ n ≤ 1099511627776) (PL := fun l => fitsL l = true → ∀ n ∈ occL l, 0 ≤ n ∧ n ≤ 1099511627776) (fun _ n hn => by simp [occL] at hn)
    (fun t l h1 h2 h n hn => by
      rw [fits_cons] at h
      simp only [occL, List.mem_append] at hn
      rcases hn with hn | hn
      · exact h1 h.1 n hn
      · exact h2 h.2 n hn)
    (fun k n s l hl h m hm => by
      rw [fits_mk] at h
      simp only [occT] at hm
      by_cases hk : k = 0
      · rw [if_pos hk] at hm
        simp only [List.mem_singleton] at hm
        subst hm
        exact var_bd (t := .mk k m s l) hk h.1
      · rw [if_neg hk] at hm
        exact hl h.2 m hm) t

/-- The list of variables. -/
def addAll : List Int → List Int → List Int := List.foldl addV

theorem addAll_append (s l m : List Int) : addAll s (l ++ m) = addAll (addAll s l) m := List.foldl_append

theorem vars_occ (t : Tm) : ∀ s, (appT varG s t).1 = addAll s (occT t) :=
  ind2 (P := fun t => ∀ s, (appT varG s t).1 = addAll s (occT t)) (PL := fun l => ∀ s, (appL varG s l).1 = addAll s (occL l)) (fun s => by simp [appL, occL, addAll])
    (fun t l h1 h2 s => by simp only [appL, occL, addAll_append, h1, h2])
    (fun k n s l hl s' => by
      simp only [appT, occT]
      by_cases hk : k = 0
      · rw [if_pos hk, if_pos hk]; rfl
      · rw [if_neg hk, if_neg hk]; exact hl s') t

theorem mem_addV {l : List Int} {n m : Int} : m ∈ addV l n ↔ m ∈ l ∨ m = n := by
  unfold addV
  split
  · rename_i h
    constructor
    · exact .inl
    · rintro (h1 | rfl)
      · exact h1
      · exact h
  · simp

theorem mem_addAll {m : Int} : ∀ {l s : List Int}, m ∈ addAll s l ↔ m ∈ s ∨ m ∈ l
  | [], s => by simp [addAll]
  | n :: l, s => by
    show m ∈ addAll (addV s n) l ↔ _
    rw [mem_addAll, mem_addV]
    simp only [List.mem_cons]
    constructor
    · rintro ((h | h) | h)
      · exact .inl h
      · exact .inr (.inl h)
      · exact .inr (.inr h)
    · rintro (h | h | h)
      · exact .inl (.inl h)
      · exact .inl (.inr h)
      · exact .inr h

theorem addAll_len : ∀ {l s : List Int}, (addAll s l).length ≤ s.length + l.length
  | [], s => by simp [addAll]
  | n :: l, s => by
    show (addAll (addV s n) l).length ≤ _
    have h1 := addAll_len (l := l) (s := addV s n)
    have h2 : (addV s n).length ≤ s.length + 1 := by unfold addV; split <;> simp
    simp only [List.length_cons]
    omega

theorem mem_vars {t : Tm} {n : Int} (h : validT t = true) : n ∈ varsT t ↔ n ∈ occT t := by
  unfold varsT
  rw [if_pos h, vars_occ, mem_addAll]
  simp

theorem vars_len {t : Tm} (h : validT t = true) : (varsT t).length ≤ 2000 := by
  unfold varsT
  rw [if_pos h, vars_occ]
  have h1 := addAll_len (l := occT t) (s := [])
  have h2 := occ_len t
  have h3 := valid_nodes h
  simp only [List.length_nil] at h1
  omega

theorem vars_bd {t : Tm} (h : validT t = true) {n : Int} (hn : n ∈ varsT t) : 0 ≤ n ∧ n ≤ 1099511627776 := occ_bd t (valid_fits h) n ((mem_vars h).1 hn)

theorem valid_iff {t : Tm} : validT t = true ↔ nodesT t ≤ 2000 ∧ fitsT t = true := by
  constructor
  · intro h; exact ⟨valid_nodes h, valid_fits h⟩
  · rintro ⟨h1, h2⟩
    simp only [validT, Bool.and_eq_true, decide_eq_true_eq]
    have := size_min t
    exact ⟨by omega, h2⟩

theorem V_fits {n : Int} : fitsT (V n) = true ↔ 0 ≤ n ∧ n ≤ 1099511627776 := by simp [fitsT, fitsL, nodeB]

theorem sumL_zero {f : Int → Int} : ∀ {l : List Int}, (∀ n ∈ l, f n = 0) → sumL f l = 0
  | [], _ => rfl
  | n :: l, h => by
    simp only [sumL]
    rw [h n List.mem_cons_self, sumL_zero fun m hm => h m (List.mem_cons_of_mem _ hm)]
    rfl

/-- Variables put in for variables: the number of nodes stands. -/
theorem nodes_ren {ρ : Int → Int} {t : Tm} (h : fitsT t = true) : nodesT (substT (fun n => V (ρ n)) t) = nodesT t := by
  have := nodes_sub (f := fun n => V (ρ n)) t h
  rw [sumL_zero fun n _ => by simp [nodesT, nodesL]] at this
  omega

theorem valid_ren {ρ : Int → Int} {t : Tm} (h : validT t = true) (hr : ∀ n ∈ occT t, 0 ≤ ρ n ∧ ρ n ≤ 1099511627776) : validT (substT (fun n => V (ρ n)) t) = true := by
  rw [valid_iff] at h ⊢
  refine ⟨by rw [nodes_ren h.2]; exact h.1, fits_sub t h.2 fun n hn => V_fits.2 (hr n hn)⟩

theorem ren_sub (m : Int) (t : Tm) (h : fitsT t = true) : (appT (renG m) () t).2 = substT (fun n => V (n + m)) t := appT_sub (fun n nm l _ => rfl) t h

theorem rename_valid (t : Tm) (n : Int) : validT (renameT t n).1 = true := by
  unfold renameT
  split
  · rename_i h
    simp only [Bool.and_eq_true, numB, decide_eq_true_eq] at h
    obtain ⟨hv, h0, h1⟩ := h
    split
    · exact zero_valid
    · rename_i hany
      show validT (appT (renG n) () t).2 = true
      rw [ren_sub n t (valid_fits hv)]
      refine valid_ren hv fun m hm => ?_
      have hb := occ_bd t (valid_fits hv) m hm
      refine ⟨by omega, ?_⟩
      have : ¬ 1099511627776 - n < m := fun hlt => hany (List.any_eq_true.2 ⟨m, (mem_vars hv).2 hm, by simpa using hlt⟩)
      omega
  · exact zero_valid

end Go.Proofs.Ytloekfnlidclcaa

