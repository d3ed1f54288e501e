/-
  A region run on what is known of the values: the run's result is what is known behind the region. No condition.
-/
import Derived.Test.YtloekfnlidclcaaAc
namespace Go.Proofs.Ytloekfnlidclcaa
open Go.RowKit
set_option linter.unusedVariables false
variable [Env]

/-- What an operation that was left out leaves. -/
def isUndef : Ab → Bool
  | .val (.tuple a) => a.isEmpty
  | _ => false

omit [Env] in
theorem isUndef_ok {x : Ab} (h : isUndef x = true) : x = .val undef := by
  unfold isUndef at h
  split at h
  · rename_i a
    have : a = #[] := by simpa using h
    rw [this]
    rfl
  · cases h

def runAb (C : FuncId → List Ab → Option Ab) (ds : List (Option Tmp)) : List (Tmp × Ab) → List Oper → Option (List (Tmp × Ab))
  | σ, [] => some σ
  | σ, o :: l => match o.dst with
    | none => none
    | some t => match lk σ t with
      | some _ => none
      | none => match o.guard with
        | none => match absOp C (lk σ) o with
          | none => none
          | some x => runAb C ds ((t, x) :: σ) l
        | some (g, b) => match (ds[g]?).join with
          | none => none
          | some tg => match lk σ tg with
            | some (.val (.bool c)) => if c == b then (match absOp C (lk σ) o with
                | none => none
                | some x => runAb C ds ((t, x) :: σ) l)
              else runAb C ds ((t, .val undef) :: σ) l
            | some x => if isUndef x then runAb C ds ((t, .val undef) :: σ) l else none
            | none => none

omit [Env] in
theorem lk_cons {σ : List (Tmp × Ab)} {t s : Tmp} {x y : Ab} (hn : lk σ t = none) (h : lk σ s = some y) : lk ((t, x) :: σ) s = some y := by
  unfold lk
  by_cases hts : t = s
  · subst hts; rw [hn] at h; cases h
  · rw [if_neg (by simpa using hts)]; exact h

omit [Env] in
theorem lk_self {σ : List (Tmp × Ab)} {t : Tmp} {x : Ab} : lk ((t, x) :: σ) t = some x := by
  unfold lk
  simp

omit [Env] in
theorem lk_mem {σ : List (Tmp × Ab)} {t : Tmp} {x : Ab} (h : lk σ t = some x) : t ∈ σ.map (·.1) := by
  induction σ with
  | nil => cases h
  | cons y σ ih =>
    unfold lk at h
    by_cases hts : y.1 = t
    · simp [hts]
    · rw [if_neg (by simpa using hts)] at h
      exact List.mem_cons_of_mem _ (ih h)

omit [Env] in
theorem mem_lk {σ : List (Tmp × Ab)} {t : Tmp} (h : t ∈ σ.map (·.1)) : ∃ x, lk σ t = some x := by
  induction σ with
  | nil => cases h
  | cons y σ ih =>
    unfold lk
    by_cases hts : y.1 = t
    · exact ⟨y.2, by simp [hts]⟩
    · rw [if_neg (by simpa using hts)]
      refine ih ?_
      rcases List.mem_cons.1 h with h | h
      · exact absurd h.symm hts
      · exact h

theorem runAb_keys {C : FuncId → List Ab → Option Ab} {ds : List (Option Tmp)} : ∀ {l : List Oper} {σ σ' : List (Tmp × Ab)}, runAb C ds σ l = some σ' → ∀ t x, lk σ' t = some x → (∃ y, lk σ t = some y) ∨ ∃ o ∈ l, o.dst = some t
  | [], σ, σ', h, t, x, hx => by
    simp only [runAb, Option.some.injEq] at h
    subst h
    exact .inl ⟨x, hx⟩
  | o :: l, σ, σ', h, t, x, hx => by
    have go : ∀ s y, o.dst = some s → runAb C ds ((s, y) :: σ) l = some σ' → (∃ y, lk σ t = some y) ∨ ∃ o' ∈ o :: l, o'.dst = some t := fun s y hs hr => by
      rcases runAb_keys hr t x hx with ⟨z, hz⟩ | ⟨o', ho', hd'⟩
      · unfold lk at hz
        by_cases hst : s = t
        · subst hst; exact .inr ⟨o, List.mem_cons_self, hs⟩
        · rw [if_neg (by simpa using hst)] at hz
          exact .inl ⟨z, hz⟩
      · exact .inr ⟨o', List.mem_cons_of_mem _ ho', hd'⟩
    unfold runAb at h
    cases hd : o.dst with
    | none => rw [hd] at h; cases h
    | some s =>
      rw [hd] at h
      simp only at h
      split at h
      · cases h
      · split at h
        · split at h
          · cases h
          · exact go s _ hd h
        · split at h
          · cases h
          · split at h
            · split at h
              · split at h
                · cases h
                · exact go s _ hd h
              · exact go s _ hd h
            · split at h
              · exact go s _ hd h
              · cases h
            · cases h


def FF (σ : List (Tmp × Ab)) : Tmp → Pd := fun t => match lk σ t with
  | some x => x.pd
  | none => fun _ _ _ => True

theorem FF.at {σ : List (Tmp × Ab)} {t : Tmp} {x : Ab} (h : lk σ t = some x) : FF σ t = x.pd := by
  unfold FF
  rw [h]

theorem FF.kept (σ : List (Tmp × Ab)) (t : Tmp) : Kept (FF σ t) := by
  unfold FF
  split
  · exact Ab.kept _
  · exact fun _ _ _ _ _ _ _ => trivial

section
variable {Q : Exit → Act → World → Prop}

theorem runAb_ok {C : FuncId → List Ab → Option Ab} (hC : CallsOk C) {ops : List Oper} {F : Tmp → Pd} : ∀ {l : List Oper} {σ σ' : List (Tmp × Ab)}, runAb C (ops.map (·.dst)) σ l = some σ' → (∀ t x, lk σ' t = some x → F t = x.pd) →
    (∀ t x, lk σ t = some x → lk σ' t = some x) ∧ ∀ o ∈ l, OpOk Try.prog Q ops F o
  | [], σ, σ', h, hF => by
    simp only [runAb, Option.some.injEq] at h
    subst h
    exact ⟨fun _ _ h => h, fun o ho => by cases ho⟩
  | o :: l, σ, σ', h, hF => by
    unfold runAb at h
    cases hd : o.dst with
    | none => rw [hd] at h; cases h
    | some t =>
      rw [hd] at h
      simp only at h
      cases hl : lk σ t with
      | some y => rw [hl] at h; cases h
      | none =>
        rw [hl] at h
        simp only at h
        have go : ∀ x, runAb C (ops.map (·.dst)) ((t, x) :: σ) l = some σ' → (∀ s y, lk σ s = some y → lk σ' s = some y) ∧ lk σ' t = some x ∧ ∀ o ∈ l, OpOk Try.prog Q ops F o := fun x hx => by
          obtain ⟨h1, h2⟩ := runAb_ok hC hx hF
          exact ⟨fun s y hs => h1 s y (lk_cons hl hs), h1 t x lk_self, h2⟩
        cases hg : o.guard with
        | none =>
          rw [hg] at h
          simp only at h
          cases hx : absOp C (lk σ) o with
          | none => rw [hx] at h; cases h
          | some x =>
            rw [hx] at h
            obtain ⟨h1, h2, h3⟩ := go x h
            refine ⟨h1, fun o' ho' => ?_⟩
            rcases List.mem_cons.1 ho' with rfl | ho'
            · refine ⟨t, hd, ?_⟩
              rw [hg]
              show Runs _ _ _ _ (F t)
              rw [hF t x h2]
              exact absOp_ok hC (fun s y hs => hF s y (h1 s y hs)) hx
            · exact h3 o' ho'
        | some gb =>
          obtain ⟨g, b⟩ := gb
          rw [hg] at h
          simp only at h
          cases htg : ((ops.map (·.dst))[g]?).join with
          | none => rw [htg] at h; cases h
          | some tg =>
            rw [htg] at h
            simp only at h
            have hog : ∃ og, ops[g]? = some og ∧ og.dst = some tg := by
              rw [List.getElem?_map] at htg
              cases ho : ops[g]? with
              | none => rw [ho] at htg; cases htg
              | some og => rw [ho] at htg; exact ⟨og, rfl, by simpa using htg⟩
            obtain ⟨og, hog, hodg⟩ := hog
            split at h
            · rename_i c hc
              have fin : ∀ x, runAb C (ops.map (·.dst)) ((t, x) :: σ) l = some σ' → (∀ (hh : (∀ s y, lk σ s = some y → lk σ' s = some y) ∧ lk σ' t = some x), if c = b then Runs Try.prog Q F o (F t) else ∀ p w, F t p w undef) →
                  (∀ s y, lk σ s = some y → lk σ' s = some y) ∧ ∀ o' ∈ o :: l, OpOk Try.prog Q ops F o' := fun x hx hh => by
                obtain ⟨h1, h2, h3⟩ := go x hx
                refine ⟨h1, fun o' ho' => ?_⟩
                rcases List.mem_cons.1 ho' with rfl | ho'
                · refine ⟨t, hd, ?_⟩
                  rw [hg]
                  refine ⟨og, tg, hog, hodg, .inl ⟨c, fun p w v hv => ?_, hh ⟨h1, h2⟩⟩⟩
                  rw [hF tg _ (h1 tg _ hc)] at hv
                  exact hv
                · exact h3 o' ho'
              split at h
              · rename_i hcb
                have hcb' : c = b := by simpa using hcb
                cases hx : absOp C (lk σ) o with
                | none => rw [hx] at h; cases h
                | some x =>
                  rw [hx] at h
                  refine fin x h fun hh => ?_
                  rw [if_pos hcb', hF t x hh.2]
                  exact absOp_ok hC (fun s y hs => hF s y (hh.1 s y hs)) hx
              · rename_i hcb
                have hcb' : ¬ c = b := by simpa using hcb
                refine fin (.val undef) h fun hh => ?_
                rw [if_neg hcb', hF t _ hh.2]
                exact fun _ _ => rfl
            · rename_i x0 _ hx0
              split at h
              · rename_i hun
                obtain rfl := isUndef_ok hun
                obtain ⟨h1, h2, h3⟩ := go _ h
                refine ⟨h1, fun o' ho' => ?_⟩
                rcases List.mem_cons.1 ho' with rfl | ho'
                · refine ⟨t, hd, ?_⟩
                  rw [hg]
                  refine ⟨og, tg, hog, hodg, .inr ⟨fun p w v hv => ?_, ?_⟩⟩
                  · rw [hF tg _ (h1 tg _ hx0)] at hv
                    exact hv
                  · rw [hF t _ h2]
                    exact fun _ _ => rfl
                · exact h3 o' ho'
              · cases h
            · cases h

def Facts (σ : List (Tmp × Ab)) (p : Nat → Option Nat) (w : World) (a : Act) : Prop := ∀ t x, lk σ t = some x → ∃ v, a.tmps[t]? = some v ∧ x.pd p w v

/-- The region by a run on what is known. -/
theorem wp_region_abs {C : FuncId → List Ab → Option Ab} (hC : CallsOk C) {id : Nat} {l : List Oper} {a0 : Act} {p0 : Nat → Option Nat} {w0 : World} (n T : Nat) (σ σ' : List (Tmp × Ab)) (hm : Try.prog.follows .mixedOrders = true)
    (hB : rgB l n T (σ.map (·.1)) = true) (hr : runAb C (l.map (·.dst)) σ (l.take n) = some σ') (hT : T ≤ a0.tmps.size) (h0 : Facts σ p0 w0 a0)
    (hend : ∀ a p w, Ext p0 w0 p w → a.defers = a0.defers → a.tmps.size = a0.tmps.size → Facts σ' p w a → wpList Try.prog l.toArray Q (l.drop n) a w) :
    (Code.region id l.toArray true).wp Try.prog Q a0 w0 := by
  have hF : ∀ t x, lk σ' t = some x → FF σ' t = x.pd := fun t x h => FF.at h
  obtain ⟨h1, h2⟩ := runAb_ok (Q := Q) hC hr hF
  refine wp_region_facts n T (σ.map (·.1)) (FF σ') hm hB hT (FF.kept σ') (fun t ht => ?_) (fun i o hi ho => h2 o (List.mem_take_iff_getElem.2 ⟨i, by have := (List.getElem?_eq_some_iff.1 ho).1; omega, (List.getElem?_eq_some_iff.1 ho).2⟩))
    (fun a p w hx hdf hsz hrest hold hnew => hend a p w hx hdf hsz fun t x hl => ?_)
  · obtain ⟨x, hx⟩ := mem_lk ht
    rw [FF.at (h1 t x hx)]
    exact h0 t x hx
  · rw [← FF.at hl]
    rcases runAb_keys hr t x hl with ⟨y, hy⟩ | ⟨o, ho, hd⟩
    · exact hold t (lk_mem hy)
    · obtain ⟨i, hi, he⟩ := List.mem_take_iff_getElem.1 ho
      exact hnew i o t (by omega) (by rw [← he]; exact List.getElem?_eq_getElem _) hd
end
end Go.Proofs.Ytloekfnlidclcaa

