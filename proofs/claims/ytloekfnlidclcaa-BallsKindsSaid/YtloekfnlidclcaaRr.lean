/-
  The reference's Rename: the walk. No condition.
-/
import Derived.Test.YtloekfnlidclcaaPw
import Derived.Test.YtloekfnlidclcaaLp
import Derived.Test.YtloekfnlidclcaaCp
import Derived.Test.YtloekfnlidclcaaMp
namespace Go.Proofs.Ytloekfnlidclcaa
open Go.RowKit
set_option linter.unusedVariables false

abbrev EnvR (t : Tm) (n : Int) (l : List Int) (j : Nat) : Env :=
  { T := fun k => match k with | 0 => t | _ => (renameT t n).1
    I := fun k => match k with | 0 => n | 1 => (j : Int) | 2 => (l.length : Int) | 3 => ((j + 1 : Nat) : Int) | 4 => l.getD j 0 | 5 => l.getD j 0 + n | _ => (renameT t n).2
    L := fun _ => l }

abbrev rrInv : List (Tmp × Ab) := [(1, .vtok 0), (2, .vcell 2 (.tok 0)), (4, .vcell 4 (.term zeroT)), (5, .val (.int .i64 0)), (6, .itok 0), (7, .vtok 1)]
abbrev rrNext : List (Tmp × Ab) := [(1, .vtok 0), (2, .vcell 2 (.tok 0)), (4, .vcell 4 (.term zeroT)), (5, .val (.int .i64 0)), (6, .itok 0), (7, .vtok 3)]

theorem rr_next (t : Tm) (n : Int) (l : List Int) (j : Nat) : SubL (EnvR t n l j) rrNext (EnvR t n l (j + 1)) rrInv :=
  ⟨⟨_, rfl, idd⟩, ⟨_, rfl, idd⟩, ⟨_, rfl, idd⟩, ⟨_, rfl, idd⟩, ⟨_, rfl, idd⟩, ⟨_, rfl, idd⟩, trivial⟩

theorem rr_zero (t : Tm) (n : Int) (l : List Int) : SubL (EnvR t n l 0) [(1, .vtok 0), (2, .vcell 2 (.tok 0)), (4, .vcell 4 (.term zeroT)), (5, .val (.int .i64 0)), (6, .itok 0), (7, .val (.int .i64 0))] (EnvR t n l 0) rrInv :=
  ⟨⟨_, rfl, idd⟩, ⟨_, rfl, idd⟩, ⟨_, rfl, idd⟩, ⟨_, rfl, idd⟩, ⟨_, rfl, idd⟩, ⟨_, rfl, idd⟩, trivial⟩

end Go.Proofs.Ytloekfnlidclcaa

namespace Go.Proofs.Ytloekfnlidclcaa
open Go.RowKit
set_option linter.unusedVariables false

end Go.Proofs.Ytloekfnlidclcaa

namespace Go.Proofs.Ytloekfnlidclcaa
open Go.RowKit
set_option linter.unusedVariables false

theorem sub_vt {E E' : Env} {k : Nat} {n : Int} (h : E'.I k = n) : @Ab.pd E (.val (.int .i64 n)) = @Ab.pd E' (.vtok k) := by subst h; rfl
theorem sub_vv {E E' : Env} {k m : Nat} (h : E.I m = E'.I k) : @Ab.pd E (.vtok m) = @Ab.pd E' (.vtok k) := by
  show (fun (p : Nat → Option Nat) (w : World) (v : Value) => v = .int .i64 (E.I m)) = fun p w v => v = .int .i64 (E'.I k)
  rw [h]

/-- How often the number occurs. -/
def occN (v : Int) (l : List Int) : Int := (l.filter (· == v)).length

theorem occN_append (v : Int) (l m : List Int) : occN v (l ++ m) = occN v l + occN v m := by simp [occN]
theorem occN_nil (v : Int) : occN v [] = 0 := rfl
theorem occN_le (v : Int) (l : List Int) : 0 ≤ occN v l ∧ occN v l ≤ l.length := by
  unfold occN
  have := List.length_filter_le (· == v) l
  omega

abbrev EnvO (k n : Int) (s : ByteArray) (l : List Tm) (v : Int) (acc : Nat → Int) (j : Nat) : Env :=
  { T := fun i => match i with | 0 => .mk k n s l | _ => l.getD j zeroT
    I := fun i => match i with | 0 => v | 1 => k | 2 => n | 3 => (l.length : Int) | 4 => (j : Int) | 5 => ((j + 1 : Nat) : Int) | 6 => acc j | 7 => occN v (occT (l.getD j zeroT)) | 8 => acc (j + 1) | _ => acc l.length
    S := fun _ => s
    R := fun _ => l }

abbrev ocInv : List (Tmp × Ab) := [(1, .vtok 0), (2, .vcell 2 (.tok 0)), (5, .vtok 6), (6, .vtok 4)]
abbrev ocNext : List (Tmp × Ab) := [(1, .vtok 0), (2, .vcell 2 (.tok 0)), (5, .vtok 8), (6, .vtok 5)]

theorem occL_take {l : List Tm} {j : Nat} (hj : j < l.length) : occL (l.take (j + 1)) = occL (l.take j) ++ occT (l.getD j zeroT) := by
  induction l generalizing j with
  | nil => simp at hj
  | cons t l ih =>
    cases j with
    | zero => simp [occL]
    | succ j =>
      simp only [List.take_succ_cons, occL, List.length_cons] at hj ⊢
      rw [ih (by omega)]
      simp

theorem nodesL_take (l : List Tm) (j : Nat) : nodesL (l.take j) ≤ nodesL l := by
  induction l generalizing j with
  | nil => simp
  | cons t l ih =>
    cases j with
    | zero => simp [nodesL]
    | succ j =>
      have := ih j
      simp only [List.take_succ_cons, nodesL]
      omega

theorem occL_len : ∀ l : List Tm, (occL l).length ≤ nodesL l
  | [] => by simp [occL]
  | t :: l => by
    have h1 := occ_len t
    have h2 := occL_len l
    simp only [occL, nodesL, List.length_append]
    omega

end Go.Proofs.Ytloekfnlidclcaa

namespace Go.Proofs.Ytloekfnlidclcaa
open Go.RowKit
set_option linter.unusedVariables false

/-- What a variable turns to. -/
abbrev repF (v : Int) (by_ : Tm) : Int → Tm := fun n => if n = v then by_ else V n

theorem rep_sub (v : Int) (by_ : Tm) (hb : validT by_ = true) (t : Tm) (h : fitsT t = true) : (appT (repG v by_) () t).2 = substT (repF v by_) t :=
  appT_sub (fun n nm l hn => by
    obtain ⟨-, -, rfl, rfl⟩ := var_node hn
    simp [repG, repF, cloneT, hb, Tm.num]) t h

def stepS (v d : Int) (s n : Int) : Int := if n = v then wrap64 (s + d) else s

theorem repS_fold (v d : Int) (t : Tm) : ∀ s, (appT (repS v d) s t).1 = (occT t).foldl (stepS v d) s :=
  ind2 (P := fun t => ∀ s, (appT (repS v d) s t).1 = (occT t).foldl (stepS v d) s) (PL := fun l => ∀ s, (appL (repS v d) s l).1 = (occL l).foldl (stepS v d) s) (fun s => by simp [appL, occL])
    (fun t l h1 h2 s => by simp only [appL, occL, List.foldl_append, h1, h2])
    (fun k n s l hl s' => by
      simp only [appT, occT]
      by_cases hk : k = 0
      · rw [if_pos hk, if_pos hk]; rfl
      · rw [if_neg hk, if_neg hk]; exact hl s') t

theorem fold_sum (v d : Int) (hd : 0 ≤ d ∧ d ≤ 2001) : ∀ (l : List Int) (s : Int), 0 ≤ s → s + l.length * 2001 ≤ 9223372036854775807 → l.foldl (stepS v d) s = s + occN v l * d
  | [], s, _, _ => by simp [occN]
  | n :: l, s, h0, h1 => by
    simp only [List.length_cons] at h1
    rw [List.foldl_cons]
    by_cases hn : n = v
    · have e1 : stepS v d s n = s + d := by
        unfold stepS
        rw [if_pos hn]
        unfold wrap64
        push_cast at h1
        omega
      rw [e1, fold_sum v d hd l (s + d) (by omega) (by push_cast at h1 ⊢; omega)]
      have : occN v (n :: l) = occN v l + 1 := by simp [occN, hn]
      rw [this, Int.add_mul]
      omega
    · have e1 : stepS v d s n = s := by unfold stepS; rw [if_neg hn]
      rw [e1, fold_sum v d hd l s h0 (by push_cast at h1 ⊢; omega)]
      have : occN v (n :: l) = occN v l := by simp [occN, hn]
      rw [this]

theorem size_valid {t : Tm} (h : validT t = true) : sizeT t = nodesT t := by
  have := size_min t
  have := valid_nodes h
  omega

theorem rep_total {t by_ : Tm} (v : Int) (ht : validT t = true) (hb : validT by_ = true) : (appT (repS v (sizeT by_ - 1)) (sizeT t) t).1 = sizeT t + occN v (occT t) * (sizeT by_ - 1) := by
  have h1 := size_bd by_
  have h2 := size_bd t
  have h3 := occ_len t
  have h4 := valid_nodes ht
  rw [repS_fold]
  exact fold_sum v _ (by omega) _ _ (by omega) (by omega)

theorem sumL_rep (v : Int) (by_ : Tm) : ∀ l : List Int, sumL (fun n => nodesT (repF v by_ n) - 1) l = occN v l * (nodesT by_ - 1)
  | [] => by simp [sumL, occN]
  | n :: l => by
    simp only [sumL]
    rw [sumL_rep v by_ l]
    by_cases hn : n = v
    · have : occN v (n :: l) = occN v l + 1 := by simp [occN, hn]
      rw [this, Int.add_mul]
      simp only [repF, if_pos hn]
      omega
    · have : occN v (n :: l) = occN v l := by simp [occN, hn]
      rw [this]
      simp only [repF, if_neg hn, nodesT, nodesL]
      omega

theorem rep_valid {t by_ : Tm} {v : Int} (ht : validT t = true) (hb : validT by_ = true) (hs : sizeT t + occN v (occT t) * (sizeT by_ - 1) ≤ 2000) : validT (substT (repF v by_) t) = true := by
  rw [valid_iff]
  constructor
  · have := nodes_sub (f := repF v by_) t (valid_fits ht)
    rw [sumL_rep] at this
    rw [size_valid ht, size_valid hb] at hs
    omega
  · refine fits_sub t (valid_fits ht) fun n hn => ?_
    unfold repF
    split
    · exact valid_fits hb
    · exact V_fits.2 (occ_bd t (valid_fits ht) n hn)

theorem replace_eq (t : Tm) (v : Int) (by_ : Tm) : replaceT t v by_ = if validT t && numB v && validT by_ then if 2000 < sizeT t + occN v (occT t) * (sizeT by_ - 1) then (zeroT, 2) else (substT (repF v by_) t, 0) else (zeroT, 1) := by
  unfold replaceT
  by_cases h : (validT t && numB v && validT by_) = true
  · rw [if_pos h, if_pos h]
    simp only [Bool.and_eq_true] at h
    rw [rep_total v h.1.1 h.2, rep_sub v by_ h.2 t (valid_fits h.1.1)]
  · rw [if_neg h, if_neg h]

theorem replace_valid (t : Tm) (v : Int) (by_ : Tm) : validT (replaceT t v by_).1 = true := by
  rw [replace_eq]
  split
  · rename_i h
    simp only [Bool.and_eq_true] at h
    split
    · exact zero_valid
    · exact rep_valid h.1.1 h.2 (by omega)
  · exact zero_valid

abbrev EnvP (t : Tm) (v : Int) (by_ : Tm) : Env :=
  { T := fun k => match k with | 0 => t | 1 => by_ | _ => (replaceT t v by_).1
    I := fun k => match k with | 0 => v | 1 => sizeT t | 2 => occN v (occT t) | 3 => sizeT by_ | 4 => sizeT by_ - 1 | 5 => occN v (occT t) * (sizeT by_ - 1) | 6 => sizeT t + occN v (occT t) * (sizeT by_ - 1) | _ => (replaceT t v by_).2 }

end Go.Proofs.Ytloekfnlidclcaa

namespace Go.Proofs.Ytloekfnlidclcaa
open Go.RowKit
set_option linter.unusedVariables false

/-- Only the variables that occur count. -/
theorem sub_congr {f g : Int → Tm} (t : Tm) : (∀ n ∈ occT t, f n = g n) → substT f t = substT g t :=
  ind2 (P := fun t => (∀ n ∈ occT t, f n = g n) → substT f t = substT g t) (PL := fun l => (∀ n ∈ occL l, f n = g n) → substL f l = substL g l) (fun _ => rfl)
    (fun t l h1 h2 h => by
      simp only [occL, List.mem_append] at h
      simp only [substL]
      rw [h1 fun n hn => h n (.inl hn), h2 fun n hn => h n (.inr hn)])
    (fun k n s l hl h => by
      simp only [occT] at h
      simp only [substT]
      by_cases hk : k = 0
      · rw [if_pos hk] at h ⊢; rw [if_pos hk]; exact h n (by simp)
      · rw [if_neg hk] at h ⊢; rw [if_neg hk, hl h]) t

theorem sub_id (t : Tm) : fitsT t = true → substT V t = t :=
  ind2 (P := fun t => fitsT t = true → substT V t = t) (PL := fun l => fitsL l = true → substL V l = l) (fun _ => rfl)
    (fun t l h1 h2 h => by
      rw [fits_cons] at h
      simp only [substL]
      rw [h1 h.1, h2 h.2])
    (fun k n s l hl h => by
      rw [fits_mk] at h
      simp only [substT]
      by_cases hk : k = 0
      · subst hk
        obtain ⟨-, -, rfl, rfl⟩ := var_node h.1
        rw [if_pos rfl]
      · rw [if_neg hk, hl h.2]) t

theorem sub_id_of {f : Int → Tm} {t : Tm} (h : fitsT t = true) (hf : ∀ n ∈ occT t, f n = V n) : substT f t = t := (sub_congr t hf).trans (sub_id t h)

theorem sub_sub {f : Int → Tm} {ρ : Int → Int} (t : Tm) : substT f (substT (fun n => V (ρ n)) t) = substT (fun n => f (ρ n)) t :=
  ind2 (P := fun t => substT f (substT (fun n => V (ρ n)) t) = substT (fun n => f (ρ n)) t) (PL := fun l => substL f (substL (fun n => V (ρ n)) l) = substL (fun n => f (ρ n)) l) rfl
    (fun t l h1 h2 => by simp only [substL, h1, h2])
    (fun k n s l hl => by
      simp only [substT]
      by_cases hk : k = 0
      · rw [if_pos hk, if_pos hk]; simp [substT]
      · rw [if_neg hk, if_neg hk]; simp only [substT, if_neg hk, hl]) t

theorem occ_ren {ρ : Int → Int} (t : Tm) : occT (substT (fun n => V (ρ n)) t) = (occT t).map ρ := by
  rw [occ_sub]
  induction occT t with
  | nil => rfl
  | cons n l ih => simp only [List.flatMap_cons, List.map_cons, ih]; simp [occT]

theorem addV_map {ρ : Int → Int} {s : List Int} {n : Int} (h : ∀ m ∈ s, ρ m = ρ n → m = n) : addV (s.map ρ) (ρ n) = (addV s n).map ρ := by
  unfold addV
  by_cases hn : n ∈ s
  · rw [if_pos hn, if_pos (List.mem_map.2 ⟨n, hn, rfl⟩)]
  · rw [if_neg hn, if_neg]
    · simp
    · intro hm
      obtain ⟨m, hm, he⟩ := List.mem_map.1 hm
      exact hn (h m hm he ▸ hm)

theorem addAll_map {ρ : Int → Int} : ∀ {l s : List Int}, (∀ m n, (m ∈ s ∨ m ∈ l) → (n ∈ s ∨ n ∈ l) → ρ m = ρ n → m = n) → addAll (s.map ρ) (l.map ρ) = (addAll s l).map ρ
  | [], s, _ => rfl
  | n :: l, s, h => by
    show addAll (addV (s.map ρ) (ρ n)) (l.map ρ) = (addAll (addV s n) l).map ρ
    rw [addV_map fun m hm he => h m n (.inl hm) (.inr List.mem_cons_self) he]
    refine addAll_map fun m k hm hk he => h m k ?_ ?_ he
    · rcases hm with hm | hm
      · rcases mem_addV.1 hm with h1 | rfl
        · exact .inl h1
        · exact .inr List.mem_cons_self
      · exact .inr (List.mem_cons_of_mem _ hm)
    · rcases hk with hm | hm
      · rcases mem_addV.1 hm with h1 | rfl
        · exact .inl h1
        · exact .inr List.mem_cons_self
      · exact .inr (List.mem_cons_of_mem _ hm)

theorem addV_nodup {s : List Int} {n : Int} (h : s.Nodup) : (addV s n).Nodup := by
  unfold addV
  split
  · exact h
  · rename_i hn
    rw [List.nodup_append]
    exact ⟨h, by simp, fun a ha b hb => by simp at hb; subst hb; intro e; exact hn (e ▸ ha)⟩

theorem addAll_nodup : ∀ {l s : List Int}, s.Nodup → (addAll s l).Nodup
  | [], s, h => h
  | n :: l, s, h => addAll_nodup (l := l) (addV_nodup h)

theorem varsT_eq {t : Tm} (h : validT t = true) : varsT t = addAll [] (occT t) := by
  unfold varsT
  rw [if_pos h, vars_occ]

theorem vars_nodup {t : Tm} (h : validT t = true) : (varsT t).Nodup := by
  rw [varsT_eq h]
  exact addAll_nodup List.nodup_nil

theorem canon_sub {t : Tm} (h : validT t = true) : canonT t = substT (fun n => V (posI (varsT t) n)) t := by
  have h1 : canonT t = (appT canG [] t).2 := by simp [canonT, h]
  rw [h1, (can_num (varsT t) t [] ⟨[], by rw [List.append_nil]; simp [varsT, h]⟩).2]
  exact appT_sub (fun n nm l _ => rfl) t (valid_fits h)

theorem posI_mem {L : List Int} {n : Int} (h : n ∈ L) : posI L n = (L.idxOf n : Nat) := by
  unfold posI
  rw [if_pos h]

theorem canon_valid {t : Tm} (h : validT t = true) : validT (canonT t) = true := by
  rw [canon_sub h]
  refine valid_ren h fun n hn => ?_
  have hm := (mem_vars h).2 hn
  rw [posI_mem hm]
  have h1 := List.idxOf_lt_length_iff.2 hm
  have h2 := vars_len h
  omega

theorem idx_nodup : ∀ {L : List Int} (_ : L.Nodup) {i : Nat} (hi : i < L.length), L.idxOf L[i] = i
  | [], _, i, hi => by simp at hi
  | a :: L, h, 0, hi => by simp
  | a :: L, h, i + 1, hi => by
    rw [List.nodup_cons] at h
    have hi' : i < L.length := by simpa using hi
    have hne : (a == L[i]) = false := by
      rw [beq_eq_false_iff_ne]
      intro e
      exact h.1 (e ▸ List.getElem_mem hi')
    show (a :: L).idxOf L[i] = i + 1
    rw [List.idxOf_cons, hne, cond_false, idx_nodup h.2 hi']

theorem map_idx {L : List Int} (h : L.Nodup) : L.map (fun n => posI L n) = (List.range L.length).map fun (i : Nat) => (i : Int) := by
  refine List.ext_getElem (by simp) fun i h1 h2 => ?_
  simp only [List.length_map] at h1
  simp only [List.getElem_map, List.getElem_range]
  rw [posI_mem (List.getElem_mem h1), idx_nodup h h1]

theorem canon_vars {t : Tm} (h : validT t = true) : varsT (canonT t) = (List.range (varsT t).length).map fun (i : Nat) => (i : Int) := by
  rw [varsT_eq (canon_valid h), canon_sub h, occ_ren, ← map_idx (vars_nodup h)]
  have := addAll_map (ρ := posI (varsT t)) (l := occT t) (s := []) fun m n hm hn he => by
    have h1 : m ∈ varsT t := (mem_vars h).2 (by simpa using hm)
    have h2 : n ∈ varsT t := (mem_vars h).2 (by simpa using hn)
    rw [posI_mem h1, posI_mem h2] at he
    have he' : (varsT t).idxOf m = (varsT t).idxOf n := by omega
    have h3 := List.idxOf_lt_length_iff.2 h1
    have h4 := List.idxOf_lt_length_iff.2 h2
    have e1 : (varsT t)[(varsT t).idxOf m] = m := List.getElem_idxOf h3
    have e2 : (varsT t)[(varsT t).idxOf n] = n := List.getElem_idxOf h4
    rw [← e1, ← e2]
    simp only [he']
  rw [← varsT_eq h] at this
  simpa using this

theorem range_pos {n k : Nat} (h : k < n) : posI ((List.range n).map fun (i : Nat) => (i : Int)) (k : Int) = k := by
  have hm : (k : Int) ∈ (List.range n).map fun (i : Nat) => (i : Int) := List.mem_map.2 ⟨k, by simpa using h, rfl⟩
  have hnd : ((List.range n).map fun (i : Nat) => (i : Int)).Nodup := List.Pairwise.map _ (fun a b hab => by simp at hab ⊢; omega) List.nodup_range
  rw [posI_mem hm]
  have := idx_nodup hnd (i := k) (by simpa using h)
  simp only [List.getElem_map, List.getElem_range] at this
  rw [this]

theorem canon_canon {t : Tm} (h : validT t = true) : canonT (canonT t) = canonT t := by
  have hc := canon_valid h
  rw [canon_sub hc]
  refine sub_id_of (valid_fits hc) fun n hn => ?_
  have hm := (mem_vars hc).2 hn
  rw [canon_vars h] at hm ⊢
  obtain ⟨k, hk, rfl⟩ := List.mem_map.1 hm
  rw [range_pos (by simpa using hk)]

theorem canon_size {t : Tm} (h : validT t = true) : sizeT (canonT t) = sizeT t := by
  rw [size_valid (canon_valid h), size_valid h, canon_sub h, nodes_ren (valid_fits h)]

theorem canon_ren {t : Tm} {m : Int} (h : validT t = true) (hv : validT (substT (fun n => V (n + m)) t) = true) : canonT (substT (fun n => V (n + m)) t) = canonT t := by
  have hL : varsT (substT (fun n => V (n + m)) t) = (varsT t).map (· + m) := by
    rw [varsT_eq hv, varsT_eq h, occ_ren (ρ := fun n => n + m)]
    have := addAll_map (ρ := fun n => n + m) (l := occT t) (s := []) fun a b _ _ he => by
      have he' : a + m = b + m := he
      omega
    simpa using this
  rw [canon_sub hv, canon_sub h, sub_sub (ρ := fun n => n + m), hL]
  refine sub_congr t fun n hn => ?_
  have hm := (mem_vars h).2 hn
  have hm' : n + m ∈ (varsT t).map (· + m) := List.mem_map.2 ⟨n, hm, rfl⟩
  rw [posI_mem hm', posI_mem hm]
  have h3 := List.idxOf_lt_length_iff.2 hm
  have hnd : ((varsT t).map (· + m)).Nodup := List.Pairwise.map _ (fun a b hab => by intro e; exact hab (by omega)) (vars_nodup h)
  have := idx_nodup hnd (i := (varsT t).idxOf n) (by simpa using h3)
  simp only [List.getElem_map, List.getElem_idxOf] at this
  rw [this]

/-! ### Replaced variables -/
theorem mem_rep {t by_ : Tm} {v n : Int} : n ∈ occT (substT (repF v by_) t) ↔ (n ∈ occT t ∧ n ≠ v) ∨ (v ∈ occT t ∧ n ∈ occT by_) := by
  rw [occ_sub, List.mem_flatMap]
  constructor
  · rintro ⟨m, hm, hn⟩
    by_cases hmv : m = v
    · subst hmv
      simp only [repF, if_true] at hn
      exact .inr ⟨hm, hn⟩
    · simp only [repF, if_neg hmv, occT, if_true, List.mem_singleton] at hn
      subst hn
      exact .inl ⟨hm, hmv⟩
  · rintro (⟨h1, h2⟩ | ⟨h1, h2⟩)
    · exact ⟨n, h1, by simp [repF, h2, occT]⟩
    · exact ⟨v, h1, by simp [repF, h2]⟩

theorem rep_none {t by_ : Tm} {v : Int} (h : fitsT t = true) (hv : v ∉ occT t) : substT (repF v by_) t = t :=
  sub_id_of h fun n hn => by simp [repF, show n ≠ v from fun e => hv (e ▸ hn)]

theorem rep_self {t : Tm} {v : Int} (h : fitsT t = true) : substT (repF v (V v)) t = t :=
  sub_id_of h fun n hn => by
    unfold repF
    split
    · rename_i e; rw [e]
    · rfl

theorem occN_pos {v : Int} {l : List Int} : 0 < occN v l ↔ v ∈ l := by
  unfold occN
  constructor
  · intro h
    have : (l.filter (· == v)).length ≠ 0 := by omega
    obtain ⟨x, hx⟩ := List.exists_mem_of_length_pos (Nat.pos_of_ne_zero this)
    rw [List.mem_filter] at hx
    have := eq_of_beq hx.2
    exact this ▸ hx.1
  · intro h
    have : v ∈ l.filter (· == v) := List.mem_filter.2 ⟨h, by simp⟩
    have := List.length_pos_of_mem this
    omega

end Go.Proofs.Ytloekfnlidclcaa
