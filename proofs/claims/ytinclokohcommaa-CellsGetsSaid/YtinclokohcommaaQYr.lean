/-
  Following references; the term of a cell: plain facts on valid stores. No condition.
-/
import Derived.Test.YtinclokohcommaaZe
import Derived.Test.YtinclokohcommaaQTf
namespace Go.Proofs.Ytinclokohcommaa
open Go.RowKit
set_option linter.unusedVariables false
set_option linter.unusedSimpArgs false

/-- What a valid store says of a cell of its heap. -/
theorem vr_head {s : So} (h : validR s = true) : headB s = true := by
  simp only [validR, Bool.and_eq_true] at h
  exact h.1
theorem vr_syms {s : So} (h : validR s = true) : symsB s.ys = true := by
  have := vr_head h
  simp only [headB, Bool.and_eq_true] at this
  exact this.2.2.2.2
theorem vr_len {s : So} (h : validR s = true) : s.cs.length ≤ 1048576 := by
  have := vr_head h
  simp only [headB, Bool.and_eq_true, decide_eq_true_eq] at this
  omega
theorem vr_cell {s : So} (h : validR s = true) {i : Int} (hi : inS s i = true) : cellR s i = true := by
  simp only [validR, Bool.and_eq_true] at h
  have h1 := inS_iff.1 hi
  have hk := all_of h.2.1 (k := i.toNat) (by omega)
  rwa [show ((i.toNat : Nat) : Int) = i by omega] at hk
theorem vr_vc {s : So} (h : validR s = true) {i : Int} (hi : inS s i = true) (ht : (cellAt s i).t ≠ 4) : vcR s (cellAt s i) = true := by
  have := vr_cell h hi
  unfold cellR at this
  rw [if_neg ht] at this
  simp only [Bool.and_eq_true] at this
  exact this.1
theorem vr_ends {s : So} (h : validR s = true) {i : Int} (hi : inS s i = true) : endsB s i = true := by
  by_cases ht : (cellAt s i).t = 4
  · exact (En.st (fun hn => by have := hn.1; rw [tagS_in hi] at this; omega)).ends
  · have := vr_cell h hi
    unfold cellR at this
    rw [if_neg ht] at this
    simp only [Bool.and_eq_true] at this
    exact this.2.1
theorem vc_ref {s : So} {c : Ce} (h : vcR s c = true) (ht : c.t = 0) : inS s c.n = true ∧ (cellAt s c.n).t ≠ 4 := by
  unfold vcR at h
  rw [if_pos ht] at h
  simp only [Bool.and_eq_true, Bool.not_eq_true', decide_eq_false_iff_not] at h
  rw [tagS_in h.1] at h
  exact h
theorem vr_nx {s : So} (h : validR s = true) {n : Int} (hn : Ns s n) : inS s (nx s n) = true := by
  have hi := hn.inS
  have ht : (cellAt s n).t = 0 := by have := hn.1; rwa [tagS_in hi] at this
  exact (vc_ref (vr_vc h hi (by omega)) ht).1
theorem vr_fun {s : So} (h : validR s = true) {i : Int} (hi : inS s i = true) (ht : (cellAt s i).t = 4) : 1 ≤ arS s (cellAt s i).n ∧ arS s (cellAt s i).n ≤ 8 ∧ ∀ j : Nat, (j : Int) < arS s (cellAt s i).n → inS s (i + 1 + j) = true ∧ vcR s (cellAt s (i + 1 + j)) = true := by
  have := vr_cell h hi
  unfold cellR at this
  rw [if_pos ht] at this
  simp only [Bool.and_eq_true, decide_eq_true_eq, List.all_eq_true, List.mem_range, Bool.not_eq_true', decide_eq_false_iff_not] at this
  obtain ⟨h1, h2, h3⟩ := this
  refine ⟨h1, (symsB_ar (vr_syms h) _).2, fun j hj => ?_⟩
  have q := inS_iff.1 h2
  have q1 := inS_iff.1 hi
  have hin : inS s (i + 1 + j) = true := inS_iff.2 ⟨by omega, by omega⟩
  refine ⟨hin, vr_vc h hin ?_⟩
  have := h3 j (by omega)
  rw [show i + ((j : Int) + 1) = i + 1 + j by omega, tagS_in hin] at this
  exact this
theorem ar_rng {s : So} {n : Int} (h : 0 ≤ arS s n) : 0 ≤ n ∧ n < s.ys.length ∧ arS s n = (s.ys.getD n.toNat default).ar := by
  unfold arS at h ⊢
  split at h
  · rename_i hn
    rw [if_pos hn]
    exact ⟨hn.1, hn.2, rfl⟩
  · omega
def syAt (s : So) (n : Int) : Sy := s.ys.getD n.toNat default
theorem vr_name {s : So} (h : validR s = true) {n : Int} (hn : 0 ≤ arS s n) : (syAt s n).name.size ≤ 100 := by
  obtain ⟨h0, h1, -⟩ := ar_rng hn
  have := vr_syms h
  simp only [symsB, Bool.and_eq_true] at this
  have := all_of this.2 (k := n.toNat) (by omega)
  simp only [symAt, okY, Bool.and_eq_true, decide_eq_true_eq] at this
  exact this.1.1

theorem rank_all {s : So} (hv : ∀ m, Ns s m → inS s (nx s m) = true) : ∀ (k : Nat) (n : Int), inS s n = true → endsN s (k + 1) n = true → endsN s k n = false → ∃ l : List Int, l.length = k + 1 ∧ l.Nodup ∧ (∀ x ∈ l, inS s x = true) ∧ ∀ x ∈ l, ∃ j, j ≤ k ∧ endsN s (j + 1) x = true
  | 0, n, hi, h1, _ => ⟨[n], rfl, by simp, (fun x hx => by rw [List.mem_singleton.1 hx]; exact hi), fun x hx => ⟨0, Nat.le_refl _, by rw [List.mem_singleton.1 hx]; exact h1⟩⟩
  | k + 1, n, hi, h1, h2 => by
    have hn : Ns s n := Classical.byContradiction fun hn => by rw [endsN_st hn] at h2; cases h2
    have h1' := h1
    rw [endsN_ns hn] at h1 h2
    obtain ⟨l, e1, e2, e3, e4⟩ := rank_all hv k _ (hv n hn) h1 h2
    refine ⟨n :: l, by simp [e1], ?_, fun x hx => ?_, fun x hx => ?_⟩
    · refine List.nodup_cons.2 ⟨fun hm => ?_, e2⟩
      obtain ⟨j, hj, he⟩ := e4 n hm
      rw [endsN_ns hn] at he
      rw [endsN_le hj he] at h2
      cases h2
    · rcases List.mem_cons.1 hx with rfl | hx
      · exact hi
      · exact e3 x hx
    · rcases List.mem_cons.1 hx with rfl | hx
      · exact ⟨k + 1, Nat.le_refl _, h1'⟩
      · obtain ⟨j, hj, he⟩ := e4 x hx
        exact ⟨j, by omega, he⟩
theorem vr_ends_len {s : So} (h : validR s = true) {n : Int} (hi : inS s n = true) : endsN s s.cs.length n = true := by
  cases hk' : endsN s s.cs.length n with
  | true => rfl
  | false =>
    obtain ⟨l, e1, e2, e3, -⟩ := rank_all (fun m hm => vr_nx h hm) s.cs.length n hi (vr_ends h hi) hk'
    have h1 := nodup_lt s.cs.length (l.map Int.toNat) ?_ ?_
    · rw [List.length_map, e1] at h1
      omega
    · refine List.Pairwise.map _ (fun a b h => h) ?_
      refine List.Pairwise.imp_of_mem (R := fun a b => a ≠ b) (fun {a b} ha hb hab e => hab ?_) e2
      have h1 := inS_iff.1 (e3 a ha)
      have h2 := inS_iff.1 (e3 b hb)
      omega
    · intro x hx
      obtain ⟨a, ha, rfl⟩ := List.mem_map.1 hx
      have h1 := inS_iff.1 (e3 a ha)
      omega

/-- Follows references. -/
def derN (s : So) : Nat → Ce → Ce
  | 0, c => c
  | k + 1, c => if c.t = 0 ∧ inS s c.n = true ∧ cellAt s c.n ≠ c then derN s k (cellAt s c.n) else c
theorem derN_t {s : So} {c : Ce} (h : c.t ≠ 0) : ∀ k, derN s k c = c
  | 0 => rfl
  | k + 1 => if_neg fun q => h q.1
theorem der_stable {s : So} (j : Nat) : ∀ (k : Nat) (n : Int), endsN s k n = true → derN s (k + j) ⟨0, n⟩ = derN s k ⟨0, n⟩
  | 0, n, h => by cases h
  | k + 1, n, h => by
    rw [show k + 1 + j = (k + j) + 1 by omega]
    unfold derN
    split
    · rename_i hc
      by_cases ht : (cellAt s n).t = 0
      · have e : cellAt s n = ⟨0, nx s n⟩ := Ce.ext' ht rfl
        have hn : Ns s n := ⟨(tagS_in hc.2.1).trans ht, fun hn => hc.2.2 (Ce.ext' ht hn)⟩
        rw [endsN_ns hn] at h
        show derN s (k + j) (cellAt s n) = derN s k (cellAt s n)
        rw [e]
        exact der_stable j k _ h
      · rw [derN_t ht, derN_t ht]
    · rfl
def derS (s : So) (c : Ce) : Ce := if vcR s c then derN s (s.cs.length + 1) c else ⟨0, 0⟩
theorem der_len {s : So} (h : validR s = true) {c : Ce} (hc : vcR s c = true) : derN s s.cs.length c = derN s (s.cs.length + 1) c := by
  by_cases ht : c.t = 0
  · have e : c = ⟨0, c.n⟩ := Ce.ext' ht rfl
    rw [e]
    exact (der_stable 1 _ _ (vr_ends_len h (vc_ref hc ht).1)).symm
  · rw [derN_t ht, derN_t ht]
theorem derN_vc {s : So} (h : validR s = true) : ∀ (k : Nat) {c : Ce}, vcR s c = true → vcR s (derN s k c) = true
  | 0, c, hc => hc
  | k + 1, c, hc => by
    unfold derN
    split
    · rename_i q
      exact derN_vc h k (vr_vc h q.2.1 (vc_ref hc q.1).2)
    · exact hc
theorem derS_vc {s : So} (h : validR s = true) {c : Ce} (hc : vcR s c = true) : vcR s (derS s c) = true := by
  rw [derS, if_pos hc]
  exact derN_vc h _ hc

/-! ### The term of a cell -/
def getL (g : Ce → Int → Te × Int) : List Ce → Int → List Te × Int
  | [], l => ([], l)
  | c :: cs, l => if l < 0 then ([], l) else ((g c l).1 :: (getL g cs (g c l).2).1, (getL g cs (g c l).2).2)
def argsOf (s : So) (n : Int) (k : Nat) : List Ce := (List.range k).map fun j => cellAt s (n + 1 + (j : Nat))
def getN (s : So) : Nat → Ce → Int → Te × Int
  | 0, _, left => (zT, left - 1)
  | f + 1, c, left => if left - 1 < 0 then (zT, left - 1)
    else if (derS s c).t = 1 then (.mk 1 (derS s c).n ⟨#[]⟩ [], left - 1)
    else if (derS s c).t = 2 then (.mk 2 0 (syAt s (derS s c).n).name [], left - 1)
    else if (derS s c).t = 3 then (.mk 3 0 (syAt s (cellAt s (derS s c).n).n).name (getL (getN s f) (argsOf s (derS s c).n (arS s (cellAt s (derS s c).n).n).toNat) (left - 1)).1, (getL (getN s f) (argsOf s (derS s c).n (arS s (cellAt s (derS s c).n).n).toNat) (left - 1)).2)
    else (.mk 0 (derS s c).n ⟨#[]⟩ [], left - 1)
theorem getL_le {g : Ce → Int → Te × Int} (hg : ∀ c l, 0 ≤ l → (g c l).2 ≤ l - 1 ∧ -1 ≤ (g c l).2) : ∀ (cs : List Ce) (l : Int), -1 ≤ l → (getL g cs l).2 ≤ l ∧ -1 ≤ (getL g cs l).2
  | [], l, h => ⟨Int.le_refl _, h⟩
  | c :: cs, l, h => by
    unfold getL
    split
    · exact ⟨Int.le_refl _, h⟩
    · have h1 := hg c l (by omega)
      have h2 := getL_le hg cs (g c l).2 h1.2
      exact ⟨by omega, h2.2⟩
theorem getN_le (s : So) : ∀ (f : Nat) (c : Ce) (l : Int), 0 ≤ l → (getN s f c l).2 ≤ l - 1 ∧ -1 ≤ (getN s f c l).2
  | 0, c, l, h => ⟨Int.le_refl _, by simp only [getN]; omega⟩
  | f + 1, c, l, h => by
    unfold getN
    split
    · simp only; omega
    split
    · simp only; omega
    split
    · simp only; omega
    split
    · exact getL_le (getN_le s f) _ _ (by omega)
    · simp only; omega
theorem getL_ok {g : Ce → Int → Te × Int} {P : Ce → Prop} (hl : ∀ c l, 0 ≤ l → (g c l).2 ≤ l - 1 ∧ -1 ≤ (g c l).2) (hg : ∀ c l, P c → 0 ≤ l → 0 ≤ (g c l).2 → nodesT (g c l).1 = true ∧ (szT (g c l).1 : Int) = l - (g c l).2) : ∀ (cs : List Ce) (l : Int), (∀ c ∈ cs, P c) → -1 ≤ l → 0 ≤ (getL g cs l).2 → (getL g cs l).1.length = cs.length ∧ nodesTs (getL g cs l).1 = true ∧ (szTs (getL g cs l).1 : Int) = l - (getL g cs l).2
  | [], l, _, _, _ => by simp [getL, nodesTs, szTs]
  | c :: cs, l, hP, h, h0 => by
    unfold getL at h0 ⊢
    split at h0
    · simp only at h0; omega
    rename_i hn
    rw [if_neg hn]
    have h1 := hl c l (by omega)
    have h2 := getL_le hl cs (g c l).2 h1.2
    simp only at h0
    obtain ⟨q1, q2, q3⟩ := getL_ok hl hg cs (g c l).2 (fun c hc => hP c (List.mem_cons_of_mem _ hc)) h1.2 h0
    obtain ⟨q4, q5⟩ := hg c l (hP c List.mem_cons_self) (by omega) (by omega)
    simp only [List.length_cons, nodesTs, szTs, q1, q2, q4]
    refine ⟨by first | trivial | rfl, by first | trivial | rfl, ?_⟩
    omega
theorem getN_ok {s : So} (h : validR s = true) : ∀ (f : Nat) (c : Ce) (l : Int), vcR s c = true → 0 ≤ l → 0 ≤ (getN s f c l).2 → nodesT (getN s f c l).1 = true ∧ (szT (getN s f c l).1 : Int) = l - (getN s f c l).2
  | 0, c, l, _, _, h0 => by
    simp only [getN] at h0 ⊢
    exact ⟨rfl, by simp [zT, szT, szTs]; omega⟩
  | f + 1, c, l, hc, hl, h0 => by
    have hd := derS_vc h hc
    unfold getN at h0 ⊢
    split at h0
    · simp only at h0; omega
    rename_i hn
    rw [if_neg hn]
    split at h0
    · rename_i ht
      rw [if_pos ht]
      exact ⟨by simp [nodesT, nodesTs, nodeT, Te.k, Te.n, Te.s, Te.l], by simp [szT, szTs]; omega⟩
    rename_i h1
    rw [if_neg h1]
    split at h0
    · rename_i ht
      rw [if_pos ht]
      have ha : arS s (derS s c).n = 0 := by
        simp only [vcR, ht] at hd
        simpa using hd
      have := vr_name h (n := (derS s c).n) (by omega)
      refine ⟨?_, by simp [szT, szTs]; omega⟩
      have h2 : ((syAt s (derS s c).n).name.size : Int) ≤ 100 := by omega
      simp only [nodesT, nodesTs, nodeT, Te.k, Te.n, Te.s, Te.l, h2]
      rfl
    rename_i h2
    rw [if_neg h2]
    split at h0
    · rename_i ht
      rw [if_pos ht]
      have htag : tagS s (derS s c).n = 4 := by
        simp only [vcR, ht] at hd
        simpa using hd
      have hin := tag_in' (by decide) htag
      rw [tagS_in hin] at htag
      obtain ⟨a1, a2, a3⟩ := vr_fun h hin htag
      obtain ⟨q1, q2, q3⟩ := getL_ok (P := fun c => vcR s c = true) (getN_le s f) (fun c l => getN_ok h f c l) (argsOf s (derS s c).n (arS s (cellAt s (derS s c).n).n).toNat) (l - 1) (fun x hx => by
        obtain ⟨j, hj, rfl⟩ := List.mem_map.1 hx
        have := List.mem_range.1 hj
        exact (a3 j (by omega)).2) (by omega) h0
      have h3 := vr_name h (n := (cellAt s (derS s c).n).n) (by omega)
      have h4 : ((syAt s (cellAt s (derS s c).n).n).name.size : Int) ≤ 100 := by omega
      have h5 : (argsOf s (derS s c).n (arS s (cellAt s (derS s c).n).n).toNat).length = (arS s (cellAt s (derS s c).n).n).toNat := by simp [argsOf]
      rw [h5] at q1
      refine ⟨?_, by simp only [szT]; omega⟩
      simp only [nodesT, nodeT, Te.k, Te.n, Te.s, Te.l, h4, q1, q2]
      have h6 : (1 : Int) ≤ ((arS s (cellAt s (derS s c).n).n).toNat : Int) := by omega
      have h7 : ((arS s (cellAt s (derS s c).n).n).toNat : Int) ≤ 8 := by omega
      simp only [h6, h7]
      rfl
    rename_i h3
    rw [if_neg h3]
    have hin : inS s (derS s c).n = true := by
      rcases vcR_tag hd with ht | ht | ht | ht | ht
      · exact (vc_ref hd ht).1
      · exact absurd ht h1
      · exact absurd ht h2
      · exact absurd ht h3
      · simp only [vcR, ht] at hd
        exact tag_in' (t := 5) (by decide) (by simpa using hd)
    have q := inS_iff.1 hin
    have q1 := vr_len h
    refine ⟨?_, by simp [szT, szTs]; omega⟩
    have h4 : 0 ≤ (derS s c).n := q.1
    have h5 : (derS s c).n ≤ 1099511627776 := by omega
    simp only [nodesT, nodesTs, nodeT, Te.k, Te.n, Te.s, Te.l, h4, h5]
    rfl
theorem get_valid {s : So} (h : validR s = true) {f : Nat} {c : Ce} {l : Int} (hc : vcR s c = true) (hl : 0 ≤ l) (hm : l ≤ 2000) (h0 : 0 ≤ (getN s f c l).2) : validT (getN s f c l).1 = true := by
  obtain ⟨q1, q2⟩ := getN_ok h f c l hc hl h0
  simp only [validT, q1, Bool.and_true, decide_eq_true_eq]
  omega
end Go.Proofs.Ytinclokohcommaa
